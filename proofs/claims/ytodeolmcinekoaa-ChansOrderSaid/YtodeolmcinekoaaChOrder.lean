/- A part of proofs about functions of one program: a condition over a partial memory that is enough for a call, and what calls answer by it. No condition of its own. -/
import Derived.Test.YtodeolmcinekoaaState
namespace Go.Proofs
open Go.AF
set_option linter.unusedVariables false
set_option maxRecDepth 100000

/-- The numbers from a on, so many. -/
def fromTo (a n : Nat) : List Int := (List.range n).map fun (i : Nat) => ((a + i : Nat) : Int)
theorem fromTo_snoc (a n : Nat) : fromTo a (n + 1) = fromTo a n ++ [((a + n : Nat) : Int)] := by simp [fromTo, List.range_succ]
theorem fromTo_len (a n : Nat) : (fromTo a n).length = n := by simp [fromTo]
theorem fromTo_cons (a n : Nat) : fromTo a (n + 1) = ((a : Nat) : Int) :: fromTo (a + 1) n := by
  unfold fromTo
  rw [List.range_succ_eq_map, List.map_cons, List.map_map]
  congr 1
  apply List.map_congr_left
  intro i _
  simp only [Function.comp_apply]
  congr 1
  omega

/-- A channel with the numbers from out to in, in order; who waits does so at a full one. -/
def Fifo (M0 M : Mem) (b R out n : Nat) : Prop :=
  ∃ F buf snd, ChanAt M b F R buf snd [] false ∧ buf ++ snd.map (·.v) = fromTo out n ∧ (snd ≠ [] → R ≤ buf.length) ∧ (∀ x ∈ F, M0 x = none) ∧ Chg [] M0 M

theorem Fifo.recv {buf : List Int} {snd : List Wt} {out n : Nat} (h : buf ++ snd.map (·.v) = fromTo out n) : rBuf buf snd ++ snd.tail.map (·.v) = fromTo out n := by
  rw [← h]
  cases snd with
  | nil => rfl
  | cons w r => simp [rBuf]

theorem chansOrder {room : Int} {A1 : Option Addr} {n1 c1 : Nat} {M : Mem} (hs : BoolSl M A1 n1) {K : Value → Mem → Prop} {Kp : List PanicEntry → Mem → Prop} (h : ∀ M', Chg [] M M' → K (.bool true) M') :
    ACalls Try.prog 9 #[.int .i64 room, .slice A1 n1 c1] M K Kp := by
  obtain ⟨hn1, gv, hg⟩ := hs
  refine vc_shunterlaw13_ChansOrder room A1 n1 c1 M K Kp ?_
  refine chans_awake fun M0 c0 => ?_
  rw [exB_some]
  refine chans_New fun b M1 hb C1 c1' => ?_
  rw [exP_some]
  generalize capOf room = R at *
  have c01 := c0.trans c1' (fun x hx => .inl hx)
  have hbM := c0.fresh hb
  have cs : ∀ {m : Mem} {k : Nat} {Z : Obj}, m k = none → Chg [] m (m.set k Z) := fun hk => (Chg.refl _ _).set (.inr hk)
  have move : ∀ {m m' : Mem} {out n : Nat}, Fifo M m b R out n → Chg [] m m' → Fifo M m' b R out n := fun hf hc => by
    obtain ⟨F, buf, snd, a1, a2, a3, a4, a5⟩ := hf
    exact ⟨F, buf, snd, a1.chg hc (by simp) (by simp), a2, a3, a4, a5.trans hc (fun x hx => .inl hx)⟩
  refine ⟨fun d vs M' => ∃ (i out n : Nat), vs = [.int .i64 ((out + n : Nat) : Int), .int .i64 (out : Int), .int .i64 (i : Int)] ∧ d = 40 - i ∧ i ≤ 40 ∧ out + n ≤ i ∧ Fifo M M' b R out n,
    ⟨40, 0, 0, 0, rfl, rfl, by omega, by omega, [], [], [], C1, rfl, by simp, by simp, c01⟩, fun d junk w1 w2 ii M2 hI => ?_⟩
  obtain ⟨i, out, n, he, hd, hi, hio, hF⟩ := hI
  simp only [List.cons.injEq, Value.int.injEq, and_true, true_and] at he
  obtain ⟨rfl, rfl, rfl⟩ := he
  obtain ⟨F, buf, snd, C2, hcat, hfull, hFM, c2⟩ := id hF
  have hlen : buf.length + snd.length = n := by
    have := congrArg List.length hcat
    simpa [fromTo_len] using this
  refine bsp_dec.2 ⟨fun hlt => bsp_dec.2 ⟨fun h40 => ?_, fun _ => ?_⟩, fun _ => ?_⟩
  · refine ⟨by omega, hlt, ?_⟩
    obtain ⟨ab, ao, hA1, hcell⟩ := hg i (by omega)
    subst hA1
    have v0 := Mem.le_ld c2.keep hcell
    rw [nilc_some, Int.toNat_natCast, v0, exB_some]
    have e_n : IntKind.wrap .i64 (((out + n : Nat) : Int) + 1) = ((out + (n + 1) : Nat) : Int) := by rw [wrap_succ (by omega)]; rfl
    have e_i : IntKind.wrap .i64 ((i : Int) + 1) = ((i + 1 : Nat) : Int) := wrap_succ (by omega)
    have e_o : IntKind.wrap .i64 ((out : Int) + 1) = ((out + 1 : Nat) : Int) := wrap_succ (by omega)
    rw [e_n, e_i, e_o]
    simp only [put_set_eq, wr_set_eq, ld_set_eq, Nat.zero_add, List.setIfInBounds_toArray, List.set_cons_zero, List.set_cons_succ, lit_get0, lit_get1, lit_get2, lit_get3, lit_get4, lit_get5, exI_some, exB_some]
    refine bsp_iff.2 ⟨fun _ => ?_, fun _ => ?_⟩
    · refine chans_Send C2 (by simp) (by omega) (fun h => by cases h) (fun _ w r h => by cases h) (fun _ _ hlt2 F3 M3 C3 c3 f3 => ?_) (fun _ _ hge M3 c3 => ?_)
      · have hs0 : snd = [] := by
          cases snd with
          | nil => rfl
          | cons w r => have := hfull (by simp); omega
        subst hs0
        refine ⟨_, _, _, _, _, rfl, ?_⟩
        intro k hk
        refine ⟨by simp, by simp, by simp, ?_⟩
        show ∃ _, _
        have cM3 := c2.trans c3 (fun x hx => by
          rcases List.mem_cons.1 hx with rfl | hx
          · exact .inr hbM
          · exact .inr (hFM x hx))
        refine ⟨40 - (i + 1), by omega, i + 1, out, n + 1, rfl, rfl, by omega, by omega, move (m := M3) ⟨F3, _, [], C3, ?_, by simp, fun x hx => ?_, cM3⟩ (cs hk)⟩
        · rw [fromTo_snoc, ← hcat]; simp
        · rcases f3 x hx with h | h
          · exact hFM x h
          · exact c2.fresh h
      · refine ⟨_, _, _, _, _, rfl, ?_⟩
        intro k hk
        refine ⟨by simp, by simp, by simp, ?_⟩
        show ACalls _ _ _ _ _ _
        have C4 := (C2.chg c3 (by simp) (by simp)).chg (cs (Z := .cells #[.int .i64 0, .int .i64 0, .int .i64 0] 54 (0, 0)) hk) (by simp) (by simp)
        have c4 := (c2.trans c3 (fun x hx => .inl hx)).trans (cs (Z := .cells #[.int .i64 0, .int .i64 0, .int .i64 0] 54 (0, 0)) hk) (fun x hx => .inl hx)
        refine chans_WaitSend (w := ⟨(i : Int), 0, ((out + n : Nat) : Int)⟩) C4 (by omega) fun F5 M5 C5 c5 f5 => ?_
        refine ⟨rfl, 40 - (i + 1), by omega, i + 1, out, n + 1, rfl, rfl, by omega, by omega, F5, buf, _, C5, ?_, fun _ => by omega, fun x hx => ?_, c4.trans c5 (fun x hx => by
          rcases List.mem_cons.1 hx with rfl | hx
          · exact .inr hbM
          · exact .inr (hFM x hx))⟩
        · rw [fromTo_snoc, ← hcat]; simp
        · rcases f5 x hx with h | h
          · exact hFM x h
          · exact c4.fresh h
    · refine chans_Recv C2 (by omega) (by omega) (fun v l hv F3 M3 C3 c3 f3 => ?_) (fun hno M3 c3 => ?_)
      · have hr := Fifo.recv hcat
        rw [hv] at hr
        obtain ⟨n', rfl⟩ : ∃ n', n = n' + 1 := by
          cases n with
          | zero => simp [fromTo] at hr
          | succ n' => exact ⟨n', rfl⟩
        rw [fromTo_cons, List.cons_append, List.cons.injEq] at hr
        obtain ⟨rfl, hr⟩ := hr
        refine ⟨_, _, _, _, _, _, _, rfl, ?_⟩
        intro k hk
        refine ⟨by simp, by simp, by simp, by simp, by simp, by simp, ?_⟩
        have hd : decide ((out : Int) < ((out + (n' + 1) : Nat) : Int)) = true := decide_eq_true (by omega)
        rw [hd]
        show bsp ((out : Int) != (out : Int)) _ _
        refine bsp_ne.2 ⟨fun hx => absurd rfl hx, fun _ => ?_⟩
        show ∃ _, _
        have hl : l.length + snd.tail.length = n' := by
          have := congrArg List.length hr
          simpa [fromTo_len] using this
        have cM3 := c2.trans c3 (fun x hx => by
          rcases List.mem_cons.1 hx with rfl | hx
          · exact .inr hbM
          · exact .inr (hFM x hx))
        refine ⟨40 - (i + 1), by omega, i + 1, out + 1, n', by rw [show out + (n' + 1) = out + 1 + n' from by omega], rfl, by omega, by omega, move (m := M3) ⟨F3, l, snd.tail, C3, hr, fun hne => ?_, fun x hx => ?_, cM3⟩ (cs hk)⟩
        · have hsn : snd ≠ [] := fun h0 => hne (by rw [h0]; rfl)
          have := hfull hsn
          have : (snd.tail).length = snd.length - 1 := by simp
          have : 0 < snd.length := List.length_pos_iff.2 hsn
          omega
        · rcases f3 x hx with h | h
          · exact hFM x h
          · exact c2.fresh h
      · have hn0 : n = 0 := by
          have hr := Fifo.recv hcat
          rw [hno] at hr
          have hsn : snd = [] := by
            cases snd with
            | nil => rfl
            | cons w r => simp [rBuf] at hno
          subst hsn
          have := congrArg List.length hr
          simpa [fromTo_len] using this.symm
        subst hn0
        refine ⟨_, _, _, _, _, _, _, rfl, ?_⟩
        intro k hk
        refine ⟨by simp, by simp, by simp, by simp, by simp, by simp, ?_⟩
        have hd : decide ((out : Int) < ((out + 0 : Nat) : Int)) = false := decide_eq_false (by omega)
        rw [hd]
        show ∃ _, _
        exact ⟨40 - (i + 1), by omega, i + 1, out, 0, rfl, rfl, by omega, by omega, (move (m := M3) (by
          exact ⟨F, buf, snd, C2.chg c3 (by simp) (by simp), hcat, hfull, hFM, c2.trans c3 (fun x hx => .inl hx)⟩) (cs hk))⟩
  · refine chans_State C2 ⟨by omega, by omega, by simp⟩ fun A a1 B d1 D e1 M' _ _ _ _ _ _ cc => ?_
    refine ⟨_, _, _, _, _, _, _, _, _, _, rfl, ?_⟩
    intro k hk
    simp only [put_set_eq, wr_set_eq, ld_set_eq, Nat.zero_add, List.setIfInBounds_toArray, List.set_cons_zero, List.set_cons_succ, lit_get0, lit_get1, lit_get2, lit_get3, exSl_some, exB_some]
    refine ⟨by simp, by simp, by simp, by simp, ?_⟩
    have e1 : IntKind.wrap .i64 ((buf.length : Int) + (snd.length : Int)) = (n : Int) := by rw [wrap_in (by omega) (by omega)]; omega
    have e2 : IntKind.wrap .i64 (((out + n : Nat) : Int) - (out : Int)) = (n : Int) := by rw [wrap_in (by omega) (by omega)]; omega
    rw [e1, e2, beq_self_eq_true]
    exact h _ ((c2.trans cc (fun x hx => .inl hx)).trans (cs hk) (fun x hx => .inl hx))
  · refine chans_State C2 ⟨by omega, by omega, by simp⟩ fun A a1 B d1 D e1 M' _ _ _ _ _ _ cc => ?_
    refine ⟨_, _, _, _, _, _, _, _, _, _, rfl, ?_⟩
    intro k hk
    simp only [put_set_eq, wr_set_eq, ld_set_eq, Nat.zero_add, List.setIfInBounds_toArray, List.set_cons_zero, List.set_cons_succ, lit_get0, lit_get1, lit_get2, lit_get3, exSl_some, exB_some]
    refine ⟨by simp, by simp, by simp, by simp, ?_⟩
    have e1 : IntKind.wrap .i64 ((buf.length : Int) + (snd.length : Int)) = (n : Int) := by rw [wrap_in (by omega) (by omega)]; omega
    have e2 : IntKind.wrap .i64 (((out + n : Nat) : Int) - (out : Int)) = (n : Int) := by rw [wrap_in (by omega) (by omega)]; omega
    rw [e1, e2, beq_self_eq_true]
    exact h _ ((c2.trans cc (fun x hx => .inl hx)).trans (cs hk) (fun x hx => .inl hx))
end Go.Proofs
