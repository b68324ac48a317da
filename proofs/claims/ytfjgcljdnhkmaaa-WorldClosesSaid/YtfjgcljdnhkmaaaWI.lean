/- A part of proofs about functions of one program: a condition over a partial memory that is enough for a call, and what calls answer by it. No condition of its own. -/
import Derived.Test.YtfjgcljdnhkmaaaWH
/- The world's next instruction. -/
namespace Go.Proofs
open Go.AF
set_option linter.unusedVariables false
set_option maxRecDepth 100000
set_option maxHeartbeats 1000000
attribute [local irreducible] exI exB exS exP exSl exV nilc stc nwc semK semU bsp
def Out.fin : Out Wd → Wd
  | .on y => y
  | .trap n y => { y with end_ := 2, code := n }
def restOf (op : Int) : Out Wd → Bool
  | .on _ => op == 12 || op == 17
  | .trap _ _ => false
/-- The next instruction of a goroutine, and what it comes to. -/
inductive Step (R : Mem) (pa : PA) (p : Prg) (dr : Value) (x : Wd) (g : Int) (code : List Ins) : Out Wd → Bool → List HP → List HP → Prop where
  | out {L : List HP} (h : (code.length : Int) ≤ (gorAt x g).top.pc) : Step R pa p dr x g code (.trap (-7) x) false L L
  | pure {L : List HP} (i : Ins) (h : code[(gorAt x g).top.pc.toNat]? = some i) (h0 : 0 ≤ i.op) (h8 : i.op ≤ 8) (hk : i.okPure) : Step R pa p dr x g code (.on (x.putG g ((gorAt x g).putTop ((gorAt x g).top.next.pure i)))) false L L
  | sel {L L2 : List HP} {r : Out Wd} (i : Ins) (h : code[(gorAt x g).top.pc.toNat]? = some i) (h16 : i.op = 16) (hs : OpSpec R pa p dr 33 x g i r L L2) : Step R pa p dr x g code r false L L2
  | dflt {L L2 : List HP} {r : Out Wd} (i : Ins) (fn : Nat) (h : code[(gorAt x g).top.pc.toNat]? = some i) (h8 : 8 < i.op) (h16 : i.op ≠ 16) (h21 : i.op ≠ 21) (hf : aget wTab i.op = some (.func (.func fn) #[] #[])) (hn : 1 < fn ∧ fn < 91)
      (hs : OpSpec R pa p dr fn (x.next g) g i r L L2) : Step R pa p dr x g code r (restOf i.op r) L L2
section
variable {R : Mem} {L L' L2 : List HP} {M : Mem} {K : Value → Mem → Prop} {Kp : List PanicEntry → Mem → Prop} {pa : PA} {p : Prg} {gg : List GA} {dr : Value} {b : Nat} {x : Wd} {g : Int} {i : Ins}
theorem f_ldFn {c bs j : Nat} {l : List Frm} {f : Frm} {G : Int → Prop} (h : Hp R L M) [q : RowAt (some ⟨bs, 0, none⟩) L Frm frmE 53 c l L'] (hi : l[j]? = some f) (g : G f.fn) : exI (M.ld ⟨bs, j * 11, none⟩) .i64 G := by
  refine v_exI (Src.at (h.src (A := some ⟨bs, 0, none⟩)) h (i := j) (j := 0) hi rfl ?_) g
  show _ = 0 + (j * 11 + 0); omega
theorem w_trap {n : Int} {v : Value} {Q : HP} (h : Hp R (objP (worldR pa p gg dr) b x :: Q :: L) M) (k : ∀ M', Hp R (objP (worldR pa p gg dr) b { x with end_ := 2, code := n } :: L) M' → K v M') :
    leaveK Try.prog 31 (.pointer (some ⟨b, 0, none⟩)) K Kp v (.panicking (trapV n)) M := by
  refine leave_trap ?_
  have h' := world_open h (b := b)
  clear h
  obtain ⟨a, hl, h⟩ := h'
  repeat (first | (refine s_nwc h ?_; clear h; intro kb M h) | (refine s_stc h ?_; clear h; intro M h) | refine t_exI h ?_ | refine t_exB h ?_ | refine t_exS h ?_ | refine t_exP h ?_ | refine t_exSl h ?_ | refine t_exV h ?_ | refine u_exI ?_ | refine u_exB ?_ | refine u_exS ?_ | refine u_exP ?_ | refine u_exSl ?_ | refine u_exV ?_ | refine u_nilc ?_ | (apply Exists.intro; (repeat apply Exists.intro); refine And.intro rfl ?_) | (refine And.intro ?_ ?_; first | exact trivial | exact rfl | exact t_ld h | (refine lds_s (t_ld h) ?_; (repeat (refine lds_s (t_ld h) ?_)); exact lds_nil) | omega) | refine u_bspT ?_ | refine u_bspF ?_)
  exact k _ (world_mk (a := a) (x := { x with end_ := 2, code := n }) hl (h.sub (by repeat (first | exact Sub.refl | refine Sub.cons (by first | exact Pick.here | exact (.there .here) | exact (.there (.there .here)) | exact (.there (.there (.there .here))) | exact (.there (.there (.there (.there .here)))) | exact (.there (.there (.there (.there (.there .here))))) | exact (.there (.there (.there (.there (.there (.there .here)))))) | exact (.there (.there (.there (.there (.there (.there (.there .here))))))) | exact (.there (.there (.there (.there (.there (.there (.there (.there .here)))))))) | exact (.there (.there (.there (.there (.there (.there (.there (.there (.there .here))))))))) | exact (.there (.there (.there (.there (.there (.there (.there (.there (.there (.there .here)))))))))) | exact (.there (.there (.there (.there (.there (.there (.there (.there (.there (.there (.there .here))))))))))) | exact (.there (.there (.there (.there (.there (.there (.there (.there (.there (.there (.there (.there .here)))))))))))) | exact (.there (.there (.there (.there (.there (.there (.there (.there (.there (.there (.there (.there (.there .here))))))))))))) | exact (.there (.there (.there (.there (.there (.there (.there (.there (.there (.there (.there (.there (.there (.there .here)))))))))))))) | exact (.there (.there (.there (.there (.there (.there (.there (.there (.there (.there (.there (.there (.there (.there (.there .here)))))))))))))))) ?_ | refine Sub.drop ?_))))
theorem do_rest {k : Nat} {bw : Nat} (h : Hp R L M) [o : PtAt k L [.int .i64 i.op, .int .i64 i.a, .int .i64 i.b, .int .i64 i.c] 31 L'] (g : K (.bool (i.op == 12 || i.op == 17)) M) :
    exI (M.ld ⟨k, 0, none⟩) .i64 fun n => bsp (n == 12) (leaveK Try.prog 31 (.pointer (some ⟨bw, 0, none⟩)) K Kp (.bool true) .returning M)
      (exI (M.ld ⟨k, 0, none⟩) .i64 fun n => leaveK Try.prog 31 (.pointer (some ⟨bw, 0, none⟩)) K Kp (.bool (n == 17)) .returning M) := by
  have hp := h.pick o.pick
  refine t_exI hp ?_
  refine bsp_eq.2 ⟨fun e => ?_, fun e => ?_⟩
  · rw [e] at g; exact leave_ok g
  · refine t_exI hp ?_
    have : (i.op == 12) = false := by simpa using e
    rw [this, Bool.false_or] at g
    exact leave_ok g
theorem world_do {code : List Ins} {r : Out Wd} {rest : Bool} (h : Hp R L M) [o : WAt b L pa p gg dr x L'] (hp : PrgR R pa p) (hg : gorOk x g) (hfn : 0 ≤ (gorAt x g).top.fn) (hcode : p.funcs[(gorAt x g).top.fn.toNat]? = some code)
    (hpc : 0 ≤ (gorAt x g).top.pc ∧ (gorAt x g).top.pc < 1000000000) (hs : Step R pa p dr x g code r rest L' L2)
    (k : ∀ gg' M', Hp R (objP (worldR pa p gg' dr) b r.fin :: L2) M' → K (.bool rest) M') : ACalls Try.prog 25 #[.pointer (some ⟨b, 0, none⟩), .int .i64 g] M K Kp := by
  refine vc_world_World_do ?_
  have hg' := hg
  obtain ⟨h0, h1, h2, h3⟩ := hg'
  have h' := world_at h (b := b) h0 h1
  clear h
  obtain ⟨a, gb, A, c, hl, hgb, hgg, h⟩ := h'
  have hl' := hl
  obtain ⟨l1, l2, l3, l4⟩ := hl'
  obtain ⟨bs, rfl⟩ := h.row_some (A := A) h2 (by decide)
  have hcl : ∀ {M : Mem}, Hp R (pt gb (gorCells (gorAt x g) (some ⟨bs, 0, none⟩) c) 68 :: rowF (some ⟨bs, 0, none⟩) c (gorAt x g).fs :: pt b (wCells pa p dr a x) 76 :: objsX gorR a.gb (x.gs.zip gg) g.toNat :: wRest a x L') M → Hp R (objP (worldR pa p gg dr) b x :: L') M := by
    intro M h
    replace h := world_in h gb hl hgb hgg
    have hl2 := lens_put (y := gorAt x g) (g := g) hl
    replace h := world_close (a := a) (p := p) (pa := pa) (dr := dr) (gg := gg) (x := x.putG g (gorAt x g)) hl2 h b
    rwa [sx h0 h1] at h
  repeat (first | (refine s_nwc h ?_; clear h; intro kb M h) | (refine s_stc h ?_; clear h; intro M h) | refine t_exI h ?_ | refine t_exB h ?_ | refine t_exS h ?_ | refine t_exP h ?_ | refine t_exSl h ?_ | refine t_exV h ?_ | refine u_exI ?_ | refine u_exB ?_ | refine u_exS ?_ | refine u_exP ?_ | refine u_exSl ?_ | refine u_exV ?_ | refine u_nilc ?_ | (apply Exists.intro; (repeat apply Exists.intro); refine And.intro rfl ?_) | (refine And.intro ?_ ?_; first | exact trivial | exact rfl | exact t_ld h | (refine lds_s (t_ld h) ?_; (repeat (refine lds_s (t_ld h) ?_)); exact lds_nil) | omega) | refine u_bspT ?_ | refine u_bspF ?_)
  refine w_g h hgb fun q hq => ?_
  repeat (first | (refine s_nwc h ?_; clear h; intro kb M h) | (refine s_stc h ?_; clear h; intro M h) | refine t_exI h ?_ | refine t_exB h ?_ | refine t_exS h ?_ | refine t_exP h ?_ | refine t_exSl h ?_ | refine t_exV h ?_ | refine u_exI ?_ | refine u_exB ?_ | refine u_exS ?_ | refine u_exP ?_ | refine u_exSl ?_ | refine u_exV ?_ | refine u_nilc ?_ | (apply Exists.intro; (repeat apply Exists.intro); refine And.intro rfl ?_) | (refine And.intro ?_ ?_; first | exact trivial | exact rfl | exact t_ld h | (refine lds_s (t_ld h) ?_; (repeat (refine lds_s (t_ld h) ?_)); exact lds_nil) | omega) | refine u_bspT ?_ | refine u_bspF ?_)
  refine frame_Top h2 (by omega) ?_
  repeat (first | (refine s_nwc h ?_; clear h; intro kb M h) | (refine s_stc h ?_; clear h; intro M h) | refine t_exI h ?_ | refine t_exB h ?_ | refine t_exS h ?_ | refine t_exP h ?_ | refine t_exSl h ?_ | refine t_exV h ?_ | refine u_exI ?_ | refine u_exB ?_ | refine u_exS ?_ | refine u_exP ?_ | refine u_exSl ?_ | refine u_exV ?_ | refine u_nilc ?_ | (apply Exists.intro; (repeat apply Exists.intro); refine And.intro rfl ?_) | (refine And.intro ?_ ?_; first | exact trivial | exact rfl | exact t_ld h | (refine lds_s (t_ld h) ?_; (repeat (refine lds_s (t_ld h) ?_)); exact lds_nil) | omega) | refine u_bspT ?_ | refine u_bspF ?_)
  refine f_ldFn h (gor_top h2) ?_
  obtain ⟨ts, hts, htl, hrow⟩ := hp.funcs
  have hfl := (List.getElem?_eq_some_iff.1 hcode).1
  obtain ⟨t, ht⟩ := idx_ex (l := ts) (i := (gorAt x g).top.fn.toNat) (by omega)
  obtain ⟨hr1, hr2⟩ := hrow _ t code ht hcode
  obtain ⟨tA, tn, tc⟩ := t
  dsimp only at hr1 hr2
  subst hr2
  refine ⟨hfn, by omega, ?_⟩
  obtain ⟨fb, fo, hfb⟩ := hts.some (by omega) (by decide)
  rw [hfb] at hts ⊢
  refine u_nilc ?_
  refine v_exSl (Src.at (hts.src (L := _)) h (i := (gorAt x g).top.fn.toNat) (j := 0) ht rfl (by simp [slE])) ?_
  dsimp only
  refine u_nilc ?_
  refine f_ldPc h (gor_top h2) rfl ?_
  refine bsp_dec.2 ⟨fun hge => ?_, fun hlt => ?_⟩
  · cases hs with
    | out _ =>
      have h5 : Hp R (objP (worldR pa p gg dr) b x :: fact True :: L') M := (Hp.fact_iff.2 ⟨trivial, hcl h⟩).swap
      exact w_trap h5 fun M' h' => k gg M' h'
    | pure i hi => have := (List.getElem?_eq_some_iff.1 hi).1; omega
    | sel i hi => have := (List.getElem?_eq_some_iff.1 hi).1; omega
    | dflt i fn hi => have := (List.getElem?_eq_some_iff.1 hi).1; omega
  refine u_nilc ?_
  refine f_ldPc h (gor_top h2) rfl ?_
  refine ⟨hpc.1, by omega, ?_⟩
  obtain ⟨i, hi⟩ := idx_ex (l := code) (i := (gorAt x g).top.pc.toNat) (by omega)
  obtain ⟨ib, io, rfl⟩ := hr1.some (by omega) (by decide)
  refine u_nilc ?_
  refine v_exI (Src.at (hr1.src (L := _)) h (i := (gorAt x g).top.pc.toNat) (j := 0) hi rfl (by simp [insE])) ?_
  refine v_exI (Src.at (hr1.src (L := _)) h (i := (gorAt x g).top.pc.toNat) (j := 1) hi rfl (by show _ = io + (_ * 4 + 1); omega)) ?_
  refine v_exI (Src.at (hr1.src (L := _)) h (i := (gorAt x g).top.pc.toNat) (j := 2) hi rfl (by show _ = io + (_ * 4 + 2); omega)) ?_
  refine v_exI (Src.at (hr1.src (L := _)) h (i := (gorAt x g).top.pc.toNat) (j := 3) hi rfl (by show _ = io + (_ * 4 + 3); omega)) ?_
  have hpure : i.okPure ∧ 0 ≤ i.op ∨ 8 < i.op := by
    cases hs with
    | out h => omega
    | pure j hj a1 a2 a3 => rw [hi] at hj; cases hj; exact .inl ⟨a3, a1⟩
    | sel j hj a1 => rw [hi] at hj; cases hj; exact .inr (by omega)
    | dflt j fn hj a1 => rw [hi] at hj; cases hj; exact .inr a1
  have hok : i.okPure ∧ 0 ≤ i.op := by
    rcases hpure with h | h
    · exact h
    · exact ⟨⟨fun h => by simp at h; omega, fun h => by omega, fun h => by simp at h; omega⟩, by omega⟩
  refine s_nwc h ?_
  clear h; intro ki M h
  refine s_stc h ?_
  clear h; intro M h
  refine s_stc h ?_
  clear h; intro M h
  refine s_stc h ?_
  clear h; intro M h
  refine s_stc h ?_
  clear h; intro M h
  refine t_exI h (t_exI h (t_exI h (t_exI h ?_)))
  refine frame_Pure h (gor_top h2) hok.1 hok.2 hpc ?_ ?_
  · intro h8 M' h'
    clear h
    have h := h'
    clear h'
    refine u_exB (u_bspT ?_)
    cases hs with
    | out h => omega
    | sel j hj a1 => rw [hi] at hj; cases hj; omega
    | dflt j fn hj a1 => rw [hi] at hj; cases hj; omega
    | pure j hj a1 a2 a3 =>
      rw [hi] at hj; cases hj
      replace h := world_in h gb hl hgb hgg (by simp)
      have hl2 := lens_put (y := (gorAt x g).putTop ((gorAt x g).top.next.pure i)) (g := g) hl
      have h5 := world_close (a := a) (p := p) (pa := pa) (dr := dr) (gg := gg) (x := x.putG g ((gorAt x g).putTop ((gorAt x g).top.next.pure i))) hl2 h b
      refine do_rest h5 ?_
      have e1 : (i.op == 12) = false := by simp; omega
      have e2 : (i.op == 17) = false := by simp; omega
      rw [e1, e2]
      exact k gg _ h5.fin1
  · intro h8 M' h'
    clear h
    have h := h'
    clear h'
    refine u_exB (u_bspF ?_)
    refine t_exI h ?_
    refine bsp_eq.2 ⟨fun e16 => ?_, fun e16 => ?_⟩
    · refine t_exI h (t_exI h (t_exI h (t_exI h ?_)))
      cases hs with
      | out h => omega
      | pure j hj a1 a2 a3 => rw [hi] at hj; cases hj; omega
      | dflt j fn hj a1 a2 => rw [hi] at hj; cases hj; omega
      | sel j hj a1 hop =>
        rw [hi] at hj; cases hj
        replace h := world_in h gb hl hgb hgg
        have hl2 := lens_put (y := gorAt x g) (g := g) hl
        replace h := world_close (a := a) (p := p) (pa := pa) (dr := dr) (gg := gg) (x := x.putG g (gorAt x g)) hl2 h b
        rw [sx h0 h1] at h
        refine hop gg b bs c M' _ _ _ h hgg ?_
        cases r with
        | on y =>
          intro gg' M2 h
          refine ⟨rfl, do_rest h ?_⟩
          have e1 : (i.op == 12) = false := by simp; omega
          have e2 : (i.op == 17) = false := by simp; omega
          rw [e1, e2]
          exact k gg' _ h.fin1
        | trap n y =>
          intro gg' M2 h
          exact w_trap h fun M3 h3 => k gg' M3 h3
    · refine t_exI h ?_
      refine bsp_eq.2 ⟨fun e21 => ?_, fun e21 => ?_⟩
      · cases hs with
        | out h => omega
        | pure j hj a1 a2 a3 => rw [hi] at hj; cases hj; omega
        | sel j hj a1 => rw [hi] at hj; cases hj; omega
        | dflt j fn hj a1 a2 a3 => rw [hi] at hj; cases hj; omega
      cases hs with
      | out h => omega
      | pure j hj a1 a2 a3 => rw [hi] at hj; cases hj; omega
      | sel j hj a1 => rw [hi] at hj; cases hj; omega
      | dflt j fn hj a1 a2 a3 hf hn hop =>
        rw [hi] at hj; cases hj
        refine u_nilc ?_
        refine f_ldPc h (gor_top h2) rfl ?_
        refine u_nilc ?_
        rw [wrap_succ' hpc.1 (by omega)]
        refine f_stPc h (gor_top h2) rfl ?_
        clear h; intro M h
        refine t_exI h (t_exI h (t_exI h (t_exI h (t_exI h ?_))))
        refine world_table h ?_
        clear h; intro mp M h
        refine ⟨lds_s (t_ld h) (lds_s (t_ld h) (lds_s (t_ld h) (lds_s (t_ld h) lds_nil))), t_ld h, ?_⟩
        have hu : Try.prog.underlying 97 = some (.map 29 96) := by kernel_rfl
        have hkk : Try.prog.underlying 29 = some (.int .i64) := by kernel_rfl
        obtain ⟨ti, hti, htz⟩ : ∃ ti, Try.prog.info? 96 = some ti ∧ ti.zero = some .nilFunc := ⟨_, rfl, rfl⟩
        refine s_lookup h hu hkk hti htz ?_
        rw [hf]
        refine ⟨lds_s (t_ld h) (lds_s (t_ld h) (lds_s (t_ld h) (lds_s (t_ld h) lds_nil))), t_ld h, ?_⟩
        refine callK_fn hn ?_
        replace h := world_in h gb hl hgb hgg (by simp)
        have hl2 := lens_put (y := (gorAt x g).putTop (gorAt x g).top.next) (g := g) hl
        have h5 := world_close (a := a) (p := p) (pa := pa) (dr := dr) (gg := gg) (x := x.next g) hl2 h b
        have h6 : Hp R (objP (worldR pa p gg dr) b (x.next g) :: pt ki [.int .i64 i.op, .int .i64 i.a, .int .i64 i.b, .int .i64 i.c] 31 :: L') M := h5.sub (by repeat (first | exact Sub.refl | refine Sub.cons (by first | exact Pick.here | exact (.there .here) | exact (.there (.there .here)) | exact (.there (.there (.there .here))) | exact (.there (.there (.there (.there .here)))) | exact (.there (.there (.there (.there (.there .here))))) | exact (.there (.there (.there (.there (.there (.there .here)))))) | exact (.there (.there (.there (.there (.there (.there (.there .here))))))) | exact (.there (.there (.there (.there (.there (.there (.there (.there .here)))))))) | exact (.there (.there (.there (.there (.there (.there (.there (.there (.there .here))))))))) | exact (.there (.there (.there (.there (.there (.there (.there (.there (.there (.there .here)))))))))) | exact (.there (.there (.there (.there (.there (.there (.there (.there (.there (.there (.there .here))))))))))) | exact (.there (.there (.there (.there (.there (.there (.there (.there (.there (.there (.there (.there .here)))))))))))) | exact (.there (.there (.there (.there (.there (.there (.there (.there (.there (.there (.there (.there (.there .here))))))))))))) | exact (.there (.there (.there (.there (.there (.there (.there (.there (.there (.there (.there (.there (.there (.there .here)))))))))))))) | exact (.there (.there (.there (.there (.there (.there (.there (.there (.there (.there (.there (.there (.there (.there (.there .here)))))))))))))))) ?_ | refine Sub.drop ?_))
        clear h h5
        have hfl : (gorAt (x.next g) g).fs.length = (gorAt x g).fs.length := by
          unfold Wd.next; rw [gorAt_put h0 h1]; simp [Gor.putTop]
        have hc := hop gg b bs c M (fun v90 M91 => (v90 = (.tuple #[])) ∧ ((Mem.lds M91 ⟨ki, 0, none⟩ 0 4) = some [(.int .i64 i.op), (.int .i64 i.a), (.int .i64 i.b), (.int .i64 i.c)]) ∧ ((Mem.ld M91 ⟨ki, 0, none⟩) = (some (.int .i64 i.op))) ∧
          exI (M91.ld ⟨ki, 0, none⟩) .i64 fun n => bsp (n == 12) (leaveK Try.prog 31 (.pointer (some ⟨b, 0, none⟩)) K Kp (.bool true) .returning M91)
            (exI (M91.ld ⟨ki, 0, none⟩) .i64 fun n => leaveK Try.prog 31 (.pointer (some ⟨b, 0, none⟩)) K Kp (.bool (n == 17)) .returning M91))
          (fun l M => leaveK Try.prog 31 (.pointer (some ⟨b, 0, none⟩)) K Kp (.bool false) (.panicking l) M) _ h6 hgg ?_
        · rw [hfl] at hc
          exact hc
        cases r with
        | on y =>
          intro gg' M2 h
          exact ⟨rfl, lds_s (t_ld h) (lds_s (t_ld h) (lds_s (t_ld h) (lds_s (t_ld h) lds_nil))), t_ld h, do_rest h (k gg' _ h.fin1)⟩
        | trap n y =>
          intro gg' M2 h
          exact w_trap h fun M3 h3 => k gg' M3 h3
end
end Go.Proofs
