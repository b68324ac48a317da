/- A part of proofs about functions of one program: a condition over a partial memory that is enough for a call, and what calls answer by it. No condition of its own. -/
import Derived.Test.YtfjgcljdnhkmaaaWE
/- The world's instructions: close. -/
namespace Go.Proofs
open Go.AF
set_option linter.unusedVariables false
set_option maxRecDepth 100000
set_option maxHeartbeats 1000000
attribute [local irreducible] exI exB exS exP exSl exV nilc stc nwc semK semU bsp
section
variable {R : Mem} {L L' : List HP} {M : Mem} {K : Value → Mem → Prop} {Kp : List PanicEntry → Mem → Prop} {pa : PA} {p : Prg} {gg : List GA} {dr : Value} {b : Nat} {x : Wd}
def closeOk (p : Prg) (x : Wd) (i : Ins) : Prop := chOk x i.a ∧ (chAt x.chans i.a).rcv.length ≤ 1000000 ∧
  ((chAt x.chans i.a).close.2.2.2 = 0 → (chAt x.chans i.a).close.2.2.1 = [] → shutOk p (x.putCh i.a (chAt x.chans i.a).close.1) (chAt x.chans i.a).close.2.1)
theorem world_shut {g : Int} {i : Ins} {f : Value} {bf of' : Nat} (h : Hp R L M) [o : WAt b L pa p gg dr x L'] (hp : RS casE R pa.k pa.kc p.cases) (hk : closeOk p x i) (hs : x.Sm)
    (k : Out.Ok (x.shut p i) (fun y => ∀ M', Hp R (objP (worldR pa p gg dr) b y :: L') M' → K (.tuple #[]) M')
      (fun n y => ∀ M', Hp R (objP (worldR pa p gg dr) b y :: L') M' → Kp [{ v := .iface 92 (.int .i64 n), recovered := false }] M')) :
    ACalls Try.prog 51 #[.pointer (some ⟨b, 0, none⟩), .int .i64 g, .pointer (some ⟨bf, of', none⟩), .agg #[.int .i64 i.op, .int .i64 i.a, .int .i64 i.b, .int .i64 i.c]] M K Kp := by
  refine vc_world_World_shut ?_
  obtain ⟨hch, hlen, hsh⟩ := hk
  obtain ⟨s1, s2, s3, s4, s5, s6, s7, s8⟩ := hs
  unfold Wd.shut at k
  dsimp only at k
  refine s_nwc h ?_
  clear h
  intro kb M h
  have h' := world_open h (b := b)
  clear h
  obtain ⟨a, hl, h⟩ := h'
  have hl' := hl
  obtain ⟨l1, l2, l3, l4⟩ := hl'
  have hc' := hch
  obtain ⟨c0, c1⟩ := hc'
  have h' := w_ch h hl hch
  clear h
  obtain ⟨cb, hcb, hchx, h⟩ := h'
  repeat (first | (refine s_nwc h ?_; clear h; intro kb M h) | (refine s_stc h ?_; clear h; intro M h) | refine t_exI h ?_ | refine t_exB h ?_ | refine t_exS h ?_ | refine t_exP h ?_ | refine t_exSl h ?_ | refine t_exV h ?_ | refine u_exI ?_ | refine u_exB ?_ | refine u_exS ?_ | refine u_exP ?_ | refine u_exSl ?_ | refine u_exV ?_ | refine u_nilc ?_ | (apply Exists.intro; (repeat apply Exists.intro); refine And.intro rfl ?_) | (refine And.intro ?_ ?_; first | exact trivial | exact rfl | exact t_ld h | (refine lds_s (t_ld h) ?_; (repeat (refine lds_s (t_ld h) ?_)); exact lds_nil) | omega) | refine u_bspT ?_ | refine u_bspF ?_)
  refine w_g h hcb fun q hq => ?_
  have hrl : (chAt x.chans i.a).close.2.1.length ≤ 1000000 := by
    unfold Chan.close; split <;> simp [hlen]
  refine chans_Close h ?_
  clear h
  intro A ca B cb' M h
  replace h := h.objs_in chanR cb hcb (by omega)
  generalize (chAt x.chans i.a).close = s at h k hsh hrl
  obtain ⟨c', r, sn, e⟩ := s
  dsimp only at h k hsh hrl ⊢
  refine ⟨A, _, ca, B, _, cb', e, rfl, ?_⟩
  replace h := world_close (a := a) (p := p) (pa := pa) (dr := dr) (gg := gg) (x := x.putCh i.a c') (lens_ch hl) h b
  refine bsp_ne.2 ⟨fun he => ?_, fun he => ?_⟩
  · rw [if_pos he] at k
    exact k _ h.fin1
  rw [if_neg (by simpa using he)] at k
  refine bsp_dec.2 ⟨fun hn => ?_, fun hn => ?_⟩
  · rw [if_pos (by omega)] at k
    exact k _ h.fin1
  rw [if_neg (by omega)] at k
  have hsn : sn = [] := by cases sn with
    | nil => rfl
    | cons _ _ => simp at hn
  have hok := hsh he hsn
  refine ⟨fun d vs M => ∃ (j : Nat), vs = [.int .i64 (j : Int)] ∧ d = r.length - j ∧ j ≤ r.length ∧ Hp R (objP (worldR pa p gg dr) b ((r.take j).foldl (shutStep p) (x.putCh i.a c')) :: rowW A ca r :: L') M, ⟨_, 0, rfl, rfl, by omega, h.sub (by repeat (first | exact Sub.refl | refine Sub.cons (by first | exact Pick.here | exact (.there .here) | exact (.there (.there .here)) | exact (.there (.there (.there .here))) | exact (.there (.there (.there (.there .here)))) | exact (.there (.there (.there (.there (.there .here))))) | exact (.there (.there (.there (.there (.there (.there .here)))))) | exact (.there (.there (.there (.there (.there (.there (.there .here))))))) | exact (.there (.there (.there (.there (.there (.there (.there (.there .here)))))))) | exact (.there (.there (.there (.there (.there (.there (.there (.there (.there .here))))))))) | exact (.there (.there (.there (.there (.there (.there (.there (.there (.there (.there .here)))))))))) | exact (.there (.there (.there (.there (.there (.there (.there (.there (.there (.there (.there .here))))))))))) | exact (.there (.there (.there (.there (.there (.there (.there (.there (.there (.there (.there (.there .here)))))))))))) | exact (.there (.there (.there (.there (.there (.there (.there (.there (.there (.there (.there (.there (.there .here))))))))))))) | exact (.there (.there (.there (.there (.there (.there (.there (.there (.there (.there (.there (.there (.there (.there .here)))))))))))))) | exact (.there (.there (.there (.there (.there (.there (.there (.there (.there (.there (.there (.there (.there (.there (.there .here)))))))))))))))) ?_ | refine Sub.drop ?_))⟩, ?_⟩
  clear h
  rintro d _ nn M ⟨j, he2, hd, hj, h⟩
  simp only [List.cons.injEq, Value.int.injEq, and_true, true_and] at he2
  subst he2
  refine bsp_dec.2 ⟨fun hlt => ?_, fun hge => ?_⟩
  · obtain ⟨w, hw⟩ := idx_ex (l := r) (i := j) (by omega)
    obtain ⟨t1, t2, t3, t4⟩ := shutOk_at hok hw
    have hstep : (r.take (j + 1)).foldl (shutStep p) (x.putCh i.a c') = shutStep p ((r.take j).foldl (shutStep p) (x.putCh i.a c')) w := by
      rw [take_snoc hw, List.foldl_append]; rfl
    generalize (r.take j).foldl (shutStep p) (x.putCh i.a c') = y at h t1 t3 t4 hstep
    obtain ⟨qa, rfl⟩ := h.row_some (A := A) (by omega) (by decide)
    refine ⟨by omega, hlt, u_nilc ?_⟩
    simp only [Int.toNat_natCast]
    refine v_exI (Src.at (h.src (A := some ⟨qa, 0, none⟩)) h (i := j) (j := 0) hw rfl (by simp [waitE])) ?_
    refine v_exI (Src.at (h.src (A := some ⟨qa, 0, none⟩)) h (i := j) (j := 1) hw rfl (by simp [waitE])) ?_
    refine v_exI (Src.at (h.src (A := some ⟨qa, 0, none⟩)) h (i := j) (j := 2) hw rfl (by simp [waitE])) ?_
    refine s_nwc h ?_
    clear h
    intro kw M h
    refine s_stc h ?_
    clear h; intro M h
    refine s_stc h ?_
    clear h; intro M h
    refine s_stc h ?_
    clear h; intro M h
    have hC := h
    have h' := world_at h (b := b) t2 t3
    clear h
    obtain ⟨a2, gb, A2, c2, hl2, hgb, hgg2, h⟩ := h'
    have hl2' := hl2
    obtain ⟨m1, m2, m3, m4⟩ := hl2'
    repeat (first | (refine s_nwc h ?_; clear h; intro kb M h) | (refine s_stc h ?_; clear h; intro M h) | refine t_exI h ?_ | refine t_exB h ?_ | refine t_exS h ?_ | refine t_exP h ?_ | refine t_exSl h ?_ | refine t_exV h ?_ | refine u_exI ?_ | refine u_exB ?_ | refine u_exS ?_ | refine u_exP ?_ | refine u_exSl ?_ | refine u_exV ?_ | refine u_nilc ?_ | (apply Exists.intro; (repeat apply Exists.intro); refine And.intro rfl ?_) | (refine And.intro ?_ ?_; first | exact trivial | exact rfl | exact t_ld h | (refine lds_s (t_ld h) ?_; (repeat (refine lds_s (t_ld h) ?_)); exact lds_nil) | omega) | refine u_bspT ?_ | refine u_bspF ?_)
    refine w_g h hgb fun q2 hq2 => ?_
    repeat (first | (refine s_nwc h ?_; clear h; intro kb M h) | (refine s_stc h ?_; clear h; intro M h) | refine t_exI h ?_ | refine t_exB h ?_ | refine t_exS h ?_ | refine t_exP h ?_ | refine t_exSl h ?_ | refine t_exV h ?_ | refine u_exI ?_ | refine u_exB ?_ | refine u_exS ?_ | refine u_exP ?_ | refine u_exSl ?_ | refine u_exV ?_ | refine u_nilc ?_ | (apply Exists.intro; (repeat apply Exists.intro); refine And.intro rfl ?_) | (refine And.intro ?_ ?_; first | exact trivial | exact rfl | exact t_ld h | (refine lds_s (t_ld h) ?_; (repeat (refine lds_s (t_ld h) ?_)); exact lds_nil) | omega) | refine u_bspT ?_ | refine u_bspF ?_)
    clear h
    have h := hC
    clear hC
    rw [wrap_succ (by omega)]
    have hst : shutStep p y w = if (gorAt y w.g).st = 2 then y.received p { w with v := 0 } 0 else y := rfl
    rw [hst] at hstep
    refine bsp_eq.2 ⟨fun e2 => ?_, fun e2 => ?_⟩
    · rw [if_pos e2] at hstep
      refine s_stc h ?_
      clear h; intro M h
      repeat (first | (refine s_nwc h ?_; clear h; intro kb M h) | (refine s_stc h ?_; clear h; intro M h) | refine t_exI h ?_ | refine t_exB h ?_ | refine t_exS h ?_ | refine t_exP h ?_ | refine t_exSl h ?_ | refine t_exV h ?_ | refine u_exI ?_ | refine u_exB ?_ | refine u_exS ?_ | refine u_exP ?_ | refine u_exSl ?_ | refine u_exV ?_ | refine u_nilc ?_ | (apply Exists.intro; (repeat apply Exists.intro); refine And.intro rfl ?_) | (refine And.intro ?_ ?_; first | exact trivial | exact rfl | exact t_ld h | (refine lds_s (t_ld h) ?_; (repeat (refine lds_s (t_ld h) ?_)); exact lds_nil) | omega) | refine u_bspT ?_ | refine u_bspF ?_)
      refine world_received (b := b) (v := { w with v := 0 }) h hp (t4 e2) t1 ?_
      clear h; intro M h
      refine ⟨rfl, r.length - (j + 1), by omega, j + 1, rfl, rfl, by omega, ?_⟩
      rw [hstep]
      exact h.fin1
    · rw [if_neg e2] at hstep
      refine ⟨r.length - (j + 1), by omega, j + 1, rfl, rfl, by omega, ?_⟩
      rw [hstep]
      exact h.sub (by repeat (first | exact Sub.refl | refine Sub.cons (by first | exact Pick.here | exact (.there .here) | exact (.there (.there .here)) | exact (.there (.there (.there .here))) | exact (.there (.there (.there (.there .here)))) | exact (.there (.there (.there (.there (.there .here))))) | exact (.there (.there (.there (.there (.there (.there .here)))))) | exact (.there (.there (.there (.there (.there (.there (.there .here))))))) | exact (.there (.there (.there (.there (.there (.there (.there (.there .here)))))))) | exact (.there (.there (.there (.there (.there (.there (.there (.there (.there .here))))))))) | exact (.there (.there (.there (.there (.there (.there (.there (.there (.there (.there .here)))))))))) | exact (.there (.there (.there (.there (.there (.there (.there (.there (.there (.there (.there .here))))))))))) | exact (.there (.there (.there (.there (.there (.there (.there (.there (.there (.there (.there (.there .here)))))))))))) | exact (.there (.there (.there (.there (.there (.there (.there (.there (.there (.there (.there (.there (.there .here))))))))))))) | exact (.there (.there (.there (.there (.there (.there (.there (.there (.there (.there (.there (.there (.there (.there .here)))))))))))))) | exact (.there (.there (.there (.there (.there (.there (.there (.there (.there (.there (.there (.there (.there (.there (.there .here)))))))))))))))) ?_ | refine Sub.drop ?_))
  · obtain rfl : j = r.length := by omega
    rw [List.take_length] at h
    exact k _ h.fin1
end
end Go.Proofs
