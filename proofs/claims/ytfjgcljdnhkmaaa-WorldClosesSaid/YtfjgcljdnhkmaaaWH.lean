/- A part of proofs about functions of one program: a condition over a partial memory that is enough for a call, and what calls answer by it. No condition of its own. -/
import Derived.Test.YtfjgcljdnhkmaaaWG
/- The world's instructions: return; the next instruction. -/
namespace Go.Proofs
open Go.AF
set_option linter.unusedVariables false
set_option maxRecDepth 100000
set_option maxHeartbeats 1000000
attribute [local irreducible] exI exB exS exP exSl exV nilc stc nwc semK semU bsp
theorem zip_set2 {α β : Type} : ∀ {l : List α} {m : List β} {i : Nat} {u : α} {v : β}, (l.zip m).set i (u, v) = (l.set i u).zip (m.set i v)
  | [], _, _, _, _ => by simp
  | a :: l, [], i, u, v => by simp
  | a :: l, w :: m, 0, u, v => rfl
  | a :: l, w :: m, i + 1, u, v => by
    have := zip_set2 (l := l) (m := m) (i := i) (u := u) (v := v)
    simp [this]
theorem sx {x : Wd} {g : Int} (h0 : 0 ≤ g) (h1 : g < x.gs.length) : x.putG g (gorAt x g) = x := by
  obtain ⟨y, hy⟩ := idx_ex (l := x.gs) (i := g.toNat) (by omega)
  have e : gorAt x g = y := by simp [gorAt, hy]
  rw [e]
  obtain ⟨hi, rfl⟩ := List.getElem?_eq_some_iff.1 hy
  simp [Wd.putG]
section
variable {R : Mem} {L L' L2 : List HP} {M : Mem} {K : Value → Mem → Prop} {Kp : List PanicEntry → Mem → Prop} {pa : PA} {p : Prg} {gg : List GA} {dr : Value} {b : Nat} {x : Wd} {g : Int} {i : Ins}
theorem op_back (hg : gorOk x g) (ha : isReg i.a) (hin : isReg (gorAt x g).top.into) : OpSpec R pa p dr 46 x g i (.on (x.back g i)) L L := by
  intro gg b bs c M K Kp Q h hgg k
  refine vc_world_World_back ?_
  replace k : ∀ gg' M', Hp R (objP (worldR pa p gg' dr) b (x.back g i) :: Q :: L) M' → K (.tuple #[]) M' := k
  have hg' := hg
  obtain ⟨h0, h1, h2, h3⟩ := hg'
  unfold Wd.back at k
  refine s_nwc h ?_
  clear h
  intro kb M h
  have h' := world_at2 h (b := b) h0 h1 hgg
  clear h
  obtain ⟨a, gb, hl, hgb, h⟩ := h'
  have hl' := hl
  obtain ⟨l1, l2, l3, l4⟩ := hl'
  repeat (first | (refine s_nwc h ?_; clear h; intro kb M h) | (refine s_stc h ?_; clear h; intro M h) | refine t_exI h ?_ | refine t_exB h ?_ | refine t_exS h ?_ | refine t_exP h ?_ | refine t_exSl h ?_ | refine t_exV h ?_ | refine u_exI ?_ | refine u_exB ?_ | refine u_exS ?_ | refine u_exP ?_ | refine u_exSl ?_ | refine u_exV ?_ | refine u_nilc ?_ | (apply Exists.intro; (repeat apply Exists.intro); refine And.intro rfl ?_) | (refine And.intro ?_ ?_; first | exact trivial | exact rfl | exact t_ld h | (refine lds_s (t_ld h) ?_; (repeat (refine lds_s (t_ld h) ?_)); exact lds_nil) | omega) | refine u_bspT ?_ | refine u_bspF ?_)
  refine w_g h hgb fun q hq => ?_
  repeat (first | (refine s_nwc h ?_; clear h; intro kb M h) | (refine s_stc h ?_; clear h; intro M h) | refine t_exI h ?_ | refine t_exB h ?_ | refine t_exS h ?_ | refine t_exP h ?_ | refine t_exSl h ?_ | refine t_exV h ?_ | refine u_exI ?_ | refine u_exB ?_ | refine u_exS ?_ | refine u_exP ?_ | refine u_exSl ?_ | refine u_exV ?_ | refine u_nilc ?_ | (apply Exists.intro; (repeat apply Exists.intro); refine And.intro rfl ?_) | (refine And.intro ?_ ?_; first | exact trivial | exact rfl | exact t_ld h | (refine lds_s (t_ld h) ?_; (repeat (refine lds_s (t_ld h) ?_)); exact lds_nil) | omega) | refine u_bspT ?_ | refine u_bspF ?_)
  refine ⟨ha.1, ha.2, f_ld h (gor_top h2) ha rfl ?_⟩
  refine frame_Return h h2 (by omega) (gor_top h2) hin ?_ ?_
  · intro hlt
    rw [if_neg (by omega)] at k
    refine ⟨_, _, _, _, rfl, u_bspF ?_⟩
    repeat (first | (refine s_nwc h ?_; clear h; intro kb M h) | (refine s_stc h ?_; clear h; intro M h) | refine t_exI h ?_ | refine t_exB h ?_ | refine t_exS h ?_ | refine t_exP h ?_ | refine t_exSl h ?_ | refine t_exV h ?_ | refine u_exI ?_ | refine u_exB ?_ | refine u_exS ?_ | refine u_exP ?_ | refine u_exSl ?_ | refine u_exV ?_ | refine u_nilc ?_ | (apply Exists.intro; (repeat apply Exists.intro); refine And.intro rfl ?_) | (refine And.intro ?_ ?_; first | exact trivial | exact rfl | exact t_ld h | (refine lds_s (t_ld h) ?_; (repeat (refine lds_s (t_ld h) ?_)); exact lds_nil) | omega) | refine u_bspT ?_ | refine u_bspF ?_)
    refine w_g h hgb fun q2 hq2 => ?_
    repeat (first | (refine s_nwc h ?_; clear h; intro kb M h) | (refine s_stc h ?_; clear h; intro M h) | refine t_exI h ?_ | refine t_exB h ?_ | refine t_exS h ?_ | refine t_exP h ?_ | refine t_exSl h ?_ | refine t_exV h ?_ | refine u_exI ?_ | refine u_exB ?_ | refine u_exS ?_ | refine u_exP ?_ | refine u_exSl ?_ | refine u_exV ?_ | refine u_nilc ?_ | (apply Exists.intro; (repeat apply Exists.intro); refine And.intro rfl ?_) | (refine And.intro ?_ ?_; first | exact trivial | exact rfl | exact t_ld h | (refine lds_s (t_ld h) ?_; (repeat (refine lds_s (t_ld h) ?_)); exact lds_nil) | omega) | refine u_bspT ?_ | refine u_bspF ?_)
    refine bsp_eq.2 ⟨fun e0 => ?_, fun e0 => ?_⟩
    · rw [if_pos e0] at k
      repeat (first | (refine s_nwc h ?_; clear h; intro kb M h) | (refine s_stc h ?_; clear h; intro M h) | refine t_exI h ?_ | refine t_exB h ?_ | refine t_exS h ?_ | refine t_exP h ?_ | refine t_exSl h ?_ | refine t_exV h ?_ | refine u_exI ?_ | refine u_exB ?_ | refine u_exS ?_ | refine u_exP ?_ | refine u_exSl ?_ | refine u_exV ?_ | refine u_nilc ?_ | (apply Exists.intro; (repeat apply Exists.intro); refine And.intro rfl ?_) | (refine And.intro ?_ ?_; first | exact trivial | exact rfl | exact t_ld h | (refine lds_s (t_ld h) ?_; (repeat (refine lds_s (t_ld h) ?_)); exact lds_nil) | omega) | refine u_bspT ?_ | refine u_bspF ?_)
      replace h := world_in h gb hl hgb hgg
      have hl2 := lens_put (y := { gorAt x g with st := 4 }) (g := g) hl
      replace h := world_close (a := a) (p := p) (pa := pa) (dr := dr) (gg := gg) (x := { x.putG g { gorAt x g with st := 4 } with end_ := 1 }) hl2 h b
      exact k _ _ h.fin1
    · rw [if_neg e0] at k
      replace h := world_in h gb hl hgb hgg
      have hl2 := lens_put (y := { gorAt x g with st := 4 }) (g := g) hl
      replace h := world_close (a := a) (p := p) (pa := pa) (dr := dr) (gg := gg) (x := x.putG g { gorAt x g with st := 4 }) hl2 h b
      exact k _ _ h.fin1
  · intro hge b' c' M' fr hfr h'
    clear h
    have h := h'
    clear h'
    rw [if_pos hge] at k
    refine ⟨_, _, _, _, rfl, u_bspT ?_⟩
    repeat (first | (refine s_nwc h ?_; clear h; intro kb M h) | (refine s_stc h ?_; clear h; intro M h) | refine t_exI h ?_ | refine t_exB h ?_ | refine t_exS h ?_ | refine t_exP h ?_ | refine t_exSl h ?_ | refine t_exV h ?_ | refine u_exI ?_ | refine u_exB ?_ | refine u_exS ?_ | refine u_exP ?_ | refine u_exSl ?_ | refine u_exV ?_ | refine u_nilc ?_ | (apply Exists.intro; (repeat apply Exists.intro); refine And.intro rfl ?_) | (refine And.intro ?_ ?_; first | exact trivial | exact rfl | exact t_ld h | (refine lds_s (t_ld h) ?_; (repeat (refine lds_s (t_ld h) ?_)); exact lds_nil) | omega) | refine u_bspT ?_ | refine u_bspF ?_)
    refine w_g h hgb fun q2 hq2 => ?_
    repeat (first | (refine s_nwc h ?_; clear h; intro kb M h) | (refine s_stc h ?_; clear h; intro M h) | refine t_exI h ?_ | refine t_exB h ?_ | refine t_exS h ?_ | refine t_exP h ?_ | refine t_exSl h ?_ | refine t_exV h ?_ | refine u_exI ?_ | refine u_exB ?_ | refine u_exS ?_ | refine u_exP ?_ | refine u_exSl ?_ | refine u_exV ?_ | refine u_nilc ?_ | (apply Exists.intro; (repeat apply Exists.intro); refine And.intro rfl ?_) | (refine And.intro ?_ ?_; first | exact trivial | exact rfl | exact t_ld h | (refine lds_s (t_ld h) ?_; (repeat (refine lds_s (t_ld h) ?_)); exact lds_nil) | omega) | refine u_bspT ?_ | refine u_bspF ?_)
    have hlen : (gorAt x g).fs.length - 1 = (((gorAt x g).fs.take ((gorAt x g).fs.length - 1)).set ((gorAt x g).fs.length - 2) (fr.set (gorAt x g).top.into (topReg x g i.a))).length := by simp
    have hfr2 : (gorAt x g).fs.getD ((gorAt x g).fs.length - 2) ⟨0, 0, [], 0⟩ = fr := by rw [List.getD_eq_getElem?_getD, hfr]; rfl
    have h5 := gor_close (A := some ⟨b', 0, none⟩) (fs := ((gorAt x g).fs.take ((gorAt x g).fs.length - 1)).set ((gorAt x g).fs.length - 2) (fr.set (gorAt x g).top.into (topReg x g i.a))) h gb hlen
    have hi := (List.getElem?_eq_some_iff.1 hgb).1
    have h6 := h5.objs_in gorR gb hgb (by rw [List.length_zip]; omega)
    rw [zip_set2] at h6
    have hl2 : wLens (gg.set g.toNat (some ⟨b', 0, none⟩, c')) a (x.putG g ((gorAt x g).back (topReg x g i.a))) := ⟨by simpa [Wd.putG] using l1, by simpa [Wd.putG] using l2, l3, l4⟩
    have e : (gorAt x g).back (topReg x g i.a) = ⟨(gorAt x g).st, ((gorAt x g).fs.take ((gorAt x g).fs.length - 1)).set ((gorAt x g).fs.length - 2) (fr.set (gorAt x g).top.into (topReg x g i.a)), (gorAt x g).wt⟩ := by
      unfold Gor.back; rw [hfr2]
    rw [e] at hl2 k
    have h7 := world_close (a := a) (p := p) (pa := pa) (dr := dr) (gg := gg.set g.toNat (some ⟨b', 0, none⟩, c')) (x := x.putG g ⟨(gorAt x g).st, ((gorAt x g).fs.take ((gorAt x g).fs.length - 1)).set ((gorAt x g).fs.length - 2) (fr.set (gorAt x g).top.into (topReg x g i.a)), (gorAt x g).wt⟩) hl2 h6 b
    exact k _ _ (h7.sub (by repeat (first | exact Sub.refl | refine Sub.cons (by first | exact Pick.here | exact (.there .here) | exact (.there (.there .here)) | exact (.there (.there (.there .here))) | exact (.there (.there (.there (.there .here)))) | exact (.there (.there (.there (.there (.there .here))))) | exact (.there (.there (.there (.there (.there (.there .here)))))) | exact (.there (.there (.there (.there (.there (.there (.there .here))))))) | exact (.there (.there (.there (.there (.there (.there (.there (.there .here)))))))) | exact (.there (.there (.there (.there (.there (.there (.there (.there (.there .here))))))))) | exact (.there (.there (.there (.there (.there (.there (.there (.there (.there (.there .here)))))))))) | exact (.there (.there (.there (.there (.there (.there (.there (.there (.there (.there (.there .here))))))))))) | exact (.there (.there (.there (.there (.there (.there (.there (.there (.there (.there (.there (.there .here)))))))))))) | exact (.there (.there (.there (.there (.there (.there (.there (.there (.there (.there (.there (.there (.there .here))))))))))))) | exact (.there (.there (.there (.there (.there (.there (.there (.there (.there (.there (.there (.there (.there (.there .here)))))))))))))) | exact (.there (.there (.there (.there (.there (.there (.there (.there (.there (.there (.there (.there (.there (.there (.there .here)))))))))))))))) ?_ | refine Sub.drop ?_)))
end
end Go.Proofs
