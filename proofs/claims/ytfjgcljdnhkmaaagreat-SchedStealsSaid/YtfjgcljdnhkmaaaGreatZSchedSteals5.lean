/- A part of proofs about functions of one program: a condition over a partial memory that is enough for a call, and what calls answer by it. No condition of its own. -/
import Derived.ChangeArms
import Derived.Deep.Slices
import Derived.OpenShut
import Derived.Recover
import Derived.Scope
import Derived.Test.YtfjgcljdnhkmaaaGreatProg
import Derived.WalkKit
import Derived.Test.YtfjgcljdnhkmaaaGreatZSchedStealsBase
import Derived.Test.YtfjgcljdnhkmaaaGreatZSchedStealsOps
import Derived.Test.YtfjgcljdnhkmaaaGreatZSchedStealsOpsB
import Derived.Test.YtfjgcljdnhkmaaaGreatZSchedStealsOpC
import Derived.Test.YtfjgcljdnhkmaaaGreatZSchedStealsFrame
import Derived.Test.YtfjgcljdnhkmaaaGreatZSchedStealsReg
import Derived.Test.YtfjgcljdnhkmaaaGreatZSchedStealsRegB
import Derived.Test.YtfjgcljdnhkmaaaGreatZSchedStealsRegL
import Derived.Test.YtfjgcljdnhkmaaaGreatZSchedStealsRegC
import Derived.Test.YtfjgcljdnhkmaaaGreatZSchedStealsExec
import Derived.Test.YtfjgcljdnhkmaaaGreatZSchedStealsSound
import Derived.Test.YtfjgcljdnhkmaaaGreatZSchedStealsSoundB
import Derived.Test.YtfjgcljdnhkmaaaGreatZSchedStealsLib
import Derived.Test.YtfjgcljdnhkmaaaGreatZSchedStealsHp
import Derived.Test.YtfjgcljdnhkmaaaGreatZSchedStealsRow
import Derived.Test.YtfjgcljdnhkmaaaGreatZSchedStealsMod
import Derived.Test.YtfjgcljdnhkmaaaGreatZSchedStealsOpen
import Derived.Test.YtfjgcljdnhkmaaaGreatZSchedStealsArgs
import Derived.Test.YtfjgcljdnhkmaaaGreatZSchedStealsDefer
import Derived.Test.YtfjgcljdnhkmaaaGreatZSchedStealsDefer2
import Derived.Test.YtfjgcljdnhkmaaaGreatZSchedSteals0
import Derived.Test.YtfjgcljdnhkmaaaGreatZSchedSteals1
import Derived.Test.YtfjgcljdnhkmaaaGreatZSchedSteals2
import Derived.Test.YtfjgcljdnhkmaaaGreatZSchedSteals3
import Derived.Test.YtfjgcljdnhkmaaaGreatZSchedSteals4

namespace Go.Proofs
open Go.AF
set_option linter.unusedVariables false
set_option maxRecDepth 100000
set_option maxHeartbeats 1000000
attribute [local irreducible] exI exB exS exP exSl exV nilc stc nwc semK semU bsp
theorem put_nodry {p : Prg} {x : Wd} {k v : Int} {l : List PanicEntry} {y : Wd} : x.put p k v ≠ .dry l y := by
  unfold Wd.put; dsimp only; split <;> simp
theorem deed_nodry {p : Prg} {x : Wd} {g : Int} {i : Ins} {l : List PanicEntry} {y : Wd} (h : deed p x g i = some (.dry l y)) : False := by
  unfold deed at h
  by_cases e : i.op = 10
  · rw [if_pos e] at h; obtain ⟨_, h⟩ := ite_some h; cases h
  rw [if_neg e] at h; clear e
  by_cases e : i.op = 11
  · rw [if_pos e] at h; obtain ⟨_, h⟩ := ite_some h; unfold Wd.spawn at h; split at h <;> cases h
  rw [if_neg e] at h; clear e
  by_cases e : i.op = 13
  · rw [if_pos e] at h; obtain ⟨_, h⟩ := ite_some h
    unfold Wd.send at h
    split at h
    · cases h
    · rename_i hp; exact put_nodry hp
    · cases h
    · cases h
  rw [if_neg e] at h; clear e
  by_cases e : i.op = 14
  · rw [if_pos e] at h; obtain ⟨_, h⟩ := ite_some h; cases h
  rw [if_neg e] at h; clear e
  by_cases e : i.op = 15
  · rw [if_pos e] at h; obtain ⟨_, h⟩ := ite_some h; unfold Wd.shut at h; dsimp only at h; split at h
    · cases h
    · split at h <;> cases h
  rw [if_neg e] at h; clear e
  by_cases e : i.op = 20
  · rw [if_pos e] at h; obtain ⟨_, h⟩ := ite_some h; unfold Wd.emit at h; split at h <;> cases h
  rw [if_neg e] at h; clear e
  by_cases e : i.op = 9
  · rw [if_pos e] at h; obtain ⟨_, h⟩ := ite_some h; unfold Wd.call at h; split at h <;> cases h
  rw [if_neg e] at h; clear e
  by_cases e : i.op = 12
  · rw [if_pos e] at h; cases h
  rw [if_neg e] at h; clear e
  by_cases e : i.op = 17
  · rw [if_pos e] at h; obtain ⟨_, h⟩ := ite_some h; cases h
  rw [if_neg e] at h; clear e
  by_cases e : i.op = 18
  · rw [if_pos e] at h; obtain ⟨_, h⟩ := ite_some h; cases h
  rw [if_neg e] at h; clear e
  by_cases e : i.op = 19
  · rw [if_pos e] at h; obtain ⟨_, h⟩ := ite_some h; unfold Wd.unlock at h; split at h
    · cases h
    · split at h <;> cases h
  rw [if_neg e] at h; clear e
  by_cases e : i.op = 22
  · rw [if_pos e] at h; cases h
  rw [if_neg e] at h; cases h
/-- What runs dry does by the draw alone. -/
theorem execR_dry {p : Prg} {x : Wd} {g : Int} {d : Drawn} {l : List PanicEntry} {y : Wd} {rest : Bool} (h : execR p x g d = some (.dry l y, rest)) : d = .dry l ∧ y = { x with ready := [] } := by
  unfold execR at h
  dsimp only at h
  split at h
  · split at h
    · split at h
      · cases h
      · split at h
        · cases h
        · split at h
          · split at h <;> cases h
          · split at h
            · split at h
              · split at h
                · rename_i hc
                  simp only [Option.some.injEq, Prod.mk.injEq] at h
                  obtain ⟨h, _⟩ := h
                  unfold Wd.choose at h
                  split at h
                  · cases h
                  · cases d with
                    | dry l' => cases h; exact ⟨rfl, rfl⟩
                    | num v =>
                      dsimp only at h
                      unfold Wd.chooseAt at h
                      dsimp only at h
                      split at h
                      · split at h
                        · cases h
                        · rename_i hp; exact absurd hp put_nodry
                        · cases h
                      · cases h
                · cases h
              · cases h
            · split at h
              · split at h
                · split at h
                  · simp only [Option.some.injEq, Prod.mk.injEq] at h
                    obtain ⟨h, _⟩ := h
                    cases d with
                    | dry l' => cases h; exact ⟨rfl, rfl⟩
                    | num v => cases h
                  · cases h
                · cases h
              · split at h
                · cases h
                · rename_i r hd
                  split at h
                  · simp only [Option.some.injEq, Prod.mk.injEq] at h
                    obtain ⟨h, _⟩ := h
                    subst h
                    exact (deed_nodry hd).elim
                  · cases h
    · cases h
  · cases h
theorem ready_len {q : Loc} {r : Int} {gl : List Int} : (q.ready r gl).2.1.length ≤ gl.length + q.l.length + 1 := by
  unfold Loc.ready
  split
  · dsimp only; omega
  · unfold Loc.put
    dsimp only
    split
    · dsimp only; omega
    · dsimp only; simp; omega
section
variable {R : Mem} {L L' L2 : List HP} {M : Mem} {K : Value → Mem → Prop} {Kp : List PanicEntry → Mem → Prop} {pa : PA} {p : Prg} {b wb db : Nat} {x : Sc} {m i : Int} {a : SA}
abbrev effPt (k17 : Nat) (kp : Bool) (A : Option Addr) (n c : Nat) : HP := pt k17 [.bool kp, .slice A n c] 120
theorem run_park {q2 k1 k17 c : Nat} {g : Int} {kp : Bool} {A : Option Addr} {rd : List Int}
    (h : Hp R (glP (scG b wb db a x) x.gl :: objP (idleR pa p) wb x.w :: objP (souR .nilFunc) db x.d :: rowPr a.ap a.cp (prow a.lb x.ps) :: objsP locR a.lb (x.ps.map Prc.q) :: rowMc (some ⟨q2, 0, none⟩) a.cm (x.ms.set m.toNat { mcAt x m with left := (mcAt x m).left - 1 }) :: effPt k17 kp A rd.length c :: pt k1 [.int .i64 0, .int .i64 0, .int .i64 0, .slice none 0 0] 47 :: L') M)
    (ham : a.am = some ⟨q2, 0, none⟩) (hl : a.lb.length = x.ps.length) (m0 : 0 ≤ m) (m1 : m < x.ms.length) (g0 : 0 ≤ g) (g1 : g < x.w.gs.length) (hgl : x.gl.length ≤ 100000000)
    (k : ∀ M', Hp R (objP (schR pa p wb db) b { x.setM m { mcAt x m with left := (mcAt x m).left - 1, g := -1 } with gl := if (gorAt x.w g).st = 1 then x.gl ++ [g] else x.gl } :: L') M' → K (evV ⟨7, m, g, rd⟩ A c) M') :
    stc M ⟨q2, ((m.toNat * 3) + 1), none⟩ (.int .i64 (-1)) fun M47 =>
    exP (Mem.ld M47 ⟨b, 0, none⟩) fun A48 =>
    ACalls Tryz.prog 65 #[(.pointer A48), (.int .i64 g)] M47 (fun v49 M50 =>
    exI (some v49) .i64 fun n51 =>
    bsp (n51 == 1)
     (nwc M50 (.cells #[(.int .i64 g)] 3 (0, 0)) fun k52 M53 =>
      ACalls Tryz.prog 53 #[(.pointer (some ⟨b, (0 + 7), none⟩)), (.slice (some ⟨k52, 0, none⟩) 1 1)] M53 (fun v54 M55 =>
      (v54 = (.tuple #[])) ∧
      exSl (Mem.ld M55 ⟨k17, (0 + 1), none⟩) fun A56 k57 k58 =>
      stc M55 ⟨k1, 0, none⟩ (.int .i64 7) fun M59 =>
      stc M59 ⟨k1, (0 + 1), none⟩ (.int .i64 m) fun M60 =>
      stc M60 ⟨k1, (0 + 2), none⟩ (.int .i64 g) fun M61 =>
      stc M61 ⟨k1, (0 + 3), none⟩ (.slice A56 k57 k58) fun M62 =>
      exI (Mem.ld M62 ⟨k1, 0, none⟩) .i64 fun n63 =>
      exI (Mem.ld M62 ⟨k1, (0 + 1), none⟩) .i64 fun n64 =>
      exI (Mem.ld M62 ⟨k1, (0 + 2), none⟩) .i64 fun n65 =>
      exSl (Mem.ld M62 ⟨k1, (0 + 3), none⟩) fun A66 k67 k68 =>
      K (.agg #[(.int .i64 n63), (.int .i64 n64), (.int .i64 n65), (.slice A66 k67 k68)]) M62) Kp)
     (exSl (Mem.ld M50 ⟨k17, (0 + 1), none⟩) fun A69 k70 k71 =>
      stc M50 ⟨k1, 0, none⟩ (.int .i64 7) fun M72 =>
      stc M72 ⟨k1, (0 + 1), none⟩ (.int .i64 m) fun M73 =>
      stc M73 ⟨k1, (0 + 2), none⟩ (.int .i64 g) fun M74 =>
      stc M74 ⟨k1, (0 + 3), none⟩ (.slice A69 k70 k71) fun M75 =>
      exI (Mem.ld M75 ⟨k1, 0, none⟩) .i64 fun n76 =>
      exI (Mem.ld M75 ⟨k1, (0 + 1), none⟩) .i64 fun n77 =>
      exI (Mem.ld M75 ⟨k1, (0 + 2), none⟩) .i64 fun n78 =>
      exSl (Mem.ld M75 ⟨k1, (0 + 3), none⟩) fun A79 k80 k81 =>
      K (.agg #[(.int .i64 n76), (.int .i64 n77), (.int .i64 n78), (.slice A79 k80 k81)]) M75)) Kp := by
  have hmc := mc_idx m0 m1
  have m2 : m.toNat < x.ms.length := by omega
  refine s_row (E := machE) (a := { mcAt x m with left := (mcAt x m).left - 1 }) (a' := ⟨(mcAt x m).p, -1, (mcAt x m).left - 1⟩) m.toNat 1 h (by simp [m2]) (by decide) rfl (by show _ = m.toNat * 3 + 1; omega) ?_
  clear h; intro M h
  rw [set_set'] at h
  replace h : Hp R (glP (scG b wb db a x) x.gl :: objP (idleR pa p) wb x.w :: objP (souR .nilFunc) db x.d :: rowPr a.ap a.cp (prow a.lb x.ps) :: objsP locR a.lb (x.ps.map Prc.q) :: rowMc (some ⟨q2, 0, none⟩) a.cm (x.ms.set m.toNat ⟨(mcAt x m).p, -1, (mcAt x m).left - 1⟩) :: effPt k17 kp A rd.length c :: pt k1 [.int .i64 0, .int .i64 0, .int .i64 0, .slice none 0 0] 47 :: L') M := h.sub (by repeat (first | exact .refl | refine .cons (by repeat (first | exact .here | apply Pick.there)) ?_ | apply Sub.drop))
  rw [sc_w h]
  refine u_exP ?_
  refine world_Status h g0 g1 ?_
  refine u_exI ?_
  have fin : ∀ (gl' : List Int) (M : Mem), gl' = (if (gorAt x.w g).st = 1 then x.gl ++ [g] else x.gl) → Hp R (glP (scG b wb db a x) gl' :: objP (idleR pa p) wb x.w :: objP (souR .nilFunc) db x.d :: rowPr a.ap a.cp (prow a.lb x.ps) :: objsP locR a.lb (x.ps.map Prc.q) :: rowMc (some ⟨q2, 0, none⟩) a.cm (x.ms.set m.toNat ⟨(mcAt x m).p, -1, (mcAt x m).left - 1⟩) :: effPt k17 kp A rd.length c :: pt k1 [.int .i64 0, .int .i64 0, .int .i64 0, .slice none 0 0] 47 :: L') M →
      exSl (Mem.ld M ⟨k17, (0 + 1), none⟩) fun A56 k57 k58 => stc M ⟨k1, 0, none⟩ (.int .i64 7) fun M59 => stc M59 ⟨k1, (0 + 1), none⟩ (.int .i64 m) fun M60 => stc M60 ⟨k1, (0 + 2), none⟩ (.int .i64 g) fun M61 => stc M61 ⟨k1, (0 + 3), none⟩ (.slice A56 k57 k58) fun M62 =>
      exI (Mem.ld M62 ⟨k1, 0, none⟩) .i64 fun n63 => exI (Mem.ld M62 ⟨k1, (0 + 1), none⟩) .i64 fun n64 => exI (Mem.ld M62 ⟨k1, (0 + 2), none⟩) .i64 fun n65 => exSl (Mem.ld M62 ⟨k1, (0 + 3), none⟩) fun A66 k67 k68 =>
      K (.agg #[(.int .i64 n63), (.int .i64 n64), (.int .i64 n65), (.slice A66 k67 k68)]) M62 := by
    intro gl' M hgl' h
    refine t_exSl h ?_
    refine ev_st h ?_
    clear h; intro M h
    refine ev_ld h ?_
    refine k _ (sch_mk (a := a) (x := { x.setM m { mcAt x m with left := (mcAt x m).left - 1, g := -1 } with gl := if (gorAt x.w g).st = 1 then x.gl ++ [g] else x.gl }) hl ?_)
    rw [← hgl']
    have e1 : scG b wb db a { x.setM m { mcAt x m with left := (mcAt x m).left - 1, g := -1 } with gl := gl' } = scG b wb db a x := scG_setM (x := x)
    rw [e1]
    show Hp R (_ :: _ :: _ :: _ :: _ :: rowMc a.am a.cm (x.ms.set m.toNat ⟨(mcAt x m).p, -1, (mcAt x m).left - 1⟩) :: _) M
    rw [ham]
    exact h.sub (by repeat (first | exact .refl | refine .cons (by repeat (first | exact .here | apply Pick.there)) ?_ | apply Sub.drop))
  refine bsp_eq.2 ⟨fun e1 => ?_, fun e1 => ?_⟩
  · refine s_nwc h ?_
    clear h; intro k52 M h
    replace h := (h.pt k52).row_pt (E := intE) (l := [g]) rfl
    replace h : Hp R (glP (scG b wb db a x) x.gl :: rowI (some ⟨k52, 0, none⟩) 1 [g] :: objP (idleR pa p) wb x.w :: objP (souR .nilFunc) db x.d :: rowPr a.ap a.cp (prow a.lb x.ps) :: objsP locR a.lb (x.ps.map Prc.q) :: rowMc (some ⟨q2, 0, none⟩) a.cm (x.ms.set m.toNat ⟨(mcAt x m).p, -1, (mcAt x m).left - 1⟩) :: effPt k17 kp A rd.length c :: pt k1 [.int .i64 0, .int .i64 0, .int .i64 0, .slice none 0 0] 47 :: L') M := h.sub (by repeat (first | exact .refl | refine .cons (by repeat (first | exact .here | apply Pick.there)) ?_ | apply Sub.drop))
    refine local_gPut (P := scG b wb db a x) sc_gl h (Src.row (A := some ⟨k52, 0, none⟩)) rfl (by simp; omega) ?_
    clear h; intro M h
    refine ⟨rfl, ?_⟩
    exact fin _ M (by rw [if_pos e1]) (h.sub (by repeat (first | exact .refl | refine .cons (by repeat (first | exact .here | apply Pick.there)) ?_ | apply Sub.drop)))
  · exact fin _ M (by rw [if_neg e1]) h
theorem ready_fold {m : Int} : ∀ (l : List Int) (z : Sc), 0 ≤ (mcAt z m).p → (mcAt z m).p < z.ps.length → (l.foldl (readyStep m) z).ms = z.ms ∧ (l.foldl (readyStep m) z).ps.length = z.ps.length ∧ (l.foldl (readyStep m) z).w = z.w ∧ (l.foldl (readyStep m) z).d = z.d ∧ (l.foldl (readyStep m) z).c = z.c ∧ (l.foldl (readyStep m) z).steps = z.steps ∧ ∀ bs, prow bs (l.foldl (readyStep m) z).ps = prow bs z.ps
  | [], z, _, _ => ⟨rfl, rfl, rfl, rfl, rfl, rfl, fun _ => rfl⟩
  | r :: l, z, h0, h1 => by
    have hp : z.ps[(mcAt z m).p.toNat]? = some (prAt z (mcAt z m).p) := by
      obtain ⟨y, hy⟩ := idx_ex (l := z.ps) (i := (mcAt z m).p.toNat) (by omega)
      have e : prAt z (mcAt z m).p = y := by simp [prAt, hy]
      rw [e]; exact hy
    have hms : (readyStep m z r).ms = z.ms := rfl
    have hps : (readyStep m z r).ps.length = z.ps.length := by simp [readyStep, Sc.setP]
    have hmc : mcAt (readyStep m z r) m = mcAt z m := rfl
    obtain ⟨a1, a2, a3, a4, a5, a6, a7⟩ := ready_fold l (readyStep m z r) (by rw [hmc]; exact h0) (by rw [hmc, hps]; exact h1)
    refine ⟨a1, by rw [List.foldl_cons, a2, hps], a3, a4, a5, a6, fun bs => ?_⟩
    rw [List.foldl_cons, a7]
    exact prow_q hp rfl rfl
end
end Go.Proofs

namespace Go.Proofs
open Go.AF
set_option linter.unusedVariables false
set_option maxRecDepth 100000
set_option maxHeartbeats 1000000
attribute [local irreducible] exI exB exS exP exSl exV nilc stc nwc semK semU bsp
/-- How a scheduler's step ends. -/
def ScEnd (R : Mem) (pa : PA) (p : Prg) (b wb db : Nat) (L' : List HP) (K : Value → Mem → Prop) (Kp : List PanicEntry → Mem → Prop) (y : Sc) : SOut → Prop
  | .ev e => ∀ R' A c M', R.le R' → RS intE R' A c e.ready → Hp R' (objP (schR pa p wb db) b y :: L') M' → K (evV e A c) M'
  | .dry l => ∀ M', Hp R (objP (schR pa p wb db) b y :: L') M' → Kp l M'
section
variable {R : Mem} {L L' L2 : List HP} {M : Mem} {K : Value → Mem → Prop} {Kp : List PanicEntry → Mem → Prop} {pa : PA} {p : Prg} {b wb db : Nat} {x : Sc} {m i : Int} {a : SA}
theorem n_eq {A : Option Addr} {q o : Nat} {G : Nat → Nat → Prop} (e : A = some ⟨q, o, none⟩) (g : G q o) : nilc A G := by subst e; exact u_nilc g
theorem run_tail {q2 k1 c : Nat} {g : Int} {kp : Bool} {A : Option Addr} {w : Wd} {d' : Sou} {rest : Bool} {y : Sc} {o : SOut}
    (h : Hp R (glP (scG b wb db a x) x.gl :: objP (idleR pa p) wb w :: objP (souR .nilFunc) db d' :: rowPr a.ap a.cp (prow a.lb x.ps) :: objsP locR a.lb (x.ps.map Prc.q) :: rowMc (some ⟨q2, 0, none⟩) a.cm x.ms :: pt k1 [.int .i64 0, .int .i64 0, .int .i64 0, .slice none 0 0] 47 :: L') M)
    (hrs : RS intE R A c w.ready) (ham : a.am = some ⟨q2, 0, none⟩) (hl : a.lb.length = x.ps.length) (hpre : runPre p x m) (hg : g = (mcAt x m).g) (hkp : kp = keepOf w g rest) (he : runOn x m g d' w rest = some (y, o)) (k : ScEnd R pa p b wb db L' K Kp y o) :
    ∃ t13 : Bool, ∃ A14 : Option Addr, ∃ k15 : Nat, ∃ k16 : Nat, ((Value.agg #[.bool kp, .slice A w.ready.length c]) = (.agg #[(.bool t13), (.slice A14 k15 k16)])) ∧
nwc M (.cells #[(.bool false), (.slice none 0 0)] 120 (0, 0)) fun k17 M18 =>
stc M18 ⟨k17, 0, none⟩ (.bool t13) fun M19 =>
stc M19 ⟨k17, (0 + 1), none⟩ (.slice A14 k15 k16) fun M20 =>
exSl (Mem.ld M20 ⟨k17, (0 + 1), none⟩) fun A21 k22 k23 =>
∃ I24 : Nat → List Value → Mem → Prop, (∃ k25 : Nat, I24 k25 [(.int .i64 0)] M20) ∧
∀ k26 : Nat, ∀ junk27 : Nat → Value, ∀ n28 : Int, ∀ M29 : Mem, (I24 k26 [(.int .i64 n28)] M29) → bsp (decide ((n28 : Int) < ((k22 : Nat) : Int)))
 (((0 : Int) ≤ n28) ∧
  ((n28 : Int) < ((k22 : Nat) : Int)) ∧
  nilc A21 fun k30 k31 =>
  exI (Mem.ld M29 ⟨k30, (k31 + (Int.toNat n28)), none⟩) .i64 fun n32 =>
  exSl (Mem.ld M29 ⟨b, (0 + 5), none⟩) fun A33 k34 k35 =>
  exI (Mem.ld M29 ⟨q2, (m.toNat * 3), none⟩) .i64 fun n36 =>
  ((0 : Int) ≤ n36) ∧
  ((n36 : Int) < ((k34 : Nat) : Int)) ∧
  nilc A33 fun k37 k38 =>
  exP (Mem.ld M29 ⟨k37, (k38 + ((Int.toNat n36) * 3)), none⟩) fun A39 =>
  ACalls Tryz.prog 134 #[(.pointer A39), (.int .i64 n32), (.pointer (some ⟨b, (0 + 7), none⟩))] M29 (fun v40 M41 =>
  exI (some v40) .i64 fun n42 =>
  ∃ k43 : Nat, (k43 < k26) ∧
  I24 k43 [(.int .i64 (IntKind.wrap .i64 (n28 + 1)))] M41) Kp)
 (exI (Mem.ld M29 ⟨q2, ((m.toNat * 3) + 2), none⟩) .i64 fun n44 =>
  stc M29 ⟨q2, ((m.toNat * 3) + 2), none⟩ (.int .i64 (IntKind.wrap .i64 (n44 - 1))) fun M45 =>
  exB (Mem.ld M45 ⟨k17, 0, none⟩) fun t46 =>
  bsp (!t46)
   (stc M45 ⟨q2, ((m.toNat * 3) + 1), none⟩ (.int .i64 (-1)) fun M47 =>
    exP (Mem.ld M47 ⟨b, 0, none⟩) fun A48 =>
    ACalls Tryz.prog 65 #[(.pointer A48), (.int .i64 g)] M47 (fun v49 M50 =>
    exI (some v49) .i64 fun n51 =>
    bsp (n51 == 1)
     (nwc M50 (.cells #[(.int .i64 g)] 3 (0, 0)) fun k52 M53 =>
      ACalls Tryz.prog 53 #[(.pointer (some ⟨b, (0 + 7), none⟩)), (.slice (some ⟨k52, 0, none⟩) 1 1)] M53 (fun v54 M55 =>
      (v54 = (.tuple #[])) ∧
      exSl (Mem.ld M55 ⟨k17, (0 + 1), none⟩) fun A56 k57 k58 =>
      stc M55 ⟨k1, 0, none⟩ (.int .i64 7) fun M59 =>
      stc M59 ⟨k1, (0 + 1), none⟩ (.int .i64 m) fun M60 =>
      stc M60 ⟨k1, (0 + 2), none⟩ (.int .i64 g) fun M61 =>
      stc M61 ⟨k1, (0 + 3), none⟩ (.slice A56 k57 k58) fun M62 =>
      exI (Mem.ld M62 ⟨k1, 0, none⟩) .i64 fun n63 =>
      exI (Mem.ld M62 ⟨k1, (0 + 1), none⟩) .i64 fun n64 =>
      exI (Mem.ld M62 ⟨k1, (0 + 2), none⟩) .i64 fun n65 =>
      exSl (Mem.ld M62 ⟨k1, (0 + 3), none⟩) fun A66 k67 k68 =>
      K (.agg #[(.int .i64 n63), (.int .i64 n64), (.int .i64 n65), (.slice A66 k67 k68)]) M62) Kp)
     (exSl (Mem.ld M50 ⟨k17, (0 + 1), none⟩) fun A69 k70 k71 =>
      stc M50 ⟨k1, 0, none⟩ (.int .i64 7) fun M72 =>
      stc M72 ⟨k1, (0 + 1), none⟩ (.int .i64 m) fun M73 =>
      stc M73 ⟨k1, (0 + 2), none⟩ (.int .i64 g) fun M74 =>
      stc M74 ⟨k1, (0 + 3), none⟩ (.slice A69 k70 k71) fun M75 =>
      exI (Mem.ld M75 ⟨k1, 0, none⟩) .i64 fun n76 =>
      exI (Mem.ld M75 ⟨k1, (0 + 1), none⟩) .i64 fun n77 =>
      exI (Mem.ld M75 ⟨k1, (0 + 2), none⟩) .i64 fun n78 =>
      exSl (Mem.ld M75 ⟨k1, (0 + 3), none⟩) fun A79 k80 k81 =>
      K (.agg #[(.int .i64 n76), (.int .i64 n77), (.int .i64 n78), (.slice A79 k80 k81)]) M75)) Kp)
   (exI (Mem.ld M45 ⟨q2, ((m.toNat * 3) + 2), none⟩) .i64 fun n82 =>
    bsp (n82 == 0)
     (stc M45 ⟨q2, ((m.toNat * 3) + 1), none⟩ (.int .i64 (-1)) fun M83 =>
      exP (Mem.ld M83 ⟨b, 0, none⟩) fun A84 =>
      ACalls Tryz.prog 65 #[(.pointer A84), (.int .i64 g)] M83 (fun v85 M86 =>
      exI (some v85) .i64 fun n87 =>
      bsp (n87 == 1)
       (nwc M86 (.cells #[(.int .i64 g)] 3 (0, 0)) fun k88 M89 =>
        ACalls Tryz.prog 53 #[(.pointer (some ⟨b, (0 + 7), none⟩)), (.slice (some ⟨k88, 0, none⟩) 1 1)] M89 (fun v90 M91 =>
        (v90 = (.tuple #[])) ∧
        exSl (Mem.ld M91 ⟨k17, (0 + 1), none⟩) fun A92 k93 k94 =>
        stc M91 ⟨k1, 0, none⟩ (.int .i64 7) fun M95 =>
        stc M95 ⟨k1, (0 + 1), none⟩ (.int .i64 m) fun M96 =>
        stc M96 ⟨k1, (0 + 2), none⟩ (.int .i64 g) fun M97 =>
        stc M97 ⟨k1, (0 + 3), none⟩ (.slice A92 k93 k94) fun M98 =>
        exI (Mem.ld M98 ⟨k1, 0, none⟩) .i64 fun n99 =>
        exI (Mem.ld M98 ⟨k1, (0 + 1), none⟩) .i64 fun n100 =>
        exI (Mem.ld M98 ⟨k1, (0 + 2), none⟩) .i64 fun n101 =>
        exSl (Mem.ld M98 ⟨k1, (0 + 3), none⟩) fun A102 k103 k104 =>
        K (.agg #[(.int .i64 n99), (.int .i64 n100), (.int .i64 n101), (.slice A102 k103 k104)]) M98) Kp)
       (exSl (Mem.ld M86 ⟨k17, (0 + 1), none⟩) fun A105 k106 k107 =>
        stc M86 ⟨k1, 0, none⟩ (.int .i64 7) fun M108 =>
        stc M108 ⟨k1, (0 + 1), none⟩ (.int .i64 m) fun M109 =>
        stc M109 ⟨k1, (0 + 2), none⟩ (.int .i64 g) fun M110 =>
        stc M110 ⟨k1, (0 + 3), none⟩ (.slice A105 k106 k107) fun M111 =>
        exI (Mem.ld M111 ⟨k1, 0, none⟩) .i64 fun n112 =>
        exI (Mem.ld M111 ⟨k1, (0 + 1), none⟩) .i64 fun n113 =>
        exI (Mem.ld M111 ⟨k1, (0 + 2), none⟩) .i64 fun n114 =>
        exSl (Mem.ld M111 ⟨k1, (0 + 3), none⟩) fun A115 k116 k117 =>
        K (.agg #[(.int .i64 n112), (.int .i64 n113), (.int .i64 n114), (.slice A115 k116 k117)]) M111)) Kp)
     (exSl (Mem.ld M45 ⟨k17, (0 + 1), none⟩) fun A118 k119 k120 =>
      stc M45 ⟨k1, 0, none⟩ (.int .i64 7) fun M121 =>
      stc M121 ⟨k1, (0 + 1), none⟩ (.int .i64 m) fun M122 =>
      stc M122 ⟨k1, (0 + 2), none⟩ (.int .i64 g) fun M123 =>
      stc M123 ⟨k1, (0 + 3), none⟩ (.slice A118 k119 k120) fun M124 =>
      exI (Mem.ld M124 ⟨k1, 0, none⟩) .i64 fun n125 =>
      exI (Mem.ld M124 ⟨k1, (0 + 1), none⟩) .i64 fun n126 =>
      exI (Mem.ld M124 ⟨k1, (0 + 2), none⟩) .i64 fun n127 =>
      exSl (Mem.ld M124 ⟨k1, (0 + 3), none⟩) fun A128 k129 k130 =>
      K (.agg #[(.int .i64 n125), (.int .i64 n126), (.int .i64 n127), (.slice A128 k129 k130)]) M124))) := by
  obtain ⟨m0, m1, i0, i1, hgl, htk, l1, l2, g0⟩ := hpre
  rw [← hg] at g0
  unfold runOn at he
  split at he
  · rename_i hc
    obtain ⟨hr, hgw⟩ := hc
    simp only [Option.some.injEq, Prod.mk.injEq] at he
    obtain ⟨he1, he2⟩ := he
    have hmc := mc_idx m0 m1
    have m2 : m.toNat < x.ms.length := by omega
    refine ⟨_, _, _, _, rfl, ?_⟩
    refine s_nwc h ?_
    clear h; intro k17 M h
    refine s_stc h ?_
    clear h; intro M h
    refine s_stc h ?_
    clear h; intro M h
    refine t_exSl h ?_
    -- the scheduler, with this world and these draws
    generalize hx1 : ({ x with w := w, d := d' } : Sc) = x1 at he1 he2
    have q1 : x1.ps = x.ps := by rw [← hx1]
    have q2' : x1.ms = x.ms := by rw [← hx1]
    have q3 : x1.gl = x.gl := by rw [← hx1]
    have q4 : x1.w = w := by rw [← hx1]
    have q5 : x1.d = d' := by rw [← hx1]
    have q6 : scG b wb db a x1 = scG b wb db a x := by rw [← hx1]
    have q7 : mcAt x1 m = mcAt x m := by rw [← hx1]; rfl
    have hf := ready_fold (m := m) (l := w.ready) (z := x1) (by rw [q7]; exact i0) (by rw [q7, q1]; exact i1)
    rw [← q1, ← q2', ← q3, ← q4, ← q5, ← q6] at h
    rw [← q4] at hrs hgw hr
    rw [show w.ready = x1.w.ready from by rw [q4]] at he1 he2 hf ⊢
    clear hx1
    have key : ∀ j, j ≤ x1.w.ready.length → ((x1.w.ready.take j).foldl (readyStep m) x1).ms = x1.ms ∧ ((x1.w.ready.take j).foldl (readyStep m) x1).ps.length = x1.ps.length ∧ ((x1.w.ready.take j).foldl (readyStep m) x1).w = x1.w ∧ ((x1.w.ready.take j).foldl (readyStep m) x1).d = x1.d ∧ ((x1.w.ready.take j).foldl (readyStep m) x1).c = x1.c ∧ ((x1.w.ready.take j).foldl (readyStep m) x1).steps = x1.steps ∧ ∀ bs, prow bs ((x1.w.ready.take j).foldl (readyStep m) x1).ps = prow bs x1.ps :=
      fun j _ => ready_fold (m := m) (l := x1.w.ready.take j) (z := x1) (by rw [q7]; exact i0) (by rw [q7, q1]; exact i1)
    refine ⟨fun d vs M => ∃ j : Nat, vs = [.int .i64 (j : Int)] ∧ d = x1.w.ready.length - j ∧ j ≤ x1.w.ready.length ∧ ((x1.w.ready.take j).foldl (readyStep m) x1).gl.length ≤ 1000000 + 1030 * j ∧
        Hp R (glP (scG b wb db a x1) ((x1.w.ready.take j).foldl (readyStep m) x1).gl :: objP (idleR pa p) wb x1.w :: objP (souR .nilFunc) db x1.d :: rowPr a.ap a.cp (prow a.lb x1.ps) :: objsP locR a.lb (((x1.w.ready.take j).foldl (readyStep m) x1).ps.map Prc.q) :: rowMc (some ⟨q2, 0, none⟩) a.cm x1.ms :: effPt k17 kp A x1.w.ready.length c :: pt k1 [.int .i64 0, .int .i64 0, .int .i64 0, .slice none 0 0] 47 :: L') M,
      ⟨_, 0, rfl, rfl, by omega, by rw [List.take_zero, List.foldl_nil, q3]; omega, h.sub (by repeat (first | exact .refl | refine .cons (by repeat (first | exact .here | apply Pick.there)) ?_ | apply Sub.drop))⟩, ?_⟩
    clear h
    rintro d _ nn M ⟨j, he3, hd, hj, hglj, h⟩
    simp only [List.cons.injEq, Value.int.injEq, and_true, true_and] at he3
    subst he3
    obtain ⟨z1, z2, z3, z4, z5, z6, z7⟩ := key j hj
    refine bsp_dec.2 ⟨fun hlt => ?_, fun hge => ?_⟩
    · obtain ⟨rv, hrv⟩ := idx_ex (l := x1.w.ready) (i := j) (by omega)
      refine ⟨by omega, hlt, ?_⟩
      obtain ⟨rb, ro, hrb⟩ := hrs.some (by omega) (by decide)
      have hrs2 := hrs
      rw [hrb] at hrs2
      refine n_eq hrb ?_
      simp only [Int.toNat_natCast]
      refine v_exI (Src.at (hrs2.src (L := _)) h (i := j) (j := 0) hrv rfl (by simp [intE])) ?_
      have hstep : (x1.w.ready.take (j + 1)).foldl (readyStep m) x1 = readyStep m ((x1.w.ready.take j).foldl (readyStep m) x1) rv := by rw [take_snoc hrv, List.foldl_append]; rfl
      generalize hz : (x1.w.ready.take j).foldl (readyStep m) x1 = z at h hstep z1 z2 z3 z4 z5 z6 z7 hglj
      have hmz : mcAt z m = mcAt x m := by unfold mcAt; rw [z1, q2']
      have hps : z.ps.length = x.ps.length := by rw [z2, q1]
      rw [sc_ps h]
      refine u_exSl ?_
      refine v_exI (Src.at (h.src (A := some ⟨q2, 0, none⟩)) h (i := m.toNat) (j := 0) (a := mcAt x m) (by rw [q2']; exact hmc) rfl (by show _ = 0 + (m.toNat * 3 + 0); simp)) ?_
      refine ⟨i0, by rw [q1]; exact i1, ?_⟩
      have hlz : a.lb.length = z.ps.length := by rw [hps]; exact hl
      obtain ⟨lb, hlb, hpr, hrow⟩ := pr_idx (i := (mcAt x m).p) (x := z) hlz i0 (by rw [hps]; exact i1)
      rw [z7] at hrow
      obtain ⟨q, hq⟩ := h.row_some (A := a.ap) (l := prow a.lb x1.ps) (by rw [prow_len (by rw [q1]; exact hl), q1]; omega) (by decide)
      have hs0 := (h.src (A := a.ap)) M h
      rw [hq] at hs0
      refine n_eq hq ?_
      refine v_exP (Sl.at hs0 (i := (mcAt x m).p.toNat * 3 + 0) (by simp) (Enc.cells_at (E := procE) hrow rfl)) ?_
      clear hs0
      have hqz : (z.ps.map Prc.q)[(mcAt x m).p.toNat]? = some (prAt z (mcAt x m).p).q := by rw [List.getElem?_map, hpr]; rfl
      replace h := h.objs_out locR hlb hqz
      replace h : Hp R (objP locR lb (prAt z (mcAt x m).p).q :: glP (scG b wb db a x1) z.gl :: objsX locR a.lb (z.ps.map Prc.q) (mcAt x m).p.toNat :: objP (idleR pa p) wb x1.w :: objP (souR .nilFunc) db x1.d :: rowPr a.ap a.cp (prow a.lb x1.ps) :: rowMc (some ⟨q2, 0, none⟩) a.cm x1.ms :: effPt k17 kp A x1.w.ready.length c :: pt k1 [.int .i64 0, .int .i64 0, .int .i64 0, .slice none 0 0] 47 :: L') M := h.sub (by repeat (first | exact .refl | refine .cons (by repeat (first | exact .here | apply Pick.there)) ?_ | apply Sub.drop))
      have hbd := loc_bd h (b := lb)
      have hrl := ready_len (q := (prAt z (mcAt x m).p).q) (r := rv) (gl := z.gl)
      refine local_Ready (P := scG b wb db a x1) sc_gl h (by omega) ?_
      clear h; intro M h
      refine u_exI ?_
      replace h := h.objs_in locR lb hlb (by rw [List.length_map]; omega)
      refine ⟨x1.w.ready.length - (j + 1), by omega, j + 1, by rw [wrap_succ (by omega)], rfl, by omega, ?_, ?_⟩
      · rw [hstep]
        unfold readyStep
        rw [hmz]
        dsimp only
        obtain ⟨b1, b2, b3⟩ := hbd
        omega
      · rw [hstep]
        have e2 : (readyStep m z rv).ps.map Prc.q = (z.ps.map Prc.q).set (mcAt x m).p.toNat ((prAt z (mcAt x m).p).q.ready rv z.gl).1 := by
          unfold readyStep; rw [hmz]; simp [Sc.setP, List.map_set]
        have e3 : (readyStep m z rv).gl = ((prAt z (mcAt x m).p).q.ready rv z.gl).2.1 := by unfold readyStep; rw [hmz]
        rw [e2, e3]
        exact h.sub (by repeat (first | exact .refl | refine .cons (by repeat (first | exact .here | apply Pick.there)) ?_ | apply Sub.drop))
    · have hjl : j = x1.w.ready.length := by omega
      subst hjl
      rw [List.take_length] at z1 z2 z3 z4 z5 z6 z7 hglj h
      clear key hf
      generalize hrd : x1.w.ready = rd at *
      generalize hz : rd.foldl (readyStep m) x1 = z at h z1 z2 z3 z4 z5 z6 z7 hglj he1 he2
      have hmz : mcAt z m = mcAt x m := by unfold mcAt; rw [z1, q2']
      have ez : scG b wb db a z = scG b wb db a x1 := by unfold scG scCells; rw [z1, z2, z5, z6]
      have hlz : a.lb.length = z.ps.length := by rw [z2, q1]; exact hl
      rw [← ez, ← z3, ← z4, ← z7, ← z1] at h
      have hmcz : z.ms[m.toNat]? = some (mcAt z m) := mc_idx m0 (by rw [z1, q2']; exact m1)
      have m1z : m < z.ms.length := by rw [z1, q2']; exact m1
      have m2z : m.toNat < z.ms.length := by omega
      rw [← hmz] at l1 l2
      refine v_exI (Src.at (h.src (A := some ⟨q2, 0, none⟩)) h (i := m.toNat) (j := 2) hmcz rfl (by show _ = 0 + (m.toNat * 3 + 2); omega)) ?_
      rw [wrap_id (by omega) (by omega)]
      refine s_row (E := machE) (a' := { mcAt z m with left := (mcAt z m).left - 1 }) m.toNat 2 h hmcz (by decide) rfl rfl ?_
      clear h; intro M h
      replace h : Hp R (glP (scG b wb db a z) z.gl :: objP (idleR pa p) wb z.w :: objP (souR .nilFunc) db z.d :: rowPr a.ap a.cp (prow a.lb z.ps) :: objsP locR a.lb (z.ps.map Prc.q) :: rowMc (some ⟨q2, 0, none⟩) a.cm (z.ms.set m.toNat { mcAt z m with left := (mcAt z m).left - 1 }) :: effPt k17 kp A rd.length c :: pt k1 [.int .i64 0, .int .i64 0, .int .i64 0, .slice none 0 0] 47 :: L') M := h.sub (by repeat (first | exact .refl | refine .cons (by repeat (first | exact .here | apply Pick.there)) ?_ | apply Sub.drop))
      refine t_exB h ?_
      have hgz : g < z.w.gs.length := by rw [z3]; exact hgw
      have park : (¬ (keepOf w g rest = true ∧ (mcAt z m).left - 1 ≠ 0)) → ∀ M', Hp R (objP (schR pa p wb db) b { z.setM m { mcAt z m with left := (mcAt z m).left - 1, g := -1 } with gl := if (gorAt z.w g).st = 1 then z.gl ++ [g] else z.gl } :: L') M' → K (evV ⟨7, m, g, rd⟩ A c) M' := by
        intro hno M' h'
        unfold Sc.runEnd at he1 he2
        rw [if_neg hno] at he1 he2
        dsimp only at he1 he2
        subst he2
        exact k R A c M' (Mem.le_refl _) hrs (by rw [← he1]; exact h')
      cases hk : kp with
      | false =>
        subst hk
        refine u_bspT ?_
        exact run_park h ham hlz m0 m1z g0 hgz (by omega) (park (fun hc => by rw [← hkp] at hc; cases hc.1))
      | true =>
        subst hk
        refine u_bspF ?_
        refine v_exI (Src.at (h.src (A := some ⟨q2, 0, none⟩)) h (i := m.toNat) (j := 2) (a := { mcAt z m with left := (mcAt z m).left - 1 }) (by simp [m2z]) rfl (by show _ = 0 + (m.toNat * 3 + 2); omega)) ?_
        refine bsp_eq.2 ⟨fun e0 => ?_, fun e0 => ?_⟩
        · exact run_park h ham hlz m0 m1z g0 hgz (by omega) (park (fun hc => hc.2 e0))
        · refine t_exSl h ?_
          refine ev_st h ?_
          clear h; intro M h
          refine ev_ld h ?_
          unfold Sc.runEnd at he1 he2
          rw [if_pos ⟨hkp.symm, e0⟩] at he1 he2
          dsimp only at he1 he2
          subst he2
          refine k R A c M (Mem.le_refl _) hrs ?_
          rw [← he1]
          refine sch_mk (a := a) (x := z.setM m { mcAt z m with left := (mcAt z m).left - 1 }) hlz ?_
          rw [scG_setM]
          show Hp R (_ :: _ :: _ :: _ :: _ :: rowMc a.am a.cm (z.ms.set m.toNat { mcAt z m with left := (mcAt z m).left - 1 }) :: _) M
          rw [ham]
          exact h.sub (by repeat (first | exact .refl | refine .cons (by repeat (first | exact .here | apply Pick.there)) ?_ | apply Sub.drop))
  · cases he
end
end Go.Proofs

namespace Go.Proofs
open Go.AF
set_option linter.unusedVariables false
set_option maxRecDepth 100000
set_option maxHeartbeats 1000000
attribute [local irreducible] exI exB exS exP exSl exV nilc stc nwc semK semU bsp
section
variable {R : Mem} {L L' L2 : List HP} {M : Mem} {K : Value → Mem → Prop} {Kp : List PanicEntry → Mem → Prop} {pa : PA} {p : Prg} {b wb db : Nat} {x : Sc} {m i : Int}
theorem sched_run {y : Sc} {o : SOut} (h : Hp R L M) [q : ScAt b L pa p wb db x L'] (hp : PrgR R pa p) (hd : x.d.k.Ok) (he : x.run p m = some (y, o)) (k : ScEnd R pa p b wb db L' K Kp y o) :
    ACalls Tryz.prog 102 #[.pointer (some ⟨b, 0, none⟩), .int .i64 m] M K Kp := by
  unfold Sc.run at he
  split at he
  · rename_i hpre
    have hpre' := hpre
    obtain ⟨m0, m1, i0, i1, hgl, htk, l1, l2, g0⟩ := hpre'
    split at he
    · rename_i hask
      have hdk : x.d.Ok := ⟨hd, by omega⟩
      refine vc_sched_Sched_run ?_
      refine s_nwc h ?_
      clear h
      intro k1 M h
      have h' := sch_open h (b := b)
      clear h
      obtain ⟨a, hl, h⟩ := h'
      have hmc := mc_idx m0 m1
      obtain ⟨q2, hq2⟩ := h.row_some (A := a.am) (l := x.ms) (by omega) (by decide)
      replace h : Hp R (glP (scG b wb db a x) x.gl :: objP (idleR pa p) wb x.w :: objP (souR .nilFunc) db x.d :: rowPr a.ap a.cp (prow a.lb x.ps) :: objsP locR a.lb (x.ps.map Prc.q) :: rowMc (some ⟨q2, 0, none⟩) a.cm x.ms :: pt k1 [.int .i64 0, .int .i64 0, .int .i64 0, .slice none 0 0] 47 :: L') M := by
        unfold scRest at h
        rw [show rowMc a.am a.cm x.ms = rowMc (some ⟨q2, 0, none⟩) a.cm x.ms from by rw [hq2]] at h
        exact h.sub (by repeat (first | exact .refl | refine .cons (by repeat (first | exact .here | apply Pick.there)) ?_ | apply Sub.drop))
      rw [sc_ms h]
      refine u_exSl ⟨m0, m1, ?_⟩
      refine n_eq hq2 ?_
      refine v_exI (Src.at (h.src (A := some ⟨q2, 0, none⟩)) h (i := m.toNat) (j := 1) hmc rfl (by show _ = 0 + (m.toNat * 3 + 1); omega)) ?_
      simp only [Nat.zero_add]
      rw [sc_w h]
      refine u_exP ?_
      rw [show M.ld ⟨b, 8, none⟩ = some (.pointer (some ⟨db, 0, none⟩)) from sc_d h]
      refine u_exP ⟨trivial, ?_⟩
      replace h : Hp R (objP (idleR pa p) wb x.w :: objP (souR .nilFunc) db x.d :: glP (scG b wb db a x) x.gl :: rowPr a.ap a.cp (prow a.lb x.ps) :: objsP locR a.lb (x.ps.map Prc.q) :: rowMc (some ⟨q2, 0, none⟩) a.cm x.ms :: pt k1 [.int .i64 0, .int .i64 0, .int .i64 0, .slice none 0 0] 47 :: L') M := h.sub (by repeat (first | exact .refl | refine .cons (by repeat (first | exact .here | apply Pick.there)) ?_ | apply Sub.drop))
      generalize hrest : (glP (scG b wb db a x) x.gl :: rowPr a.ap a.cp (prow a.lb x.ps) :: objsP locR a.lb (x.ps.map Prc.q) :: rowMc (some ⟨q2, 0, none⟩) a.cm x.ms :: pt k1 [.int .i64 0, .int .i64 0, .int .i64 0, .slice none 0 0] 47 :: L') = LL at h
      have hds : match asks p { x.w with ready := [] } (mcAt x m).g with
          | none => (objP (souR .nilFunc) db (askDraw x.d (asks p { x.w with ready := [] } (mcAt x m).g)).1 :: LL) = (objP (souR .nilFunc) db x.d :: LL)
          | some (kd, n) => DrawSpec R (.func (.func 98) #[.pointer (some ⟨db, 0, none⟩)] #[]) kd n (askDraw x.d (asks p { x.w with ready := [] } (mcAt x m).g)).2 (objP (souR .nilFunc) db x.d :: LL) (objP (souR .nilFunc) db (askDraw x.d (asks p { x.w with ready := [] } (mcAt x m).g)).1 :: LL) := by
        cases hak : asks p { x.w with ready := [] } (mcAt x m).g with
        | none => rfl
        | some kn =>
          obtain ⟨kd, n⟩ := kn
          rw [hak] at hask
          exact draw_spec hdk (of_decide_eq_true hask) htk
      have hdry : ∀ l, (askDraw x.d (asks p { x.w with ready := [] } (mcAt x m).g)).2 = .dry l → DryOk l (dry2 l) := by
        intro l hl
        cases hak : asks p { x.w with ready := [] } (mcAt x m).g with
        | none => rw [hak] at hl; cases hl
        | some kn =>
          obtain ⟨kd, n⟩ := kn
          rw [hak] at hl
          exact (draw_dry (x' := (x.d.draw kd n).1) (by rw [← hl]; rfl)).2
      generalize hdd : askDraw x.d (asks p { x.w with ready := [] } (mcAt x m).g) = dd at he hds hdry
      obtain ⟨d', dr⟩ := dd
      dsimp only at he hds hdry
      cases hex : execR p x.w (mcAt x m).g dr with
      | none => rw [hex] at he; cases he
      | some rr =>
        obtain ⟨r, rest⟩ := rr
        rw [hex] at he
        refine law_ExecR h hp ⟨_, _, _, rfl⟩ hex hds ?_
        cases r with
        | dry l w =>
          dsimp only at he
          simp only [Option.some.injEq, Prod.mk.injEq] at he
          obtain ⟨he1, he2⟩ := he
          obtain ⟨hdr, hw⟩ := execR_dry hex
          refine ⟨dry2 l, hdry l hdr, ?_⟩
          intro M h
          subst he2
          refine k M ?_
          rw [← he1]
          rw [← hrest] at h
          have h9 : Hp R (glP (scG b wb db a { x with w := w, d := d' }) x.gl :: objP (idleR pa p) wb w :: objP (souR .nilFunc) db d' :: rowPr a.ap a.cp (prow a.lb x.ps) :: objsP locR a.lb (x.ps.map Prc.q) :: rowMc a.am a.cm x.ms :: L') M := by
            rw [show rowMc a.am a.cm x.ms = rowMc (some ⟨q2, 0, none⟩) a.cm x.ms from by rw [hq2], show scG b wb db a { x with w := w, d := d' } = scG b wb db a x from rfl]
            exact h.sub (by repeat (first | exact .refl | refine .cons (by repeat (first | exact .here | apply Pick.there)) ?_ | apply Sub.drop))
          exact sch_mk (a := a) (x := { x with w := w, d := d' }) hl h9
        | on w =>
          intro R' A c M hle hrs h
          rw [← hrest] at h
          have h2 : Hp R' (glP (scG b wb db a x) x.gl :: objP (idleR pa p) wb w :: objP (souR .nilFunc) db d' :: rowPr a.ap a.cp (prow a.lb x.ps) :: objsP locR a.lb (x.ps.map Prc.q) :: rowMc (some ⟨q2, 0, none⟩) a.cm x.ms :: pt k1 [.int .i64 0, .int .i64 0, .int .i64 0, .slice none 0 0] 47 :: L') M := h.sub (by repeat (first | exact .refl | refine .cons (by repeat (first | exact .here | apply Pick.there)) ?_ | apply Sub.drop))
          refine run_tail (K := K) (Kp := Kp) (w := w) (g := (mcAt x m).g) (kp := keepOf w (mcAt x m).g rest) (rest := rest) h2 hrs hq2 hl hpre rfl rfl he ?_
          cases o with
          | ev e => exact fun R2 A2 c2 M2 hle2 => k R2 A2 c2 M2 (Mem.le_trans hle hle2)
          | dry l =>
            dsimp only at he
            unfold runOn at he
            split at he
            · simp only [Option.some.injEq, Prod.mk.injEq] at he; cases he.2
            · cases he
        | trap n w =>
          intro R' A c M hle hrs h
          rw [← hrest] at h
          have h2 : Hp R' (glP (scG b wb db a x) x.gl :: objP (idleR pa p) wb { w with end_ := 2, code := n } :: objP (souR .nilFunc) db d' :: rowPr a.ap a.cp (prow a.lb x.ps) :: objsP locR a.lb (x.ps.map Prc.q) :: rowMc (some ⟨q2, 0, none⟩) a.cm x.ms :: pt k1 [.int .i64 0, .int .i64 0, .int .i64 0, .slice none 0 0] 47 :: L') M := h.sub (by repeat (first | exact .refl | refine .cons (by repeat (first | exact .here | apply Pick.there)) ?_ | apply Sub.drop))
          refine run_tail (K := K) (Kp := Kp) (w := { w with end_ := 2, code := n }) (g := (mcAt x m).g) (kp := keepOf { w with end_ := 2, code := n } (mcAt x m).g rest) (rest := rest) h2 hrs hq2 hl hpre rfl rfl he ?_
          cases o with
          | ev e => exact fun R2 A2 c2 M2 hle2 => k R2 A2 c2 M2 (Mem.le_trans hle hle2)
          | dry l =>
            dsimp only at he
            unfold runOn at he
            split at he
            · simp only [Option.some.injEq, Prod.mk.injEq] at he; cases he.2
            · cases he
    · cases he
  · cases he
theorem step_inc {e : Ev} {o : SOut} {y z : Sc} (h : incS (z, .ev e) = (y, o)) : o = .ev e ∧ y = { z with steps := z.steps + 1 } := by
  unfold incS at h; cases h; exact ⟨rfl, rfl⟩
theorem sched_Step {y : Sc} {o : SOut} (h : Hp R L M) [q : ScAt b L pa p wb db x L'] (hp : PrgR R pa p) (hd : x.d.k.Ok) (he : x.step p = some (y, o)) (k : ScEnd R pa p b wb db L' K Kp y o) :
    ACalls Tryz.prog 50 #[.pointer (some ⟨b, 0, none⟩)] M K Kp := by
  unfold Sc.step at he
  split at he
  · rename_i hpre
    obtain ⟨hgs, hcM, hps, hms, htk, hst0, hst1⟩ := hpre
    refine vc_sched_Sched_Step ?_
    refine s_nwc h ?_
    clear h
    intro k1 M h
    refine sched_Status h hgs ?_
    refine u_exI ?_
    split at he
    · rename_i hst
      simp only [Option.some.injEq, Prod.mk.injEq] at he
      obtain ⟨he1, he2⟩ := he
      subst he1; subst he2
      refine bsp_ne.2 ⟨fun _ => ?_, fun hn => absurd hn hst⟩
      refine ev_st h ?_
      clear h; intro M h
      refine ev_ld h ?_
      exact k R none 0 M (Mem.le_refl _) (RS.nil _ _) (h.drop.pick q.pick)
    · rename_i hst
      refine bsp_ne.2 ⟨fun hn => absurd hn hst, fun _ => ?_⟩
      have h' := sch_open h (b := b)
      clear h
      obtain ⟨a, hl, h⟩ := h'
      rw [sc_d h]
      refine u_exP ?_
      rw [sc_M h]
      refine u_exI ?_
      have hdk : x.d.Ok := ⟨hd, by omega⟩
      have hnw : IntKind.wrap .i64 (x.c.M + 1) = x.c.M + 1 := wrap_id (by omega) (by omega)
      rw [hnw]
      replace h : Hp R (objP (souR .nilFunc) db x.d :: glP (scG b wb db a x) x.gl :: objP (idleR pa p) wb x.w :: rowPr a.ap a.cp (prow a.lb x.ps) :: objsP locR a.lb (x.ps.map Prc.q) :: rowMc a.am a.cm x.ms :: pt k1 [.int .i64 0, .int .i64 0, .int .i64 0, .slice none 0 0] 47 :: L') M := h.sub (by repeat (first | exact .refl | refine .cons (by repeat (first | exact .here | apply Pick.there)) ?_ | apply Sub.drop))
      refine source_Draw h hdk (by omega) (by omega) ?_
      clear h
      have hok2 := draw_ok (kind := 1) (n := x.c.M + 1) hd
      have hnum : ∀ x' v, x.d.draw 1 (x.c.M + 1) = (x', .num v) → 0 ≤ v ∧ v < x.c.M + 1 ∧ x'.taken = x.d.taken ++ [(1, v)] := by
        intro x' v hv
        have := draw_num hd hv
        rw [show max1 (x.c.M + 1) = x.c.M + 1 from by unfold max1; rw [if_neg (by omega)]] at this
        exact this
      generalize hdd : x.d.draw 1 (x.c.M + 1) = dd at he hok2 hnum
      obtain ⟨d', dr⟩ := dd
      have mk : ∀ {M : Mem}, Hp R (objP (souR .nilFunc) db d' :: glP (scG b wb db a x) x.gl :: objP (idleR pa p) wb x.w :: rowPr a.ap a.cp (prow a.lb x.ps) :: objsP locR a.lb (x.ps.map Prc.q) :: rowMc a.am a.cm x.ms :: pt k1 [.int .i64 0, .int .i64 0, .int .i64 0, .slice none 0 0] 47 :: L') M → Hp R (objP (schR pa p wb db) b { x with d := d' } :: pt k1 [.int .i64 0, .int .i64 0, .int .i64 0, .slice none 0 0] 47 :: L') M :=
        fun h => sch_mk (a := a) (x := { x with d := d' }) hl (h.sub (by repeat (first | exact .refl | refine .cons (by repeat (first | exact .here | apply Pick.there)) ?_ | apply Sub.drop)))
      cases dr with
      | dry l =>
        dsimp only at he ⊢
        simp only [Option.some.injEq, Prod.mk.injEq] at he
        obtain ⟨he1, he2⟩ := he
        intro M h
        subst he2
        refine k M ?_
        rw [← he1]
        exact (mk h).fin1
      | num mm =>
        dsimp only at he ⊢
        obtain ⟨v0, v1, htk2⟩ := hnum d' mm rfl
        intro M h
        replace h := mk h
        clear mk
        refine u_exI ?_
        generalize hx1 : ({ x with d := d' } : Sc) = x1 at h he
        have e1 : x1.c = x.c := by rw [← hx1]
        have e2 : x1.ms = x.ms := by rw [← hx1]
        have e3 : x1.ps = x.ps := by rw [← hx1]
        have e4 : x1.d.k.Ok := by rw [← hx1]; exact hok2
        have e5 : x1.steps = x.steps := by rw [← hx1]
        clear hx1
        refine s_nwc h ?_
        clear h; intro k21 M h
        replace h : Hp R (objP (schR pa p wb db) b x1 :: pt k1 [.int .i64 0, .int .i64 0, .int .i64 0, .slice none 0 0] 47 :: pt k21 [.int .i64 0, .int .i64 0, .int .i64 0, .slice none 0 0] 47 :: L') M := h.sub (by repeat (first | exact .refl | refine .cons (by repeat (first | exact .here | apply Pick.there)) ?_ | apply Sub.drop))
        -- the end of each way
        have fin : ∀ (R' : Mem) (A : Option Addr) (c : Nat) (M : Mem) (z : Sc) (e : Ev), R.le R' → RS intE R' A c e.ready → z.steps = x.steps → incS (z, .ev e) = (y, o) → Hp R' (objP (schR pa p wb db) b z :: pt k1 [.int .i64 0, .int .i64 0, .int .i64 0, .slice none 0 0] 47 :: pt k21 [.int .i64 0, .int .i64 0, .int .i64 0, .slice none 0 0] 47 :: L') M →
            stc M ⟨k21, 0, none⟩ (.int .i64 e.kind) fun M32 => stc M32 ⟨k21, (0 + 1), none⟩ (.int .i64 e.m) fun M33 => stc M33 ⟨k21, (0 + 2), none⟩ (.int .i64 e.g) fun M34 => stc M34 ⟨k21, (0 + 3), none⟩ (.slice A e.ready.length c) fun M35 =>
            exI (Mem.ld M35 ⟨b, (0 + 9), none⟩) .i64 fun n36 => stc M35 ⟨b, (0 + 9), none⟩ (.int .i64 (IntKind.wrap .i64 (n36 + 1))) fun M37 =>
            exI (Mem.ld M37 ⟨k21, 0, none⟩) .i64 fun n38 => exI (Mem.ld M37 ⟨k21, (0 + 1), none⟩) .i64 fun n39 => exI (Mem.ld M37 ⟨k21, (0 + 2), none⟩) .i64 fun n40 => exSl (Mem.ld M37 ⟨k21, (0 + 3), none⟩) fun A41 k42 k43 =>
            stc M37 ⟨k1, 0, none⟩ (.int .i64 n38) fun M44 => stc M44 ⟨k1, (0 + 1), none⟩ (.int .i64 n39) fun M45 => stc M45 ⟨k1, (0 + 2), none⟩ (.int .i64 n40) fun M46 => stc M46 ⟨k1, (0 + 3), none⟩ (.slice A41 k42 k43) fun M47 =>
            exI (Mem.ld M47 ⟨k1, 0, none⟩) .i64 fun n48 => exI (Mem.ld M47 ⟨k1, (0 + 1), none⟩) .i64 fun n49 => exI (Mem.ld M47 ⟨k1, (0 + 2), none⟩) .i64 fun n50 => exSl (Mem.ld M47 ⟨k1, (0 + 3), none⟩) fun A51 k52 k53 =>
            K (.agg #[(.int .i64 n48), (.int .i64 n49), (.int .i64 n50), (.slice A51 k52 k53)]) M47 := by
          intro R' A c M z e hle hrs hzs hinc h
          obtain ⟨ho, hy⟩ := step_inc hinc
          subst ho; subst hy
          refine ev_st h ?_
          clear h; intro M h
          have h' := sch_open h (b := b)
          clear h
          obtain ⟨a3, hl3, h⟩ := h'
          have h' := sch_op2 h
          clear h
          obtain ⟨A4, c4, h⟩ := h'
          refine t_exI h ?_
          rw [wrap_id (by omega) (by omega)]
          refine s_stc h ?_
          clear h; intro M h
          refine ev_ld h ?_
          refine ev_st h ?_
          clear h; intro M h
          refine ev_ld h ?_
          refine k R' A c M hle hrs (sch_mk (a := a3) (x := { z with steps := z.steps + 1 }) hl3 ?_)
          exact sch_cl2 (x := { z with steps := z.steps + 1 }) (h.sub (by repeat (first | exact .refl | refine .cons (by repeat (first | exact .here | apply Pick.there)) ?_ | apply Sub.drop)))
        have h' := sch_open h (b := b)
        clear h
        obtain ⟨a5, hl5, h⟩ := h'
        rw [sc_M h]
        refine u_exI ?_
        have hback : ∀ {M : Mem}, Hp R (glP (scG b wb db a5 x1) x1.gl :: objP (idleR pa p) wb x1.w :: objP (souR .nilFunc) db x1.d :: scRest a5 x1 (pt k1 [.int .i64 0, .int .i64 0, .int .i64 0, .slice none 0 0] 47 :: pt k21 [.int .i64 0, .int .i64 0, .int .i64 0, .slice none 0 0] 47 :: L')) M → Hp R (objP (schR pa p wb db) b x1 :: pt k1 [.int .i64 0, .int .i64 0, .int .i64 0, .slice none 0 0] 47 :: pt k21 [.int .i64 0, .int .i64 0, .int .i64 0, .slice none 0 0] 47 :: L') M := fun h => sch_mk (a := a5) hl5 h
        unfold Sc.act at he
        refine bsp_eq.2 ⟨fun em => ?_, fun em => ?_⟩
        · rw [if_pos em] at he
          split at he
          · rename_i htick
            simp only [Option.map_some, Option.some.injEq] at he
            refine sched_tick (hback h) htick ?_
            clear h; intro R' A c M hle hrs h
            refine ⟨_, _, _, _, _, _, rfl, ?_⟩
            exact fin R' A c M _ _ hle hrs (by rw [← e5]; rfl) he h
          · cases he
        rw [if_neg em] at he
        have mlt : mm < x1.ms.length := by
          have a1 : x1.c.M = x.c.M := by rw [e1]
          have a2 : x1.ms.length = x.ms.length := by rw [e2]
          omega
        have hmc := mc_idx v0 mlt
        obtain ⟨q2, hq2⟩ := h.row_some (A := a5.am) (l := x1.ms) (by omega) (by decide)
        have hs0 := (h.src (A := a5.am)) M h
        rw [hq2] at hs0
        rw [sc_ms h]
        refine u_exSl ⟨v0, mlt, ?_⟩
        refine n_eq hq2 ?_
        refine v_exI (Sl.at hs0 (i := mm.toNat * 3 + 0) (by simp) (Enc.cells_at (E := machE) hmc rfl)) ?_
        refine bsp_eq.2 ⟨fun ep => ?_, fun ep => ?_⟩
        · rw [if_pos ep] at he
          simp only [Option.map_some, Option.some.injEq] at he
          refine sched_hold (hback h) v0 mlt (by rw [e3]; omega) ?_
          clear h hs0; intro M h
          have hev : (x1.hold mm).2.ready = [] := by unfold Sc.hold; split <;> rfl
          have hsteps : (x1.hold mm).1.steps = x.steps := by rw [← e5]; unfold Sc.hold; split <;> rfl
          refine ⟨_, _, _, _, _, _, rfl, ?_⟩
          exact fin R none 0 M _ _ (Mem.le_refl _) (by rw [hev]; exact RS.nil _ _) hsteps he h
        rw [if_neg ep] at he
        refine u_exSl ⟨v0, mlt, ?_⟩
        refine n_eq hq2 ?_
        refine v_exI (Sl.at hs0 (i := mm.toNat * 3 + 1) (by simp) (Enc.cells_at (E := machE) hmc rfl)) ?_
        clear hs0
        refine bsp_eq.2 ⟨fun eg => ?_, fun eg => ?_⟩
        · rw [if_pos eg] at he
          split at he
          · rename_i hfo
            simp only [Option.map_some, Option.some.injEq] at he
            have hsteps : (x1.find mm).1.steps = x.steps := by
              rw [← e5]
              have hfe : ∀ (z : Sc) a b c d e, (z.findEnd a b c d e).1.steps = z.steps := by intro z a b c d e; unfold Sc.findEnd; split <;> rfl
              unfold Sc.find
              dsimp only
              split
              · rfl
              · split
                · split
                  · rfl
                  · split <;> exact hfe ..
                · exact hfe ..
            have hrd : ∀ e, (x1.find mm).2 = .ev e → e.ready = [] := by
              have hfe : ∀ (z : Sc) a b c d e, (z.findEnd a b c d e).2.ready = [] := by intro z a b c d e; unfold Sc.findEnd; split <;> rfl
              intro e hev
              unfold Sc.find at hev
              dsimp only at hev
              split at hev
              · cases hev; rfl
              · split at hev
                · split at hev
                  · cases hev
                  · split at hev <;> · cases hev; exact hfe ..
                · cases hev; exact hfe ..
            refine sched_find (hback h) hfo e4 ?_
            clear h
            generalize hff : x1.find mm = ff at he hsteps hrd ⊢
            obtain ⟨z, oo⟩ := ff
            cases oo with
            | ev e =>
              dsimp only at hsteps hrd ⊢
              intro M h
              refine ⟨_, _, _, _, _, _, rfl, ?_⟩
              have hr0 : e.ready = [] := hrd e rfl
              exact fin R none 0 M _ e (Mem.le_refl _) (by rw [hr0]; exact RS.nil _ _) hsteps he h
            | dry l =>
              dsimp only
              intro M h
              unfold incS at he
              cases he
              exact k M h.fin1
          · cases he
        rw [if_neg eg] at he
        cases hrun : x1.run p mm with
        | none => rw [hrun] at he; cases he
        | some rr =>
          obtain ⟨z, oo⟩ := rr
          rw [hrun] at he
          simp only [Option.map_some, Option.some.injEq] at he
          refine sched_run (hback h) hp e4 hrun ?_
          clear h
          have hsteps : z.steps = x.steps := by
            rw [← e5]
            unfold Sc.run at hrun
            split at hrun
            · rename_i hpre2
              obtain ⟨_, _, i0, i1, _⟩ := hpre2
              have hon : ∀ d w rest, runOn x1 mm (mcAt x1 mm).g d w rest = some (z, oo) → z.steps = x1.steps := by
                intro d w rest hon
                unfold runOn at hon
                split at hon
                · simp only [Option.some.injEq, Prod.mk.injEq] at hon
                  rw [← hon.1]
                  have := ready_fold (m := mm) w.ready { x1 with w := w, d := d } i0 i1
                  unfold Sc.runEnd
                  split <;> exact this.2.2.2.2.2.1
                · cases hon
              split at hrun
              · split at hrun
                · cases hrun
                · simp only [Option.some.injEq, Prod.mk.injEq] at hrun; rw [← hrun.1]
                · exact hon _ _ _ hrun
                · exact hon _ _ _ hrun
              · cases hrun
            · cases hrun
          cases oo with
          | ev e =>
            intro R' A c M hle hrs h
            refine ⟨_, _, _, _, _, _, rfl, ?_⟩
            exact fin R' A c M _ e hle hrs hsteps he h
          | dry l =>
            intro M h
            unfold incS at he
            cases he
            exact k M h.fin1
  · cases he
end
end Go.Proofs

namespace Go.Proofs
open Go.AF
set_option linter.unusedVariables false
set_option maxRecDepth 100000
set_option maxHeartbeats 1000000
attribute [local irreducible] exI exB exS exP exSl exV nilc stc nwc semK semU bsp
structure PrcS where
  next : Int
  ring : List Int
  turns : Int
  by_ : Int
def Sc.new (p : Prg) (c : Cfg) (d : Sou) : Sc := ⟨Wd.new p, c, List.replicate c.P.toNat ⟨⟨-1, capR c.R, []⟩, 0, -1⟩, List.replicate c.M.toNat ⟨-1, -1, 0⟩, [0], d, 0⟩
theorem el_proc : ElemOk Tryz.prog 132 141 3 24 [.pointer none, .int .i64 0, .int .i64 0] := ElemOk.mk' (zv := .agg #[.pointer none, .int .i64 0, .int .i64 0]) (by kernel_rfl) (by kernel_rfl) rfl (by omega)
theorem el_mach : ElemOk Tryz.prog 133 143 3 24 [.int .i64 0, .int .i64 0, .int .i64 0] := ElemOk.mk' (zv := .agg #[.int .i64 0, .int .i64 0, .int .i64 0]) (by kernel_rfl) (by kernel_rfl) rfl (by omega)
theorem prow_snoc {bs : List Nat} {ps : List Prc} {b : Nat} {y : Prc} (h : bs.length = ps.length) : prow (bs ++ [b]) (ps ++ [y]) = prow bs ps ++ [(b, y.turns, y.by_)] := by
  unfold prow; rw [List.zipWith_append h]; rfl
section
variable {R : Mem} {L L' L2 : List HP} {M : Mem} {K : Value → Mem → Prop} {Kp : List PanicEntry → Mem → Prop} {pa : PA} {p : Prg} {b wb db : Nat} {x : Sc} {m i : Int}
theorem sched_New {c : Cfg} {d : Sou} (h : Hp R L M) [o : ObjAt (souR .nilFunc) db L d L'] (hch : RS intE R pa.c pa.cc p.chs) (hc : p.chs.length ≤ 1000000) (hk : 0 ≤ p.locks ∧ p.locks ≤ 1000000) (hP : 0 ≤ c.P ∧ c.P ≤ 1000000) (hM : 0 ≤ c.M ∧ c.M ≤ 1000000)
    (k : ∀ b wb M', Hp R (objP (schR pa p wb db) b (Sc.new p c d) :: L') M' → K (.pointer (some ⟨b, 0, none⟩)) M') :
    ACalls Tryz.prog 16 #[.agg #[.slice pa.f p.funcs.length pa.fc, .slice pa.c p.chs.length pa.cc, .int .i64 p.locks, .slice pa.k p.cases.length pa.kc], .agg #[.int .i64 c.P, .int .i64 c.M, .int .i64 c.R, .int .i64 c.S], .pointer (some ⟨db, 0, none⟩)] M K Kp := by
  refine vc_sched_New ?_
  replace h := h.front (souR .nilFunc) db
  refine s_nwc h ?_
  clear h; intro k1 M h
  refine s_nwc h ?_
  clear h; intro k3 M h
  refine t_exSl h (t_exSl h (t_exI h (t_exSl h ?_)))
  refine t_exI h (t_exI h (t_exI h (t_exI h ?_)))
  refine world_New (p := p) (pa := pa) h hch hc hk ?_
  clear h; intro wb M h
  refine u_exP ⟨lds_s (t_ld h) (lds_s (t_ld h) (lds_s (t_ld h) (lds_s (t_ld h) lds_nil))), ?_⟩
  refine s_nwc h ?_
  clear h; intro b M h
  refine t_exI h ?_
  replace h := ((((h.row_nil procE 141).objs_nil locR).row_nil machE 143).row_nil intE 3)
  obtain ⟨nP, hnP⟩ := Int.eq_ofNat_of_zero_le hP.1
  obtain ⟨nM, hnM⟩ := Int.eq_ofNat_of_zero_le hM.1
  refine ⟨fun dd vs M => ∃ (j : Nat) (A : Option Addr) (ca : Nat) (lbs : List Nat), vs = [.int .i64 (j : Int)] ∧ dd = nP - j ∧ j ≤ nP ∧ lbs.length = j ∧
      Hp R (pt b [.pointer (some ⟨wb, 0, none⟩), .int .i64 c.P, .int .i64 c.M, .int .i64 c.R, .int .i64 c.S, .slice A j ca, .slice none 0 0, .slice none 0 0, .pointer (some ⟨db, 0, none⟩), .int .i64 0] 137 ::
        rowPr A ca (prow lbs (List.replicate j ⟨⟨-1, capR c.R, []⟩, 0, -1⟩)) :: objsP locR lbs (List.replicate j ⟨-1, capR c.R, []⟩) :: rowMc none 0 [] :: rowI none 0 [] :: objP (idleR pa p) wb (Wd.new p) :: objP (souR .nilFunc) db d :: pt k3 [.int .i64 c.P, .int .i64 c.M, .int .i64 c.R, .int .i64 c.S] 26 :: L') M,
    ⟨_, 0, none, 0, [], rfl, rfl, by omega, rfl, h.sub (by repeat (first | exact .refl | refine .cons (by repeat (first | exact .here | apply Pick.there)) ?_ | apply Sub.drop))⟩, ?_⟩
  clear h
  rintro dd _ nn M ⟨j, A, ca, lbs, he, hd, hj, hlb, h⟩
  simp only [List.cons.injEq, Value.int.injEq, and_true, true_and] at he
  subst he
  refine bsp_dec.2 ⟨fun hlt => ?_, fun hge => ?_⟩
  · have hrl : (List.replicate j (⟨⟨-1, capR c.R, []⟩, 0, -1⟩ : Prc)).length = j := List.length_replicate
    refine ⟨fun vs M => ∃ (A : Option Addr) (ca : Nat) (lb : Nat),
      Hp R (pt b [.pointer (some ⟨wb, 0, none⟩), .int .i64 c.P, .int .i64 c.M, .int .i64 c.R, .int .i64 c.S, .slice A (j + 1) ca, .slice none 0 0, .slice none 0 0, .pointer (some ⟨db, 0, none⟩), .int .i64 0] 137 ::
        rowPr A ca (prow (lbs ++ [lb]) (List.replicate (j + 1) ⟨⟨-1, capR c.R, []⟩, 0, -1⟩)) :: objsP locR (lbs ++ [lb]) (List.replicate (j + 1) ⟨-1, capR c.R, []⟩) :: rowMc none 0 [] :: rowI none 0 [] :: objP (idleR pa p) wb (Wd.new p) :: objP (souR .nilFunc) db d :: pt k3 [.int .i64 c.P, .int .i64 c.M, .int .i64 c.R, .int .i64 c.S] 26 :: L') M, t_exI h ⟨?_, ?_, trivial⟩, ?_⟩
    · refine t_exSl h ?_
      refine local_New h ?_
      clear h; intro lb M h
      refine u_exP ?_
      refine s_nwc h ?_
      clear h; intro k39 M h
      refine h.append1n (A := A) el_proc [(lb, 0, -1)] rfl (by rw [prow_len (by rw [hlb, hrl]), hrl]) rfl (by rw [prow_len (by rw [hlb, hrl]), hrl]; simp only [List.length_singleton]; omega) ?_
      clear h; intro A' c' M h
      refine u_exSl ?_
      refine s_stc h ?_
      clear h; intro M h
      replace h := h.objs_snoc locR lb (by rw [hlb, List.length_replicate])
      refine ⟨A', c', lb, ?_⟩
      have e1 : prow (lbs ++ [lb]) (List.replicate (j + 1) (⟨⟨-1, capR c.R, []⟩, 0, -1⟩ : Prc)) = prow lbs (List.replicate j ⟨⟨-1, capR c.R, []⟩, 0, -1⟩) ++ [(lb, 0, -1)] := by
        rw [List.replicate_succ', prow_snoc (by rw [hlb, hrl])]
      have e2 : List.replicate (j + 1) (⟨-1, capR c.R, []⟩ : Loc) = List.replicate j ⟨-1, capR c.R, []⟩ ++ [⟨-1, capR c.R, []⟩] := List.replicate_succ'
      rw [e1, e2]
      exact h.sub (by repeat (first | exact .refl | refine .cons (by repeat (first | exact .here | apply Pick.there)) ?_ | apply Sub.drop))
    · refine local_New h ?_
      clear h; intro lb M h
      refine u_exP ?_
      refine t_exSl h ?_
      refine s_nwc h ?_
      clear h; intro k39 M h
      refine h.append1n (A := A) el_proc [(lb, 0, -1)] rfl (by rw [prow_len (by rw [hlb, hrl]), hrl]) rfl (by rw [prow_len (by rw [hlb, hrl]), hrl]; simp only [List.length_singleton]; omega) ?_
      clear h; intro A' c' M h
      refine u_exSl ?_
      refine s_stc h ?_
      clear h; intro M h
      replace h := h.objs_snoc locR lb (by rw [hlb, List.length_replicate])
      refine ⟨A', c', lb, ?_⟩
      have e1 : prow (lbs ++ [lb]) (List.replicate (j + 1) (⟨⟨-1, capR c.R, []⟩, 0, -1⟩ : Prc)) = prow lbs (List.replicate j ⟨⟨-1, capR c.R, []⟩, 0, -1⟩) ++ [(lb, 0, -1)] := by
        rw [List.replicate_succ', prow_snoc (by rw [hlb, hrl])]
      have e2 : List.replicate (j + 1) (⟨-1, capR c.R, []⟩ : Loc) = List.replicate j ⟨-1, capR c.R, []⟩ ++ [⟨-1, capR c.R, []⟩] := List.replicate_succ'
      rw [e1, e2]
      exact h.sub (by repeat (first | exact .refl | refine .cons (by repeat (first | exact .here | apply Pick.there)) ?_ | apply Sub.drop))
    · clear h
      rintro _ M ⟨A', c', lb, h⟩
      rw [wrap_succ (by omega)]
      exact ⟨nP - (j + 1), by omega, j + 1, A', c', lbs ++ [lb], rfl, rfl, by omega, by simp [hlb], h⟩
  have hjn : j = nP := by omega
  subst hjn
  refine t_exI h ?_
  refine ⟨fun dd vs M => ∃ (q : Nat) (B : Option Addr) (cb : Nat), vs = [.int .i64 (q : Int)] ∧ dd = nM - q ∧ q ≤ nM ∧
      Hp R (pt b [.pointer (some ⟨wb, 0, none⟩), .int .i64 c.P, .int .i64 c.M, .int .i64 c.R, .int .i64 c.S, .slice A j ca, .slice B q cb, .slice none 0 0, .pointer (some ⟨db, 0, none⟩), .int .i64 0] 137 ::
        rowPr A ca (prow lbs (List.replicate j ⟨⟨-1, capR c.R, []⟩, 0, -1⟩)) :: objsP locR lbs (List.replicate j ⟨-1, capR c.R, []⟩) :: rowMc B cb (List.replicate q ⟨-1, -1, 0⟩) :: rowI none 0 [] :: objP (idleR pa p) wb (Wd.new p) :: objP (souR .nilFunc) db d :: pt k3 [.int .i64 c.P, .int .i64 c.M, .int .i64 c.R, .int .i64 c.S] 26 :: L') M,
    ⟨_, 0, none, 0, rfl, rfl, by omega, h.sub (by repeat (first | exact .refl | refine .cons (by repeat (first | exact .here | apply Pick.there)) ?_ | apply Sub.drop))⟩, ?_⟩
  clear h
  rintro dd _ nn M ⟨q, B, cb, he, hd2, hq, h⟩
  simp only [List.cons.injEq, Value.int.injEq, and_true, true_and] at he
  subst he
  refine bsp_dec.2 ⟨fun hlt => ?_, fun hge2 => ?_⟩
  · refine t_exSl h ?_
    refine s_nwc h ?_
    clear h; intro k57 M h
    refine h.append1n (A := B) el_mach [(⟨-1, -1, 0⟩ : Mch)] rfl (by simp) rfl (by simp; omega) ?_
    clear h; intro B' cb' M h
    refine u_exSl ?_
    refine s_stc h ?_
    clear h; intro M h
    rw [wrap_succ (by omega)]
    have e : List.replicate q (⟨-1, -1, 0⟩ : Mch) ++ [⟨-1, -1, 0⟩] = List.replicate (q + 1) ⟨-1, -1, 0⟩ := List.replicate_succ'.symm
    rw [e] at h
    exact ⟨nM - (q + 1), by omega, q + 1, B', cb', rfl, rfl, by omega, h.sub (by repeat (first | exact .refl | refine .cons (by repeat (first | exact .here | apply Pick.there)) ?_ | apply Sub.drop))⟩
  have hqn : q = nM := by omega
  subst hqn
  refine s_nwc h ?_
  clear h; intro k66 M h
  have e0 : Sc.new p c d = ⟨Wd.new p, c, List.replicate j ⟨⟨-1, capR c.R, []⟩, 0, -1⟩, List.replicate q ⟨-1, -1, 0⟩, [0], d, 0⟩ := by
    unfold Sc.new; rw [hnP, hnM]; rfl
  have e3 : (List.replicate j (⟨⟨-1, capR c.R, []⟩, 0, -1⟩ : Prc)).map Prc.q = List.replicate j ⟨-1, capR c.R, []⟩ := by simp
  replace h := (h.pt k66).row_pt (E := intE) (l := [0]) rfl
  generalize hz : (⟨Wd.new p, c, List.replicate j ⟨⟨-1, capR c.R, []⟩, 0, -1⟩, List.replicate q ⟨-1, -1, 0⟩, [0], d, 0⟩ : Sc) = z at e0
  have z1 : scCells wb db ⟨A, ca, lbs, B, cb⟩ z none 0 0 = [.pointer (some ⟨wb, 0, none⟩), .int .i64 c.P, .int .i64 c.M, .int .i64 c.R, .int .i64 c.S, .slice A j ca, .slice B q cb, .slice none 0 0, .pointer (some ⟨db, 0, none⟩), .int .i64 0] := by
    rw [← hz]; simp [scCells]
  rw [← z1] at h
  have h2 : Hp R (pt b (scCells wb db ⟨A, ca, lbs, B, cb⟩ z none 0 0) 137 :: rowI none 0 [] :: rowI (some ⟨k66, 0, none⟩) 1 [0] :: objP (idleR pa p) wb (Wd.new p) :: objP (souR .nilFunc) db d :: rowPr A ca (prow lbs (List.replicate j ⟨⟨-1, capR c.R, []⟩, 0, -1⟩)) :: objsP locR lbs (List.replicate j ⟨-1, capR c.R, []⟩) :: rowMc B cb (List.replicate q ⟨-1, -1, 0⟩) :: L') M := h.sub (by repeat (first | exact .refl | refine .cons (by repeat (first | exact .here | apply Pick.there)) ?_ | apply Sub.drop))
  have h3 : Hp R (glP (scG b wb db ⟨A, ca, lbs, B, cb⟩ z) [] :: rowI (some ⟨k66, 0, none⟩) 1 [0] :: objP (idleR pa p) wb (Wd.new p) :: objP (souR .nilFunc) db d :: rowPr A ca (prow lbs (List.replicate j ⟨⟨-1, capR c.R, []⟩, 0, -1⟩)) :: objsP locR lbs (List.replicate j ⟨-1, capR c.R, []⟩) :: rowMc B cb (List.replicate q ⟨-1, -1, 0⟩) :: L') M := gl_mk (P := scG b wb db ⟨A, ca, lbs, B, cb⟩ z) h2 rfl
  clear h h2
  refine local_gPut (P := scG b wb db ⟨A, ca, lbs, B, cb⟩ z) sc_gl h3 (Src.row (A := some ⟨k66, 0, none⟩)) rfl (by simp) ?_
  clear h3; intro M h
  refine ⟨rfl, ?_⟩
  refine k b wb M ?_
  rw [e0]
  refine sch_mk (a := ⟨A, ca, lbs, B, cb⟩) (x := z) (by rw [← hz]; simp [hlb]) ?_
  rw [← hz] at h ⊢
  unfold scRest
  dsimp only at h ⊢
  rw [e3]
  exact h.sub (by repeat (first | exact .refl | refine .cons (by repeat (first | exact .here | apply Pick.there)) ?_ | apply Sub.drop))
theorem sched_Machines (h : Hp R L M) [o : ScAt b L pa p wb db x L'] (hs : x.ms.length ≤ 1000000) (k : ∀ A c M', Hp R (rowP machE 55 A c x.ms :: objP (schR pa p wb db) b x :: L') M' → K (.slice A x.ms.length c) M') : ACalls Tryz.prog 20 #[.pointer (some ⟨b, 0, none⟩)] M K Kp := by
  refine vc_sched_Sched_Machines ?_
  have h' := sch_open h (b := b)
  clear h
  obtain ⟨a, hl, h⟩ := h'
  rw [sc_ms h]
  refine u_exSl ?_
  have elm : ElemOk Tryz.prog 56 55 3 24 [.int .i64 0, .int .i64 0, .int .i64 0] := ElemOk.mk' (zv := .agg #[.int .i64 0, .int .i64 0, .int .i64 0]) (by kernel_rfl) (by kernel_rfl) rfl (by omega)
  replace h := h.row_nil machE 55
  refine ⟨fun dd vs M => ∃ (j : Nat) (A : Option Addr) (c : Nat), vs = [.slice A j c, .int .i64 (j : Int)] ∧ dd = x.ms.length - j ∧ j ≤ x.ms.length ∧ Hp R (rowP machE 55 A c (x.ms.take j) :: glP (scG b wb db a x) x.gl :: objP (idleR pa p) wb x.w :: objP (souR .nilFunc) db x.d :: scRest a x L') M, ⟨_, 0, none, 0, rfl, rfl, by omega, h⟩, ?_⟩
  clear h
  rintro dd _ A n c nn M ⟨j, A', c', he, hd, hj, h⟩
  simp only [List.cons.injEq, Value.int.injEq, Value.slice.injEq, and_true, true_and] at he
  obtain ⟨⟨rfl, rfl, rfl⟩, rfl⟩ := he
  refine bsp_dec.2 ⟨fun hlt => ?_, fun hge => ?_⟩
  · obtain ⟨y, hy⟩ := idx_ex (l := x.ms) (i := n) (by omega)
    refine ⟨by omega, hlt, ?_⟩
    obtain ⟨q2, hq2⟩ := h.row_some (A := a.am) (l := x.ms) (by omega) (by decide)
    have hs0 := (h.src (A := a.am)) M h
    rw [hq2] at hs0
    refine n_eq hq2 ?_
    refine v_exI (Sl.at hs0 (i := n * 3 + 0) (by simp) (Enc.cells_at (E := machE) hy rfl)) ?_
    refine v_exI (Sl.at hs0 (i := n * 3 + 1) (by simp <;> omega) (Enc.cells_at (E := machE) hy rfl)) ?_
    refine v_exI (Sl.at hs0 (i := n * 3 + 2) (by simp <;> omega) (Enc.cells_at (E := machE) hy rfl)) ?_
    clear hs0
    refine s_nwc h ?_
    clear h; intro k18 M h
    refine s_stc h ?_
    clear h; intro M h
    refine s_stc h ?_
    clear h; intro M h
    refine s_stc h ?_
    clear h; intro M h
    refine t_exI h (t_exI h (t_exI h ?_))
    refine s_nwc h ?_
    clear h; intro k26 M h
    refine h.append1n (A := A) elm [y] rfl (by rw [List.length_take]; omega) rfl (by rw [List.length_take]; simp only [List.length_singleton]; omega) ?_
    clear h; intro A2 c2 M h
    refine u_exSl ?_
    rw [← take_snoc hy] at h
    rw [wrap_succ (by omega)]
    exact ⟨x.ms.length - (n + 1), by omega, n + 1, A2, c2, rfl, rfl, by omega, h.sub (by repeat (first | exact .refl | refine .cons (by repeat (first | exact .here | apply Pick.there)) ?_ | apply Sub.drop))⟩
  · have hjl : n = x.ms.length := by omega
    subst hjl
    rw [List.take_length] at h
    exact k _ _ _ ((sch_mk hl (h.sub (by repeat (first | exact .refl | refine .cons (by repeat (first | exact .here | apply Pick.there)) ?_ | apply Sub.drop)))).swap)
end
end Go.Proofs

namespace Go.Proofs
open Go.AF
set_option linter.unusedVariables false
set_option maxRecDepth 100000
set_option maxHeartbeats 1000000
attribute [local irreducible] exI exB exS exP exSl exV nilc stc nwc semK semU bsp
section
variable {p : Prg} {x y : Sc} {o : SOut} {m : Int}
theorem findEnd_d {i k g : Int} {t : Bool} : (x.findEnd m i k g t).1.d = x.d := by unfold Sc.findEnd; split <;> rfl
theorem find_kok (h : x.d.k.Ok) : (x.find m).1.d.k.Ok := by
  unfold Sc.find
  dsimp only
  split
  · exact h
  · split
    · have hd : (x.own (mcAt x m).p).1.d = x.d := rfl
      have := draw_ok (kind := 2) (n := x.c.P) h
      rw [hd]
      split
      · rename_i hdd; rw [hdd] at this; exact this
      · rename_i hdd
        rw [hdd] at this
        split <;> · rw [findEnd_d]; exact this
    · rw [findEnd_d]; exact h
theorem runOn_d {g : Int} {d : Sou} {w : Wd} {rest : Bool} (h : runOn x m g d w rest = some (y, o)) (i0 : 0 ≤ (mcAt x m).p) (i1 : (mcAt x m).p < x.ps.length) : y.d = d := by
  unfold runOn at h
  split at h
  · simp only [Option.some.injEq, Prod.mk.injEq] at h
    rw [← h.1]
    have := ready_fold (m := m) w.ready { x with w := w, d := d } i0 i1
    unfold Sc.runEnd
    split <;> exact this.2.2.2.1
  · cases h
theorem askDraw_ok {a : Option (Int × Int)} {d : Sou} (h : d.k.Ok) : (askDraw d a).1.k.Ok := by
  cases a with
  | none => exact h
  | some q => exact draw_ok h
theorem run_kok (h : x.d.k.Ok) (he : x.run p m = some (y, o)) : y.d.k.Ok := by
  unfold Sc.run at he
  split at he
  · rename_i hpre
    obtain ⟨m0, m1, i0, i1, _⟩ := hpre
    split at he
    · split at he
      · cases he
      · simp only [Option.some.injEq, Prod.mk.injEq] at he
        rw [← he.1]
        exact askDraw_ok h
      · rw [runOn_d he i0 i1]; exact askDraw_ok h
      · rw [runOn_d he i0 i1]; exact askDraw_ok h
    · cases he
  · cases he
theorem incS_d {z : Sc × SOut} : (incS z).1.d = z.1.d := by
  obtain ⟨z, o⟩ := z
  cases o <;> rfl
theorem step_kok (h : x.d.k.Ok) (he : x.step p = some (y, o)) : y.d.k.Ok := by
  unfold Sc.step at he
  split at he
  · split at he
    · cases he; exact h
    · have hk := draw_ok (kind := 1) (n := x.c.M + 1) h
      split at he
      · rename_i hd; rw [hd] at hk; cases he; exact hk
      · rename_i d' mm hd
        rw [hd] at hk
        dsimp only at hk
        unfold Sc.act at he
        split at he
        · split at he
          · simp only [Option.map_some, Option.some.injEq] at he
            cases he; exact hk
          · cases he
        · split at he
          · simp only [Option.map_some, Option.some.injEq] at he
            have e : y.d = (Sc.hold { x with d := d' } mm).1.d := by rw [← (incS_d (z := ((Sc.hold { x with d := d' } mm).1, .ev (Sc.hold { x with d := d' } mm).2))), he]
            rw [e]
            unfold Sc.hold
            split <;> exact hk
          · split at he
            · split at he
              · simp only [Option.map_some, Option.some.injEq] at he
                have e : y.d = (Sc.find { x with d := d' } mm).1.d := by rw [← (incS_d (z := Sc.find { x with d := d' } mm)), he]
                rw [e]
                exact find_kok hk
              · cases he
            · cases hr : Sc.run p { x with d := d' } mm with
              | none => rw [hr] at he; cases he
              | some z =>
                rw [hr] at he
                simp only [Option.map_some, Option.some.injEq] at he
                have e : y.d = z.1.d := by rw [← (incS_d (z := z)), he]
                rw [e]
                exact run_kok (y := z.1) (o := z.2) hk hr
  · cases he
end
end Go.Proofs

namespace Go.Proofs
open Go.AF
set_option linter.unusedVariables false
set_option maxRecDepth 100000
set_option maxHeartbeats 1000000
attribute [local irreducible] exI exB exS exP exSl exV nilc stc nwc semK semU bsp
def p18 : Prg := ⟨[[⟨20, 0, 0, 0⟩, ⟨10, 0, 0, 0⟩]], [], 0, []⟩
def evOf : Option (Sc × SOut) → Option (Sc × Ev)
  | some (x, .ev e) => some (x, e)
  | _ => none
def x18 : Sc := Sc.new p18 ⟨1, 1, 2, 9⟩ ⟨.orc [0, 0, 0, 0] 0, []⟩
def st18 (x : Sc) : Sc × Ev := (evOf (x.step p18)).getD (x, ⟨0, 0, 0, []⟩)
def a18 : Sc × Ev := st18 x18
def b18 : Sc × Ev := st18 a18.1
def c18 : Sc × Ev := st18 b18.1
def d18 : Sc × Ev := st18 c18.1
theorem a18_eq : x18.step p18 = some (a18.1, .ev a18.2) := by kernel_rfl
theorem b18_eq : a18.1.step p18 = some (b18.1, .ev b18.2) := by kernel_rfl
theorem c18_eq : b18.1.step p18 = some (c18.1, .ev c18.2) := by kernel_rfl
theorem d18_eq : c18.1.step p18 = some (d18.1, .ev d18.2) := by kernel_rfl
theorem k18 : x18.d.k.Ok := ⟨by decide, by decide, fun v hv => by simp at hv; subst hv; decide⟩
/-- A config's number: 0, if it may be. -/
def cfgCheck (c : Cfg) : Int := if c.P < 1 ∨ c.P > 64 ∨ c.M < 1 ∨ c.M > 64 ∨ c.R < 2 ∨ c.R > 1024 ∨ c.S < 1 ∨ c.S > 1024 then 4 else 0
def cfgSome (c : Cfg) : Cfg :=
  let q := fun (x m : Int) => Int.tmod (IntKind.wrap .i64 (((Nat.bitwise and (BitVec.ofInt IntKind.i64.bits x).toNat (BitVec.ofInt IntKind.i64.bits 255).toNat) : Nat) : Int)) m
  ⟨1 + q c.P 5, 1 + q c.M 5, 2 + q c.R 5, 1 + q c.S 12⟩
theorem q_range (x : Int) {m : Int} {n : Nat} (e : m = (n : Int)) (hm : 0 < n) : 0 ≤ Int.tmod (IntKind.wrap .i64 (((Nat.bitwise and (BitVec.ofInt IntKind.i64.bits x).toNat (BitVec.ofInt IntKind.i64.bits 255).toNat) : Nat) : Int)) m ∧ Int.tmod (IntKind.wrap .i64 (((Nat.bitwise and (BitVec.ofInt IntKind.i64.bits x).toNat (BitVec.ofInt IntKind.i64.bits 255).toNat) : Nat) : Int)) m < m := by
  obtain ⟨q, hq, _⟩ := mask (x := x) (y := 255) (m := 255) rfl (by omega)
  rw [hq, e, Go.AF.tmod_nat]
  have := Nat.mod_lt q hm
  omega
section
variable {R : Mem} {L L' : List HP} {M : Mem} {K : Value → Mem → Prop} {Kp : List PanicEntry → Mem → Prop}
/-- A step, by its outcome. -/
theorem ev_step {pa : PA} {p : Prg} {b wb db : Nat} {x y : Sc} {e : Ev} (h : Hp R L M) [q : ScAt b L pa p wb db x L'] (hp : PrgR R pa p) (hd : x.d.k.Ok) (he : x.step p = some (y, .ev e))
    (k : ∀ R' A c M', R.le R' → RS intE R' A c e.ready → y.d.k.Ok → Hp R' (objP (schR pa p wb db) b y :: L') M' → K (evV e A c) M') : ACalls Tryz.prog 50 #[.pointer (some ⟨b, 0, none⟩)] M K Kp :=
  sched_Step h hp hd he (fun R' A c M' h1 h2 h3 => k R' A c M' h1 h2 (step_kok hd he) h3)
theorem law18_awake (h : Hp R L M) (k : ∀ R' M', R.le R' → Hp R' L M' → K (.bool true) M') : ACalls Tryz.prog 12 #[] M K Kp := by
  refine vc_shunterlaw18_awake ?_
  refine s_nwc h ?_
  clear h; intro k1 M h
  refine s_nwc h ?_
  clear h; intro k3 M h
  have h1 := (h.pt k1).row_pt (E := insE) (l := [⟨20, 0, 0, 0⟩, ⟨10, 0, 0, 0⟩]) rfl
  obtain ⟨R1, hle1, hr1, h2⟩ := h1.sealRow (some ⟨k1, 0, none⟩)
  have h3 := h2.row_pt (E := slE) (l := [(some ⟨k1, 0, none⟩, 2, 2)]) rfl
  obtain ⟨R2, hle2, hr2, h4⟩ := h3.sealRow (some ⟨k3, 0, none⟩)
  clear h h1 h2 h3
  have hp : PrgR R2 ⟨some ⟨k3, 0, none⟩, 1, none, 0, none, 0⟩ p18 := ⟨⟨_, hr2, rfl, fun i t f a b => by
    match i, a, b with
    | 0, a, b => simp at a; cases b; subst a; exact ⟨hr1.le hle2, rfl⟩
    | i + 1, a, b => simp at a⟩, RS.nil _ _⟩
  have hle : R.le R2 := Mem.le_trans hle1 hle2
  refine s_nwc h4 ?_
  clear h4; intro k5 M h
  refine s_stc h ?_
  clear h; intro M h
  refine s_stc h ?_
  clear h; intro M h
  refine s_stc h ?_
  clear h; intro M h
  refine s_stc h ?_
  clear h; intro M h
  refine t_exSl h (t_exSl h (t_exI h (t_exSl h ?_)))
  refine s_nwc h ?_
  clear h; intro k21 M h
  replace h := (h.pt k21).row_pt (E := u64E) (l := [0, 0, 0, 0]) rfl
  refine source_Oracle (l := [0, 0, 0, 0]) h (Src.row (A := some ⟨k21, 0, none⟩)) rfl (by decide) ?_
  clear h; intro db M h
  refine u_exP ⟨lds_s (t_ld h) (lds_s (t_ld h) (lds_s (t_ld h) (lds_s (t_ld h) lds_nil))), ?_⟩
  refine sched_New (p := p18) (pa := ⟨some ⟨k3, 0, none⟩, 1, none, 0, none, 0⟩) (c := ⟨1, 1, 2, 9⟩) h (RS.nil _ _) (by decide) (by decide) (by decide) (by decide) ?_
  clear h; intro b wb M h
  refine u_exP ⟨lds_s (t_ld h) (lds_s (t_ld h) (lds_s (t_ld h) (lds_s (t_ld h) lds_nil))), u_bspF ?_⟩
  refine ev_step h hp k18 a18_eq ?_
  clear h; intro R3 A1 c1 M l3 r1 kok h
  refine ⟨_, _, _, _, _, _, rfl, ?_⟩
  refine ev_step h (hp.le l3) kok b18_eq ?_
  clear h kok; intro R4 A2 c2 M l4 r2 kok h
  refine ⟨_, _, _, _, _, _, rfl, ?_⟩
  refine ev_step h (hp.le (Mem.le_trans l3 l4)) kok c18_eq ?_
  clear h kok; intro R5 A3 c3 M l5 r3 kok h
  refine ⟨_, _, _, _, _, _, rfl, ?_⟩
  refine s_nwc h ?_
  clear h; intro k53 M h
  refine s_nwc h ?_
  clear h; intro k55 M h
  refine s_nwc h ?_
  clear h; intro k57 M h
  refine ev_st h ?_
  clear h; intro M h
  refine ev_st h ?_
  clear h; intro M h
  refine ev_st h ?_
  clear h; intro M h
  refine ev_step h (hp.le (Mem.le_trans l3 (Mem.le_trans l4 l5))) kok d18_eq ?_
  clear h kok; intro R6 A4 c4 M l6 r4 kok h
  refine ⟨_, _, _, _, _, _, rfl, ?_⟩
  refine t_exI h ?_
  rw [show a18.2.kind = 2 from by kernel_rfl]
  refine u_bspT (t_exI h ?_)
  rw [show b18.2.kind = 4 from by kernel_rfl]
  refine u_bspT (t_exI h ?_)
  rw [show b18.2.g = 0 from by kernel_rfl]
  refine u_bspT (t_exI h ?_)
  rw [show c18.2.kind = 7 from by kernel_rfl]
  refine u_bspT ?_
  refine sched_Status h (by rw [show d18.1.w.gs.length = 1 from by kernel_rfl]; decide) ?_
  rw [show d18.1.status = 1 from by kernel_rfl]
  refine u_exI (u_bspT ?_)
  refine sched_Steps h ?_
  rw [show d18.1.steps = 4 from by kernel_rfl]
  exact u_exI (k R6 _ (Mem.le_trans hle (Mem.le_trans l3 (Mem.le_trans l4 (Mem.le_trans l5 l6)))) (h.sub (by repeat (first | exact .refl | refine .cons (by repeat (first | exact .here | apply Pick.there)) ?_ | apply Sub.drop))))
end
end Go.Proofs

namespace Go.Proofs
open Go.AF
set_option linter.unusedVariables false
set_option maxRecDepth 100000
set_option maxHeartbeats 1000000
attribute [local irreducible] exI exB exS exP exSl exV nilc stc nwc semK semU bsp
def un0 : List Value := [.int .i64 0, .int .i64 0, .int .i64 0, .int .i64 0, .int .u64 0]
/-- How a panic of a draw ends a guarded run. -/
inductive GEnd : List PanicEntry → Int → List Value → Prop
  | d1 : GEnd dryV 1 un0
  | d2 : GEnd (dry2 dryV) 1 un0
  | u1 (a q n k x : Int) : GEnd (unV a q n k x) 2 [.int .i64 a, .int .i64 q, .int .i64 n, .int .i64 k, .int .u64 x]
  | u2 (a q n k x : Int) : GEnd (dry2 (unV a q n k x)) 2 [.int .i64 a, .int .i64 q, .int .i64 n, .int .i64 k, .int .u64 x]
section
variable {R : Mem} {L L' L2 : List HP} {M : Mem} {K : Value → Mem → Prop} {Kp : List PanicEntry → Mem → Prop} {u0 : Value} {S : Mem → List HP → Prop} {D : Mem → List PanicEntry → List HP → Prop}
/-- A function without parameters, as a guard runs it. -/
def RunSpec (R : Mem) (L : List HP) (u0 : Value) (S : Mem → List HP → Prop) (D : Mem → List PanicEntry → List HP → Prop) : Prop := ∀ (Q : HP) (M : Mem) (K : Value → Mem → Prop) (Kp : List PanicEntry → Mem → Prop), Hp R (Q :: L) M →
  (∀ R' L' M', S R' L' → Hp R' (Q :: L') M' → K (.tuple #[]) M') → (∀ R' l L' M', D R' l L' → Hp R' (Q :: L') M' → Kp l M') → callK Cx u0 [] M K Kp
theorem source_caught {b1 b2 : Nat} (h : Hp R (pt b1 [.int .i64 0] 3 :: pt b2 un0 155 :: L) M) (hc : RunSpec R L u0 S D) (hd : ∀ R' l L', D R' l L' → ∃ e vs, GEnd l e vs)
    (k : ∀ R' L' M', S R' L' → Hp R' (pt b1 [.int .i64 0] 3 :: pt b2 un0 155 :: L') M' → K (.tuple #[]) M')
    (kd : ∀ R' l L' M' e vs, D R' l L' → GEnd l e vs → Hp R' (pt b1 [.int .i64 e] 3 :: pt b2 vs 155 :: L') M' → K (.tuple #[]) M') :
    ACalls Tryz.prog 104 #[u0, .pointer (some ⟨b1, 0, none⟩), .pointer (some ⟨b2, 0, none⟩)] M K Kp := by
  refine vc_source_caught ?_
  refine s_nwc h ?_
  clear h
  intro k1 M h
  refine s_nwc h ?_
  clear h
  intro k3 M h
  refine hc (sep [pt k3 [.pointer (some ⟨b2, 0, none⟩)] _, pt k1 [.pointer (some ⟨b1, 0, none⟩)] _, pt b1 [.int .i64 0] 3, pt b2 un0 155]) M _ _ (Hp.sep_iff.2 h) ?_ ?_
  · clear h
    intro R' L' M' hs h
    have h := Hp.sep_iff.1 h
    exact ⟨rfl, gleave_ok (k R' L' M' hs h.drop.drop)⟩
  · clear h
    intro R' l L' M hs h
    replace h := Hp.sep_iff.1 h
    obtain ⟨e, vs, hg⟩ := hd _ _ _ hs
    have kd' := kd R' l L'
    simp only [List.cons_append, List.nil_append, un0] at h kd'
    clear kd k hc hd
    cases hg with
    | d1 =>
      refine gleave_Dry ?_
      repeat (first | (refine s_nwc h ?_; clear h; intro kb M h) | (refine s_stc h ?_; clear h; intro M h) | refine t_exI h ?_ | refine t_exB h ?_ | refine t_exS h ?_ | refine t_exP h ?_ | refine t_exSl h ?_ | refine t_exV h ?_ | refine u_exI ?_ | refine u_exB ?_ | refine u_exS ?_ | refine u_exP ?_ | refine u_exSl ?_ | refine u_exV ?_ | refine u_nilc ?_ | (apply Exists.intro; (repeat apply Exists.intro); refine And.intro rfl ?_) | (refine And.intro ?_ ?_; first | exact trivial | exact rfl | exact t_ld h | (refine lds_s (t_ld h) ?_; (repeat (refine lds_s (t_ld h) ?_)); exact lds_nil) | omega) | refine u_bspT ?_ | refine u_bspF ?_)
      exact kd' _ _ _ hs .d1 (h.sub (by repeat (first | exact .refl | refine .cons (by repeat (first | exact .here | apply Pick.there)) ?_ | apply Sub.drop)))
    | d2 =>
      refine gleave_Dry2 ?_
      repeat (first | (refine s_nwc h ?_; clear h; intro kb M h) | (refine s_stc h ?_; clear h; intro M h) | refine t_exI h ?_ | refine t_exB h ?_ | refine t_exS h ?_ | refine t_exP h ?_ | refine t_exSl h ?_ | refine t_exV h ?_ | refine u_exI ?_ | refine u_exB ?_ | refine u_exS ?_ | refine u_exP ?_ | refine u_exSl ?_ | refine u_exV ?_ | refine u_nilc ?_ | (apply Exists.intro; (repeat apply Exists.intro); refine And.intro rfl ?_) | (refine And.intro ?_ ?_; first | exact trivial | exact rfl | exact t_ld h | (refine lds_s (t_ld h) ?_; (repeat (refine lds_s (t_ld h) ?_)); exact lds_nil) | omega) | refine u_bspT ?_ | refine u_bspF ?_)
      exact kd' _ _ _ hs .d2 (h.sub (by repeat (first | exact .refl | refine .cons (by repeat (first | exact .here | apply Pick.there)) ?_ | apply Sub.drop)))
    | u1 a q n k x =>
      refine gleave_Unlike ?_
      repeat (first | (refine s_nwc h ?_; clear h; intro kb M h) | (refine s_stc h ?_; clear h; intro M h) | refine t_exI h ?_ | refine t_exB h ?_ | refine t_exS h ?_ | refine t_exP h ?_ | refine t_exSl h ?_ | refine t_exV h ?_ | refine u_exI ?_ | refine u_exB ?_ | refine u_exS ?_ | refine u_exP ?_ | refine u_exSl ?_ | refine u_exV ?_ | refine u_nilc ?_ | (apply Exists.intro; (repeat apply Exists.intro); refine And.intro rfl ?_) | (refine And.intro ?_ ?_; first | exact trivial | exact rfl | exact t_ld h | (refine lds_s (t_ld h) ?_; (repeat (refine lds_s (t_ld h) ?_)); exact lds_nil) | omega) | refine u_bspT ?_ | refine u_bspF ?_)
      exact kd' _ _ _ hs (.u1 a q n k x) (h.sub (by repeat (first | exact .refl | refine .cons (by repeat (first | exact .here | apply Pick.there)) ?_ | apply Sub.drop)))
    | u2 a q n k x =>
      refine gleave_Unlike2 ?_
      repeat (first | (refine s_nwc h ?_; clear h; intro kb M h) | (refine s_stc h ?_; clear h; intro M h) | refine t_exI h ?_ | refine t_exB h ?_ | refine t_exS h ?_ | refine t_exP h ?_ | refine t_exSl h ?_ | refine t_exV h ?_ | refine u_exI ?_ | refine u_exB ?_ | refine u_exS ?_ | refine u_exP ?_ | refine u_exSl ?_ | refine u_exV ?_ | refine u_nilc ?_ | (apply Exists.intro; (repeat apply Exists.intro); refine And.intro rfl ?_) | (refine And.intro ?_ ?_; first | exact trivial | exact rfl | exact t_ld h | (refine lds_s (t_ld h) ?_; (repeat (refine lds_s (t_ld h) ?_)); exact lds_nil) | omega) | refine u_bspT ?_ | refine u_bspF ?_)
      exact kd' _ _ _ hs (.u2 a q n k x) (h.sub (by repeat (first | exact .refl | refine .cons (by repeat (first | exact .here | apply Pick.there)) ?_ | apply Sub.drop)))
theorem GEnd.shape {l : List PanicEntry} {e : Int} {vs : List Value} (h : GEnd l e vs) : (e = 1 ∨ e = 2) ∧ ∃ a q n k x : Int, vs = [.int .i64 a, .int .i64 q, .int .i64 n, .int .i64 k, .int .u64 x] := by
  cases h with
  | d1 => exact ⟨.inl rfl, 0, 0, 0, 0, 0, rfl⟩
  | d2 => exact ⟨.inl rfl, 0, 0, 0, 0, 0, rfl⟩
  | u1 a q n k x => exact ⟨.inr rfl, a, q, n, k, x, rfl⟩
  | u2 a q n k x => exact ⟨.inr rfl, a, q, n, k, x, rfl⟩
theorem source_Guard (h : Hp R L M) (hc : RunSpec R L u0 S D) (hd : ∀ R' l L', D R' l L' → ∃ e vs, GEnd l e vs)
    (k : ∀ R' L' M', S R' L' → Hp R' L' M' → K (.tuple #[.int .i64 0, .agg #[.int .i64 0, .int .i64 0, .int .i64 0, .int .i64 0, .int .u64 0]]) M')
    (kd : ∀ R' l L' M' e a q n k x, D R' l L' → GEnd l e [.int .i64 a, .int .i64 q, .int .i64 n, .int .i64 k, .int .u64 x] → Hp R' L' M' → K (.tuple #[.int .i64 e, .agg #[.int .i64 a, .int .i64 q, .int .i64 n, .int .i64 k, .int .u64 x]]) M') :
    ACalls Tryz.prog 56 #[u0] M K Kp := by
  refine vc_source_Guard ?_
  refine s_nwc h ?_
  clear h
  intro k1 M h
  refine s_nwc h ?_
  clear h
  intro k3 M h
  refine s_nwc h ?_
  clear h
  intro k5 M h
  repeat (refine s_stc h ?_; clear h; intro M h)
  refine source_caught (S := fun R' L2 => ∃ L', S R' L' ∧ L2 = pt k1 un0 155 :: L') (D := fun R' l L2 => ∃ L', D R' l L' ∧ L2 = pt k1 un0 155 :: L') (L := pt k1 un0 155 :: L) (h.sub (by repeat (first | exact .refl | refine .cons (by repeat (first | exact .here | apply Pick.there)) ?_ | apply Sub.drop))) ?_ ?_ ?_ ?_
  · intro Q M K Kp h k1' k2
    refine hc (sep [Q, pt k1 un0 155]) M K Kp (Hp.sep_iff.2 h) ?_ ?_
    · intro R' L' M' hs h
      exact k1' R' _ M' ⟨L', hs, rfl⟩ (Hp.sep_iff.1 h)
    · intro R' l L' M' hs h
      exact k2 R' l _ M' ⟨L', hs, rfl⟩ (Hp.sep_iff.1 h)
  · rintro R' l _ ⟨L', hs, _⟩
    exact hd _ _ _ hs
  · rintro R' _ M ⟨L', hs, rfl⟩ h
    clear hc hd kd
    simp only [un0] at h
    refine ⟨rfl, ?_⟩
    repeat (first | (refine s_nwc h ?_; clear h; intro kb M h) | (refine s_stc h ?_; clear h; intro M h) | refine t_exI h ?_ | refine t_exB h ?_ | refine t_exS h ?_ | refine t_exP h ?_ | refine t_exSl h ?_ | refine t_exV h ?_ | refine u_exI ?_ | refine u_exB ?_ | refine u_exS ?_ | refine u_exP ?_ | refine u_exSl ?_ | refine u_exV ?_ | refine u_nilc ?_ | (apply Exists.intro; (repeat apply Exists.intro); refine And.intro rfl ?_) | (refine And.intro ?_ ?_; first | exact trivial | exact rfl | exact t_ld h | (refine lds_s (t_ld h) ?_; (repeat (refine lds_s (t_ld h) ?_)); exact lds_nil) | omega) | refine u_bspT ?_ | refine u_bspF ?_)
    exact k _ _ _ hs (h.sub (by repeat (first | exact .refl | refine .cons (by repeat (first | exact .here | apply Pick.there)) ?_ | apply Sub.drop)))
  · rintro R' l _ M e vs ⟨L', hs, rfl⟩ hg h
    obtain ⟨_, a, q, n, kk, x, rfl⟩ := hg.shape
    clear hc hd k
    simp only [un0] at h
    refine ⟨rfl, ?_⟩
    repeat (first | (refine s_nwc h ?_; clear h; intro kb M h) | (refine s_stc h ?_; clear h; intro M h) | refine t_exI h ?_ | refine t_exB h ?_ | refine t_exS h ?_ | refine t_exP h ?_ | refine t_exSl h ?_ | refine t_exV h ?_ | refine u_exI ?_ | refine u_exB ?_ | refine u_exS ?_ | refine u_exP ?_ | refine u_exSl ?_ | refine u_exV ?_ | refine u_nilc ?_ | (apply Exists.intro; (repeat apply Exists.intro); refine And.intro rfl ?_) | (refine And.intro ?_ ?_; first | exact trivial | exact rfl | exact t_ld h | (refine lds_s (t_ld h) ?_; (repeat (refine lds_s (t_ld h) ?_)); exact lds_nil) | omega) | refine u_bspT ?_ | refine u_bspF ?_)
    exact kd _ _ _ _ _ _ _ _ _ _ hs hg (h.sub (by repeat (first | exact .refl | refine .cons (by repeat (first | exact .here | apply Pick.there)) ?_ | apply Sub.drop)))
theorem next_gend {k k' : SrcK} {kind m : Int} {l : List PanicEntry} (h : k.next kind m = (k', .dry l)) : ∃ e vs, GEnd l e vs ∧ GEnd (dry2 l) e vs := by
  cases k with
  | orc t i =>
    unfold SrcK.next at h
    dsimp only at h
    split at h
    · cases h; exact ⟨_, _, .d1, .d2⟩
    · cases h
  | tape t i =>
    unfold SrcK.next at h
    dsimp only at h
    split at h
    · cases h; exact ⟨_, _, .d1, .d2⟩
    · split at h
      · cases h; exact ⟨_, _, .u1 _ _ _ _ _, .u2 _ _ _ _ _⟩
      · split at h
        · cases h; exact ⟨_, _, .u1 _ _ _ _ _, .u2 _ _ _ _ _⟩
        · cases h
theorem draw_gend {x x' : Sou} {kind n : Int} {l : List PanicEntry} (h : x.draw kind n = (x', .dry l)) : ∃ e vs, GEnd l e vs ∧ GEnd (dry2 l) e vs := by
  unfold Sou.draw at h
  split at h
  · cases h
  · rename_i k' l' hn
    cases h
    exact next_gend hn
theorem ask_gend {d d' : Sou} {a : Option (Int × Int)} {l : List PanicEntry} (h : askDraw d a = (d', .dry l)) : ∃ e vs, GEnd l e vs ∧ GEnd (dry2 l) e vs := by
  cases a with
  | none => cases h
  | some q => exact draw_gend h
theorem inc_dry {z y : Sc} {o : SOut} {l : List PanicEntry} (h : incS (z, o) = (y, .dry l)) : o = .dry l := by
  cases o with
  | ev e => cases h
  | dry l' => cases h; rfl
theorem step_dry {p : Prg} {x y : Sc} {l : List PanicEntry} (he : x.step p = some (y, .dry l)) : ∃ e vs, GEnd l e vs := by
  unfold Sc.step at he
  split at he
  · split at he
    · cases he
    · split at he
      · rename_i hd
        cases he
        obtain ⟨e, vs, h, _⟩ := draw_gend hd
        exact ⟨e, vs, h⟩
      · rename_i d' m hd
        simp only [Option.map_eq_some_iff] at he
        obtain ⟨⟨z, o⟩, ha, hi⟩ := he
        have ho := inc_dry hi
        subst ho
        clear hi hd
        unfold Sc.act at ha
        split at ha
        · split at ha
          · cases ha
          · cases ha
        · split at ha
          · cases ha
          · split at ha
            · split at ha
              · simp only [Option.some.injEq] at ha
                unfold Sc.find at ha
                dsimp only at ha
                split at ha
                · cases ha
                · split at ha
                  · split at ha
                    · rename_i hd
                      cases ha
                      obtain ⟨e, vs, h, _⟩ := draw_gend hd
                      exact ⟨e, vs, h⟩
                    · split at ha <;> cases ha
                  · cases ha
              · cases ha
            · unfold Sc.run at ha
              split at ha
              · split at ha
                · split at ha
                  · cases ha
                  · rename_i l' w rest hex
                    cases ha
                    obtain ⟨hdr, _⟩ := execR_dry hex
                    obtain ⟨e, vs, _, h⟩ := ask_gend (d' := _) (by rw [← hdr])
                    exact ⟨e, vs, h⟩
                  · unfold runOn at ha
                    split at ha <;> cases ha
                  · unfold runOn at ha
                    split at ha <;> cases ha
                · cases ha
              · cases ha
  · cases he
/-- How a guarded step ends. -/
def GsEnd (R : Mem) (pa : PA) (p : Prg) (b wb db : Nat) (L' : List HP) (K : Value → Mem → Prop) (y : Sc) : SOut → Prop
  | .ev e => ∀ R' A c M', R.le R' → RS intE R' A c e.ready → y.d.k.Ok → Hp R' (objP (schR pa p wb db) b y :: L') M' → K (.tuple #[evV e A c, .int .i64 0]) M'
  | .dry l => ∀ e vs M', GEnd l e vs → y.d.k.Ok → Hp R (objP (schR pa p wb db) b y :: L') M' → K (.tuple #[evV ⟨0, 0, 0, []⟩ none 0, .int .i64 e]) M'
theorem law18_Step {pa : PA} {p : Prg} {b wb db : Nat} {x y : Sc} {o : SOut} (h : Hp R L M) [q : ScAt b L pa p wb db x L'] (hp : PrgR R pa p) (hd : x.d.k.Ok) (he : x.step p = some (y, o)) (k : GsEnd R pa p b wb db L' K y o) :
    ACalls Tryz.prog 18 #[.pointer (some ⟨b, 0, none⟩)] M K Kp := by
  refine vc_shunterlaw18_Step ?_
  replace h := h.pick q.pick
  refine s_nwc h ?_
  clear h
  intro k1 M h
  refine s_nwc h ?_
  clear h
  intro k3 M h
  refine s_nwc h ?_
  clear h
  intro k5 M h
  have hsk := step_kok hd he
  cases o with
  | ev e =>
    refine source_Guard (D := fun _ _ _ => False) (S := fun R' L2 => R.le R' ∧ ∃ A c, RS intE R' A c e.ready ∧ L2 = objP (schR pa p wb db) b y :: pt k5 [.int .i64 e.kind, .int .i64 e.m, .int .i64 e.g, .slice A e.ready.length c] 47 :: pt k3 [.int .i64 0, .int .i64 0, .int .i64 0, .slice none 0 0] 47 :: L') h ?_ ?_ ?_ ?_
    · intro Q M K Kp h kk _
      refine callK_cap (args := []) ⟨by decide, by show _ < 228; decide⟩ ?_
      refine vc_shunterlaw18_Step_1 ?_
      refine t_exP h ?_
      refine ev_step h hp hd he ?_
      clear h; intro R' A c M hle hrs hk h
      refine ⟨_, _, _, _, _, _, rfl, ?_⟩
      repeat (refine s_stc h ?_; clear h; intro M h)
      exact kk R' _ M ⟨hle, A, c, hrs, rfl⟩ (h.sub (by repeat (first | exact .refl | refine .cons (by repeat (first | exact .here | apply Pick.there)) ?_ | apply Sub.drop)))
    · exact fun _ _ _ hs => hs.elim
    · rintro R' _ M ⟨hle, A, c, hrs, rfl⟩ h
      refine ⟨_, _, _, _, _, _, rfl, ?_⟩
      refine s_nwc h ?_
      clear h
      intro k15 M h
      repeat (first | (refine s_nwc h ?_; clear h; intro kb M h) | (refine s_stc h ?_; clear h; intro M h) | refine t_exI h ?_ | refine t_exB h ?_ | refine t_exS h ?_ | refine t_exP h ?_ | refine t_exSl h ?_ | refine t_exV h ?_ | refine u_exI ?_ | refine u_exB ?_ | refine u_exS ?_ | refine u_exP ?_ | refine u_exSl ?_ | refine u_exV ?_ | refine u_nilc ?_ | (apply Exists.intro; (repeat apply Exists.intro); refine And.intro rfl ?_) | (refine And.intro ?_ ?_; first | exact trivial | exact rfl | exact t_ld h | (refine lds_s (t_ld h) ?_; (repeat (refine lds_s (t_ld h) ?_)); exact lds_nil) | omega) | refine u_bspT ?_ | refine u_bspF ?_)
      exact k R' A c _ hle hrs hsk (h.sub (by repeat (first | exact .refl | refine .cons (by repeat (first | exact .here | apply Pick.there)) ?_ | apply Sub.drop)))
    · exact fun _ _ _ _ _ _ _ _ _ _ hs => hs.elim
  | dry l =>
    obtain ⟨e, vs, hg⟩ := step_dry he
    refine source_Guard (S := fun _ _ => False) (D := fun R' l' L2 => R' = R ∧ l' = l ∧ L2 = objP (schR pa p wb db) b y :: pt k5 [.int .i64 0, .int .i64 0, .int .i64 0, .slice none 0 0] 47 :: pt k3 [.int .i64 0, .int .i64 0, .int .i64 0, .slice none 0 0] 47 :: L') h ?_ ?_ ?_ ?_
    · intro Q M K Kp h _ kk
      refine callK_cap (args := []) ⟨by decide, by show _ < 228; decide⟩ ?_
      refine vc_shunterlaw18_Step_1 ?_
      refine t_exP h ?_
      refine sched_Step h hp hd he ?_
      intro M h
      exact kk R _ _ M ⟨rfl, rfl, rfl⟩ (h.sub (by repeat (first | exact .refl | refine .cons (by repeat (first | exact .here | apply Pick.there)) ?_ | apply Sub.drop)))
    · rintro R' l' L2 ⟨_, rfl, _⟩
      exact ⟨e, vs, hg⟩
    · exact fun _ _ _ hs => hs.elim
    · rintro R' l' _ M e a q n kx xx ⟨rfl, rfl, rfl⟩ hg h
      refine ⟨_, _, _, _, _, _, rfl, ?_⟩
      refine s_nwc h ?_
      clear h
      intro k15 M h
      repeat (first | (refine s_nwc h ?_; clear h; intro kb M h) | (refine s_stc h ?_; clear h; intro M h) | refine t_exI h ?_ | refine t_exB h ?_ | refine t_exS h ?_ | refine t_exP h ?_ | refine t_exSl h ?_ | refine t_exV h ?_ | refine u_exI ?_ | refine u_exB ?_ | refine u_exS ?_ | refine u_exP ?_ | refine u_exSl ?_ | refine u_exV ?_ | refine u_nilc ?_ | (apply Exists.intro; (repeat apply Exists.intro); refine And.intro rfl ?_) | (refine And.intro ?_ ?_; first | exact trivial | exact rfl | exact t_ld h | (refine lds_s (t_ld h) ?_; (repeat (refine lds_s (t_ld h) ?_)); exact lds_nil) | omega) | refine u_bspT ?_ | refine u_bspF ?_)
      exact k _ _ _ hg hsk (h.sub (by repeat (first | exact .refl | refine .cons (by repeat (first | exact .here | apply Pick.there)) ?_ | apply Sub.drop)))
end
end Go.Proofs

namespace Go.Proofs
open Go.AF
set_option linter.unusedVariables false
set_option maxRecDepth 100000
set_option maxHeartbeats 1000000
attribute [local irreducible] exI exB exS exP exSl exV nilc stc nwc semK semU bsp
def pvE : Enc (Int × (Option Addr × Nat × Nat) × Int × Int) := ⟨4, fun t => [.int .i64 t.1, .slice t.2.1.1 t.2.1.2.1 t.2.1.2.2, .int .i64 t.2.2.1, .int .i64 t.2.2.2], fun _ => rfl, fun w v hv => by
  simp only [List.mem_cons, List.not_mem_nil, or_false] at hv; obtain rfl | rfl | rfl | rfl := hv <;> rfl⟩
/-- What is told of a processor. -/
def View (R : Mem) (v : Int × (Option Addr × Nat × Nat) × Int × Int) (pr : Prc) : Prop := v.1 = pr.q.next ∧ v.2.1.2.1 = pr.q.l.length ∧ RS intE R v.2.1.1 v.2.1.2.2 pr.q.l ∧ v.2.2.1 = pr.turns ∧ v.2.2.2 = pr.by_
def Views (R : Mem) (vs : List (Int × (Option Addr × Nat × Nat) × Int × Int)) (ps : List Prc) : Prop := vs.length = ps.length ∧ ∀ (i : Nat) v pr, vs[i]? = some v → ps[i]? = some pr → View R v pr
theorem View.le {R R' : Mem} {v : Int × (Option Addr × Nat × Nat) × Int × Int} {pr : Prc} (h : View R v pr) (hle : R.le R') : View R' v pr := ⟨h.1, h.2.1, h.2.2.1.le hle, h.2.2.2⟩
theorem Views.le {R R' : Mem} {vs : List (Int × (Option Addr × Nat × Nat) × Int × Int)} {ps : List Prc} (h : Views R vs ps) (hle : R.le R') : Views R' vs ps := ⟨h.1, fun i v pr a b => (h.2 i v pr a b).le hle⟩
theorem Views.snoc {R : Mem} {vs : List (Int × (Option Addr × Nat × Nat) × Int × Int)} {ps : List Prc} {n : Nat} {v : Int × (Option Addr × Nat × Nat) × Int × Int} {pr : Prc} (h : Views R vs (ps.take n)) (hp : ps[n]? = some pr) (hv : View R v pr) : Views R (vs ++ [v]) (ps.take (n + 1)) := by
  obtain ⟨h1, h2⟩ := h
  rw [take_snoc hp]
  refine ⟨by simp [h1], fun i w q a b => ?_⟩
  rcases Nat.lt_trichotomy i vs.length with hi | hi | hi
  · rw [List.getElem?_append_left hi] at a
    rw [List.getElem?_append_left (by omega)] at b
    exact h2 i w q a b
  · subst hi
    rw [List.getElem?_append_right (Nat.le_refl _)] at a
    rw [List.getElem?_append_right (by omega)] at b
    simp at a
    rw [show vs.length - (ps.take n).length = 0 from by omega] at b
    simp at b
    subst a; subst b; exact hv
  · rw [List.getElem?_eq_none (by simp; omega)] at a; cases a
section
variable {R : Mem} {L L' L2 : List HP} {M : Mem} {K : Value → Mem → Prop} {Kp : List PanicEntry → Mem → Prop} {pa : PA} {p : Prg} {b wb db : Nat} {x : Sc} {m i : Int}
theorem sched_Processors (h : Hp R L M) [o : ScAt b L pa p wb db x L'] (hs : x.ps.length ≤ 1000000) (k : ∀ R' A c vs M', R.le R' → Views R' vs x.ps → Hp R' (rowP pvE 53 A c vs :: objP (schR pa p wb db) b x :: L') M' → K (.slice A x.ps.length c) M') : ACalls Tryz.prog 19 #[.pointer (some ⟨b, 0, none⟩)] M K Kp := by
  refine vc_sched_Sched_Processors ?_
  have h' := sch_open h (b := b)
  clear h
  obtain ⟨a, hl, h⟩ := h'
  rw [sc_ps h]
  refine u_exSl ?_
  have elp : ElemOk Tryz.prog 50 53 4 48 [.int .i64 0, .slice none 0 0, .int .i64 0, .int .i64 0] := ElemOk.mk' (zv := .agg #[.int .i64 0, .slice none 0 0, .int .i64 0, .int .i64 0]) (by kernel_rfl) (by kernel_rfl) rfl (by omega)
  replace h := h.row_nil pvE 53
  refine ⟨fun dd vs M => ∃ (j : Nat) (A : Option Addr) (c : Nat) (R' : Mem) (us : List (Int × (Option Addr × Nat × Nat) × Int × Int)), vs = [.slice A j c, .int .i64 (j : Int)] ∧ dd = x.ps.length - j ∧ j ≤ x.ps.length ∧ R.le R' ∧ Views R' us (x.ps.take j) ∧ Hp R' (rowP pvE 53 A c us :: glP (scG b wb db a x) x.gl :: objP (idleR pa p) wb x.w :: objP (souR .nilFunc) db x.d :: scRest a x L') M, ⟨_, 0, none, 0, R, [], rfl, rfl, by omega, Mem.le_refl _, ⟨by simp, fun i v pr e => by simp at e⟩, h⟩, ?_⟩
  clear h
  rintro dd _ A n c nn M ⟨j, A', c', R', us, he, hd, hj, hle, hv, h⟩
  simp only [List.cons.injEq, Value.int.injEq, Value.slice.injEq, and_true, true_and] at he
  obtain ⟨⟨rfl, rfl, rfl⟩, rfl⟩ := he
  have hul : us.length = n := by rw [hv.1, List.length_take]; omega
  refine bsp_dec.2 ⟨fun hlt => ?_, fun hge => ?_⟩
  · obtain ⟨pr, hpr⟩ := idx_ex (l := x.ps) (i := n) (by omega)
    obtain ⟨lb, hlb⟩ := idx_ex (l := a.lb) (i := n) (by omega)
    refine ⟨by omega, hlt, ?_⟩
    obtain ⟨q2, hq2⟩ := h.row_some (A := a.ap) (l := prow a.lb x.ps) (by rw [prow_len hl]; omega) (by decide)
    have hs0 : Src R' (rowP pvE 53 A c us :: glP (scG b wb db a x) x.gl :: objP (idleR pa p) wb x.w :: objP (souR .nilFunc) db x.d :: scRest a x L') (some ⟨q2, 0, none⟩) (procE.cells (prow a.lb x.ps)) := by
      rw [← hq2]; exact Src.row (A := a.ap)
    refine n_eq hq2 ?_
    refine ld_proc (j := n) h hs0 hlb hpr (by simp) (by simp) (by simp) ?_
    clear hs0
    refine s_nwc h ?_
    clear h; intro k18 M h
    refine s_stc h ?_
    clear h; intro M h
    refine s_stc h ?_
    clear h; intro M h
    refine s_stc h ?_
    clear h; intro M h
    refine t_exP h (t_exP h (t_exI h (t_exI h ?_)))
    have hq : (x.ps.map Prc.q)[n]? = some pr.q := by rw [List.getElem?_map, hpr]; rfl
    unfold scRest at h
    replace h := h.objs_out locR hlb hq
    refine local_Next h ?_
    refine u_exI ⟨t_ld h, t_ld h, t_ld h, ?_⟩
    refine local_List h ?_
    clear h; intro B cB M h
    refine u_exSl ⟨t_ld h, t_ld h, t_ld h, ?_⟩
    replace h := h.objs_same locR lb hlb hq
    obtain ⟨R2, hle2, hrs, h2⟩ := h.sealRow B
    clear h
    refine s_nwc h2 ?_
    clear h2; intro k35 M h
    refine h.append1n (A := A) elp [(pr.q.next, (B, pr.q.l.length, cB), pr.turns, pr.by_)] rfl hul.symm rfl (by simp only [List.length_singleton]; omega) ?_
    clear h; intro A2 c2 M h
    refine u_exSl ⟨t_ld h, t_ld h, t_ld h, ?_⟩
    rw [wrap_succ (by omega)]
    have hv2 : Views R2 (us ++ [(pr.q.next, (B, pr.q.l.length, cB), pr.turns, pr.by_)]) (x.ps.take (n + 1)) := (hv.le hle2).snoc hpr ⟨rfl, rfl, hrs, rfl, rfl⟩
    refine ⟨x.ps.length - (n + 1), by omega, n + 1, A2, c2, R2, _, rfl, rfl, by omega, Mem.le_trans hle hle2, hv2, ?_⟩
    unfold scRest
    exact h.sub (by repeat (first | exact .refl | refine .cons (by repeat (first | exact .here | apply Pick.there)) ?_ | apply Sub.drop))
  · have hjl : n = x.ps.length := by omega
    subst hjl
    rw [List.take_length] at hv
    exact k _ _ _ _ _ hle hv ((sch_mk hl (h.sub (by repeat (first | exact .refl | refine .cons (by repeat (first | exact .here | apply Pick.there)) ?_ | apply Sub.drop)))).swap)
end
end Go.Proofs

namespace Go.Proofs
open Go.AF
set_option linter.unusedVariables false
set_option maxRecDepth 100000
set_option maxHeartbeats 1000000
attribute [local irreducible] exI exB exS exP exSl exV nilc stc nwc semK semU bsp
def evs : Option (Sc × SOut) → Option Sc
  | some (y, .ev _) => some y
  | _ => none
/-- So many steps. -/
def runSc (p : Prg) : Nat → Sc → Option Sc
  | 0, x => some x
  | j + 1, x => (runSc p j x).bind fun y => evs (y.step p)
theorem runSc_succ {p : Prg} {j : Nat} {x z : Sc} (h : runSc p (j + 1) x = some z) : ∃ y e, runSc p j x = some y ∧ y.step p = some (z, .ev e) := by
  simp only [runSc, Option.bind_eq_some_iff] at h
  obtain ⟨y, hy, h⟩ := h
  refine ⟨y, ?_⟩
  unfold evs at h
  split at h
  · rename_i y' e he
    cases h
    exact ⟨e, hy, he⟩
  · cases h
theorem runSc_at {p : Prg} {x z : Sc} : ∀ (k j : Nat), j ≤ k → ∀ {z : Sc}, runSc p k x = some z → ∃ y, runSc p j x = some y
  | 0, j, h, z, hz => ⟨z, by rw [show j = 0 from by omega]; exact hz⟩
  | k + 1, j, h, z, hz => by
    by_cases hj : j = k + 1
    · exact ⟨z, by rw [hj]; exact hz⟩
    · obtain ⟨y, _, hy, _⟩ := runSc_succ hz
      exact runSc_at (x := x) (z := z) k j (by omega) hy
theorem runSc_next {p : Prg} {x z : Sc} {k j : Nat} {y : Sc} (h : runSc p k x = some z) (hj : j < k) (hy : runSc p j x = some y) : ∃ y' e, y.step p = some (y', .ev e) ∧ runSc p (j + 1) x = some y' := by
  obtain ⟨y', h'⟩ := runSc_at (x := x) (z := z) k (j + 1) (by omega) h
  obtain ⟨y2, e, h1, h2⟩ := runSc_succ h'
  rw [hy] at h1
  cases h1
  exact ⟨y', e, h2, h'⟩
end Go.Proofs

namespace Go.Proofs
open Go.AF
set_option linter.unusedVariables false
set_option maxRecDepth 100000
set_option maxHeartbeats 1000000
attribute [local irreducible] exI exB exS exP exSl exV nilc stc nwc semK semU bsp
def stlMain (n : Nat) : List Ins := List.replicate n ⟨11, 1, 0, 1⟩ ++ [⟨7, n, 0, 0⟩]
def stlP (n : Nat) : Prg := ⟨[stlMain n, [⟨10, 0, 0, 0⟩]], [], 0, []⟩
def stlNum (n : Nat) : List Int := List.replicate (n + 2) 0 ++ [1, 1, 0]
def stlX (n : Nat) : Sc := Sc.new (stlP n) ⟨2, 2, 64, 1000⟩ ⟨.orc (stlNum n) 0, []⟩
/-- What is wanted behind the last step. -/
def stlEnd (n : Nat) (y : Sc) (e : Ev) : Prop := e.kind = 5 ∧ e.m = 1 ∧ e.g = 1 ∧ y.ps.length = 2 ∧ y.ms.length = 2 ∧ ((prAt y 1).q.l.length : Int) = ((n / 2 : Nat) : Int) - 1 ∧ (prAt y 0).q.next = (n : Int) ∧ ((prAt y 0).q.l.length : Int) = (n : Int) - 1 - ((n / 2 : Nat) : Int) ∧
  (prAt y 1).q.l ++ (prAt y 0).q.l = (List.range ((prAt y 1).q.l.length + (prAt y 0).q.l.length)).map (fun (i : Nat) => (i : Int) + 2) ∧ (mcAt y 1).g = 1 ∧ (prAt y 1).turns = 1
instance (n : Nat) (y : Sc) (e : Ev) : Decidable (stlEnd n y e) := by unfold stlEnd; infer_instance
def stlOk (n : Nat) : Bool := match runSc (stlP n) (n + 3) (stlX n) with
  | none => false
  | some x => match x.step (stlP n) with
    | some (y, .ev e) => decide (stlEnd n y e)
    | _ => false
theorem stl_all : ((List.range 29).all fun m => stlOk (m + 2)) = true := by kernel_rfl
theorem stl_ok {n : Nat} (h2 : 2 ≤ n) (h30 : n ≤ 30) : ∃ x y e, runSc (stlP n) (n + 3) (stlX n) = some x ∧ x.step (stlP n) = some (y, .ev e) ∧ stlEnd n y e := by
  have := stl_all
  rw [List.all_eq_true] at this
  have h := this (n - 2) (by rw [List.mem_range]; omega)
  rw [show n - 2 + 2 = n from by omega] at h
  unfold stlOk at h
  split at h
  · cases h
  · rename_i x hx
    split at h
    · rename_i y e hy
      exact ⟨x, y, e, hx, hy, of_decide_eq_true h⟩
    · cases h
end Go.Proofs

namespace Go.Proofs
open Go.AF
set_option linter.unusedVariables false
set_option maxRecDepth 100000
set_option maxHeartbeats 1000000
attribute [local irreducible] exI exB exS exP exSl exV nilc stc nwc semK semU bsp
theorem el_insS : ElemOk Tryz.prog 31 34 4 32 [.int .i64 0, .int .i64 0, .int .i64 0, .int .i64 0] := ElemOk.mk' (zv := .agg #[.int .i64 0, .int .i64 0, .int .i64 0, .int .i64 0]) (by kernel_rfl) (by kernel_rfl) rfl (by omega)
theorem el_intS : ElemOk Tryz.prog 38 3 1 8 [.int .i64 0] := ElemOk.mk' (zv := .int .i64 0) (by kernel_rfl) (by kernel_rfl) rfl (by omega)
section
variable {R : Mem} {L L' : List HP} {M : Mem} {K : Value → Mem → Prop} {Kp : List PanicEntry → Mem → Prop}
theorem small_ex (x : Int) {b m : Int} {q : Nat} (e : m = (q : Int)) (hm : 0 < q) (hb : 0 ≤ b) (hbig : b + m < 1000000) : ∃ n : Nat, IntKind.wrap .i64 (b + Int.tmod (IntKind.wrap .i64 (((Nat.bitwise and (BitVec.ofInt IntKind.i64.bits x).toNat (BitVec.ofInt IntKind.i64.bits 255).toNat) : Nat) : Int)) m) = (n : Int) ∧ b ≤ n ∧ (n : Int) < b + m := by
  obtain ⟨h0, h1⟩ := q_range x e hm
  obtain ⟨n, hn⟩ := Int.eq_ofNat_of_zero_le (show 0 ≤ b + Int.tmod (IntKind.wrap .i64 (((Nat.bitwise and (BitVec.ofInt IntKind.i64.bits x).toNat (BitVec.ofInt IntKind.i64.bits 255).toNat) : Nat) : Int)) m by omega)
  refine ⟨n, ?_, by omega, by omega⟩
  rw [wrap_id (by omega) (by omega)]
  exact hn
theorem schedSteals_ok {x0 : Int} (k : ∀ M', Chg [] M M' → K (.bool true) M') : ACalls Tryz.prog 4 #[.int .i64 x0] M K Kp := by
  refine vc_shunterlaw18_SchedSteals ?_
  have k' : ∀ (R : Mem) (L : List HP) M', M.le R → Hp R L M' → K (.bool true) M' := fun R L M' hle h => k M' (Keep.chg (fun b o hb => h.le b o (hle b o hb)) [])
  clear k
  obtain ⟨n, hn, n2, n30⟩ := small_ex x0 (b := 2) (m := 29) (q := 29) rfl (by omega) (by omega) (by omega)
  simp only [hn]
  refine law18_awake (Hp.start M) ?_
  intro R M2 hle h
  refine u_exB (u_bspF ⟨by decide, ?_⟩)
  refine s_nwc h ?_
  clear h; intro k4 M3 h
  replace h := (h.pt k4).row_pt (E := insE) (l := []) rfl
  refine ⟨fun dd vs M => ∃ (j : Nat) (A : Option Addr) (c : Nat), vs = [.slice A j c, .int .i64 (j : Int)] ∧ dd = n - j ∧ j ≤ n ∧ Hp R (rowP insE 34 A c (List.replicate j ⟨11, 1, 0, 1⟩) :: []) M, ⟨_, 0, _, 0, rfl, rfl, by omega, h⟩, ?_⟩
  clear h
  rintro dd _ A l c nn M4 ⟨j, A', c', he, hd, hj, h⟩
  simp only [List.cons.injEq, Value.int.injEq, Value.slice.injEq, and_true, true_and] at he
  obtain ⟨⟨rfl, rfl, rfl⟩, rfl⟩ := he
  refine bsp_dec.2 ⟨fun hlt => ?_, fun hge => ?_⟩
  · refine s_nwc h ?_
    clear h; intro k15 M5 h
    refine h.append1n (A := A) el_insS [(⟨11, 1, 0, 1⟩ : Ins)] rfl (by simp) rfl (by simp; omega) ?_
    clear h; intro A2 c2 M6 h
    refine u_exSl ⟨n - (l + 1), by omega, l + 1, A2, c2, ?_, rfl, by omega, ?_⟩
    · rw [wrap_succ (by omega)]
    · rw [List.replicate_succ']; exact h
  · have hjl : l = n := by omega
    subst hjl
    refine s_nwc h ?_
    clear h; intro k23 M5 h
    refine h.append1n (A := A) el_insS [(⟨7, l, 0, 0⟩ : Ins)] rfl (by simp) rfl (by simp; omega) ?_
    clear h; intro A2 c2 M6 h
    refine u_exSl ?_
    rw [show IntKind.wrap .i64 ((l : Int) + 2) = ((l + 2 : Nat) : Int) from wrap_id (by omega) (by omega)]
    refine h.rowMake (E := u64E) (a := 0) el_u64 (by omega) ?_
    clear h; intro k31 M7 h
    refine u_exSl ?_
    refine s_nwc h ?_
    clear h; intro k35 M8 h
    refine h.append1n (A := some ⟨k31, 0, none⟩) el_u64 [1, 1, 0] rfl (by simp) rfl (by simp; omega) ?_
    clear h; intro A3 c3 M9 h
    refine u_exSl ?_
    obtain ⟨R1, l1, r1, h1⟩ := h.sealRow A2
    clear h
    refine s_nwc h1 ?_
    clear h1; intro k42 M10 h
    have h2 := (h.pt k42).row_pt (E := insE) (l := [⟨10, 0, 0, 0⟩]) rfl
    obtain ⟨R2, l2, r2, h3⟩ := h2.sealRow (some ⟨k42, 0, none⟩)
    clear h h2
    refine s_nwc h3 ?_
    clear h3; intro k44 M11 h
    have h2 := (h.pt k44).row_pt (E := slE) (l := [(A2, l + 1, c2), (some ⟨k42, 0, none⟩, 1, 1)]) rfl
    obtain ⟨R3, l3, r3, h3⟩ := h2.sealRow (some ⟨k44, 0, none⟩)
    clear h h2
    have hp : PrgR R3 ⟨some ⟨k44, 0, none⟩, 2, none, 0, none, 0⟩ (stlP l) := ⟨⟨_, r3, rfl, fun i t f a b => by
      match i, a, b with
      | 0, a, b => simp at a; simp [stlP] at b; subst b; subst a; exact ⟨r1.le (Mem.le_trans l2 l3), by simp [stlMain]⟩
      | 1, a, b => simp at a; simp [stlP] at b; subst b; subst a; exact ⟨r2.le l3, rfl⟩
      | i + 2, a, b => simp at a⟩, RS.nil _ _⟩
    have hle3 : M.le R3 := Mem.le_trans hle (Mem.le_trans l1 (Mem.le_trans l2 l3))
    refine s_nwc h3 ?_
    clear h3; intro k46 M12 h
    refine s_stc h ?_
    clear h; intro M13 h
    refine s_stc h ?_
    clear h; intro M14 h
    refine s_stc h ?_
    clear h; intro M15 h
    refine s_stc h ?_
    clear h; intro M16 h
    refine t_exSl h (t_exSl h (t_exI h (t_exSl h ?_)))
    refine source_Oracle (l := stlNum l) h (Src.row (A := A3)) (by simp [stlNum]) (by simp [stlNum]; omega) ?_
    clear h; intro db M17 h
    refine u_exP ⟨lds_s (t_ld h) (lds_s (t_ld h) (lds_s (t_ld h) (lds_s (t_ld h) lds_nil))), ?_⟩
    refine sched_New (p := stlP l) (pa := ⟨some ⟨k44, 0, none⟩, 2, none, 0, none, 0⟩) (c := ⟨2, 2, 64, 1000⟩) h (RS.nil _ _) (by simp [stlP]) (by simp [stlP]) (by decide) (by decide) ?_
    clear h; intro b wb M18 h
    refine u_exP ⟨lds_s (t_ld h) (lds_s (t_ld h) (lds_s (t_ld h) (lds_s (t_ld h) lds_nil))), ?_⟩
    obtain ⟨x, y, e, hx, hy, hend⟩ := stl_ok (n := l) (by omega) (by omega)
    have hk0 : (stlX l).d.k.Ok := ⟨by simp [stlNum]; omega, by simp, fun v hv => by simp [stlNum] at hv; omega⟩
    have h0 : Hp R3 (objP (schR ⟨some ⟨k44, 0, none⟩, 2, none, 0, none, 0⟩ (stlP l) wb db) b (stlX l) :: []) M18 := h.sub (by repeat (first | exact .refl | refine .cons (by repeat (first | exact .here | apply Pick.there)) ?_ | apply Sub.drop))
    clear h
    generalize (⟨some ⟨k44, 0, none⟩, 2, none, 0, none, 0⟩ : PA) = pa at hp h0
    have h := h0
    clear h0
    refine ⟨fun dd vs M => ∃ (j : Nat) (xj : Sc) (R' : Mem), vs = [.int .i64 (j : Int)] ∧ dd = l + 3 - j ∧ j ≤ l + 3 ∧ R3.le R' ∧ runSc (stlP l) j (stlX l) = some xj ∧ xj.d.k.Ok ∧ Hp R' (objP (schR pa (stlP l) wb db) b xj :: []) M, ⟨_, 0, stlX l, R3, rfl, rfl, by omega, Mem.le_refl _, rfl, hk0, h⟩, ?_⟩
    clear h
    rintro dd _ nn M ⟨j, xj, R', he, hd, hj, hle', hrun, hok, h⟩
    simp only [List.cons.injEq, Value.int.injEq, and_true, true_and] at he
    subst he
    rw [show IntKind.wrap .i64 ((l : Int) + 3) = ((l + 3 : Nat) : Int) from wrap_id (by omega) (by omega)]
    refine bsp_dec.2 ⟨fun hlt => ?_, fun hge => ?_⟩
    · obtain ⟨y', e', hst, hnx⟩ := runSc_next hx (j := j) (by omega) hrun
      refine law18_Step h (hp.le hle') hok hst ?_
      clear h
      intro R4 A5 c5 M h1 h2 h3 h
      refine ⟨_, _, _, _, _, _, _, rfl, ?_⟩
      refine s_nwc h ?_
      clear h; intro k83 M h
      refine ev_st h ?_
      clear h; intro M h
      refine u_bspF ⟨l + 3 - (j + 1), by omega, j + 1, y', R4, ?_, rfl, by omega, Mem.le_trans hle' h1, hnx, h3, h.sub (by repeat (first | exact .refl | refine .cons (by repeat (first | exact .here | apply Pick.there)) ?_ | apply Sub.drop))⟩
      rw [wrap_succ (by omega)]
    · have hj3 : j = l + 3 := by omega
      subst hj3
      rw [hx] at hrun
      cases hrun
      refine law18_Step h (hp.le hle') hok hy ?_
      clear h
      intro R4 A5 c5 M h1 h2 h3 h
      refine ⟨_, _, _, _, _, _, _, rfl, ?_⟩
      refine s_nwc h ?_
      clear h; intro k99 M h
      refine ev_st h ?_
      clear h; intro M h
      obtain ⟨e1, e2, e3, e4, e5, e6, e7, e8, e9, e10, e11⟩ := hend
      refine sched_Processors h (by omega) ?_
      clear h; intro R5 A6 c6 vs M l5 hvs h
      refine u_exSl ⟨by decide, u_bspF ?_⟩
      refine t_exI h ?_
      rw [e1]
      refine u_bspF (t_exI h ?_)
      rw [e2]
      refine u_bspF (t_exI h ?_)
      rw [e3]
      refine u_bspF ⟨by decide, by omega, ?_⟩
      have hvl : vs.length = 2 := by rw [hvs.1, e4]
      obtain ⟨q, hq⟩ := h.row_some (A := A6) (l := vs) (by omega) (by decide)
      obtain ⟨v0, hv0⟩ := idx_ex (l := vs) (i := 0) (by omega)
      obtain ⟨v1, hv1⟩ := idx_ex (l := vs) (i := 1) (by omega)
      obtain ⟨p0, hp0⟩ := idx_ex (l := y.ps) (i := 0) (by omega)
      obtain ⟨p1, hp1⟩ := idx_ex (l := y.ps) (i := 1) (by omega)
      have ep0 : prAt y 0 = p0 := by simp [prAt, hp0]
      have ep1 : prAt y 1 = p1 := by simp [prAt, hp1]
      rw [ep0, ep1] at e9
      rw [ep1] at e6 e11
      rw [ep0] at e7 e8
      obtain ⟨w1, w2, w3, w4, w5⟩ := hvs.2 0 v0 p0 hv0 hp0
      obtain ⟨z1, z2, z3, z4, z5⟩ := hvs.2 1 v1 p1 hv1 hp1
      have eh : IntKind.wrap .i64 (Int.tdiv (l : Int) 2) = ((l / 2 : Nat) : Int) := by
        rw [show Int.tdiv (l : Int) 2 = ((l / 2 : Nat) : Int) from (Int.ofNat_tdiv l 2).symm]
        exact wrap_id (by omega) (by omega)
      have el1 : IntKind.wrap .i64 ((l : Int) - 1) = (l : Int) - 1 := wrap_id (by omega) (by omega)
      simp only [eh, el1]
      rw [wrap_id (z := ((l / 2 : Nat) : Int) - 1) (by omega) (by omega), wrap_id (z := (l : Int) - 1 - ((l / 2 : Nat) : Int)) (by omega) (by omega)]
      subst hq
      refine u_nilc ?_
      refine v_exSl (Src.at (h.src (A := some ⟨q, 0, none⟩)) h (i := 1) (j := 1) hv1 rfl (by decide)) ?_
      refine bsp_ne.2 ⟨fun hne => absurd (by rw [z2]; exact e6) hne, fun _ => ?_⟩
      refine ⟨by decide, by omega, u_nilc ?_⟩
      refine v_exI (Src.at (h.src (A := some ⟨q, 0, none⟩)) h (i := 0) (j := 0) hv0 rfl (by decide)) ?_
      refine bsp_ne.2 ⟨fun hne => absurd (by rw [w1]; exact e7) hne, fun _ => ?_⟩
      refine ⟨by decide, by omega, u_nilc ?_⟩
      refine v_exSl (Src.at (h.src (A := some ⟨q, 0, none⟩)) h (i := 0) (j := 1) hv0 rfl (by decide)) ?_
      refine bsp_ne.2 ⟨fun hne => absurd (by rw [w2]; exact e8) hne, fun _ => ?_⟩
      refine ⟨by decide, by omega, u_nilc ⟨by decide, by omega, u_nilc ?_⟩⟩
      refine v_exSl (Src.at (h.src (A := some ⟨q, 0, none⟩)) h (i := 1) (j := 1) hv1 rfl (by decide)) ?_
      refine v_exSl (Src.at (h.src (A := some ⟨q, 0, none⟩)) h (i := 0) (j := 1) hv0 rfl (by decide)) ?_
      refine s_nwc h ?_
      clear h; intro k136 M h
      refine h.rowCopy intE el_intS p1.q.l z3.src z2 (by omega) ?_
      clear h; intro A7 c7 M h
      refine u_exSl ⟨Src.at (h.src (A := some ⟨q, 0, none⟩)) h (i := 0) (j := 1) hv0 rfl (by decide), ?_⟩
      refine h.rowAppend (A := A7) el_intS (r := p0.q.l) w3.src w2 (by omega) ?_
      clear h; intro A8 c8 M h
      refine u_exSl ⟨Src.at (h.src (A := some ⟨q, 0, none⟩)) h (i := 0) (j := 1) hv0 rfl (by decide), ?_⟩
      have hlen : (p1.q.l ++ p0.q.l).length = p1.q.l.length + p0.q.l.length := List.length_append
      generalize hT : p1.q.l ++ p0.q.l = T at h e9 hlen
      refine ⟨fun dd vs' M => ∃ (i : Nat), vs' = [.int .i64 (i : Int)] ∧ dd = T.length - i ∧ i ≤ T.length ∧ Hp R5 (rowP intE 3 A8 c8 T :: rowP pvE 53 (some ⟨q, 0, none⟩) c6 vs :: objP (schR pa (stlP l) wb db) b y :: []) M, ⟨_, 0, rfl, rfl, by omega, h.sub (by repeat (first | exact .refl | refine .cons (by repeat (first | exact .here | apply Pick.there)) ?_ | apply Sub.drop))⟩, ?_⟩
      clear h
      rintro dd _ nn M ⟨i, he, hd, hi, h⟩
      simp only [List.cons.injEq, Value.int.injEq, and_true, true_and] at he
      subst he
      refine bsp_dec.2 ⟨fun hlt => ?_, fun hge => ?_⟩
      · obtain ⟨q8, hq8⟩ := h.row_some (A := A8) (l := T) (by omega) (by decide)
        subst hq8
        obtain ⟨v, hv⟩ := idx_ex (l := T) (i := i) (by omega)
        refine ⟨by omega, hlt, u_nilc ?_⟩
        refine v_exI (Src.at (h.src (A := some ⟨q8, 0, none⟩)) h (i := i) (j := 0) hv rfl (by simp [intE])) ?_
        have ev : v = (i : Int) + 2 := by
          rw [e9, List.getElem?_map, List.getElem?_range (by omega)] at hv
          simp at hv
          exact hv.symm
        rw [wrap_id (z := (i : Int) + 2) (by omega) (by omega), wrap_succ (by omega)]
        exact bsp_ne.2 ⟨fun hne => absurd ev hne, fun _ => ⟨T.length - (i + 1), by omega, i + 1, rfl, rfl, by omega, h⟩⟩
      · refine sched_Machines h (by omega) ?_
        clear h; intro A9 c9 M h
        obtain ⟨q9, hq9⟩ := h.row_some (A := A9) (l := y.ms) (by omega) (by decide)
        subst hq9
        refine u_exSl ⟨by decide, by omega, u_nilc ?_⟩
        obtain ⟨m1, hm1⟩ := idx_ex (l := y.ms) (i := 1) (by omega)
        have em1 : mcAt y 1 = m1 := by simp [mcAt, hm1]
        rw [em1] at e10
        refine v_exI (Src.at (h.src (A := some ⟨q9, 0, none⟩)) h (i := 1) (j := 1) hm1 rfl (by decide)) ?_
        rw [e10]
        refine u_bspT ⟨by decide, by omega, u_nilc ?_⟩
        refine v_exI (Src.at (h.src (A := some ⟨q, 0, none⟩)) h (i := 1) (j := 2) hv1 rfl (by decide)) ?_
        rw [z4, e11]
        exact k' R5 _ M (Mem.le_trans hle3 (Mem.le_trans hle' (Mem.le_trans h1 l5))) h
end
end Go.Proofs
