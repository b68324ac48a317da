/- A part of proofs about functions of one program: a condition over a partial memory that is enough for a call, and what calls answer by it. No condition of its own. -/
import Derived.Test.YtfjgcljdnhkmaaaWL
/- A step of a world, computed. -/
namespace Go.Proofs
open Go.AF
set_option linter.unusedVariables false
set_option maxRecDepth 100000
set_option maxHeartbeats 1000000
attribute [local irreducible] exI exB exS exP exSl exV nilc stc nwc semK semU bsp
def sendOk2 (x : Wd) (g : Int) (i : Ins) : Out (Wd × Bool) → Prop
  | .on (y, false) => gorOk y g ∧ (gorAt y g).fs.length = (gorAt x g).fs.length ∧ waitOk y i.a
  | .on (_, true) => True
  | .trap _ _ => True
instance (x : Wd) (g : Int) (i : Ins) (r : Out (Wd × Bool)) : Decidable (sendOk2 x g i r) := match r with
  | .on (y, false) => by unfold sendOk2; infer_instance
  | .on (_, true) => isTrue trivial
  | .trap _ _ => isTrue trivial
theorem sendOk_of {p : Prg} {x : Wd} {g : Int} {i : Ins} (h : gorOk x g ∧ isReg i.b ∧ putOk p x i.a (topReg x g i.b) ∧ sendOk2 x g i (x.put p i.a (topReg x g i.b))) : sendOk p x g i := by
  obtain ⟨h1, h2, h3, h4⟩ := h
  refine ⟨h1, h2, h3, ?_⟩
  generalize x.put p i.a (topReg x g i.b) = r at h4
  match r, h4 with
  | .on (y, false), h4 => exact h4
  | .on (y, true), _ => trivial
  | .trap _ _, _ => trivial
instance (x : Wd) (g : Int) (i : Ins) : Decidable (recvOk x g i) := by unfold recvOk; infer_instance
instance (p : Prg) (x : Wd) (i : Ins) : Decidable (closeOk p x i) := by unfold closeOk; infer_instance
/-- What an op behind the pure ones comes to, if all it needs is there. -/
def deed (p : Prg) (x : Wd) (g : Int) (i : Ins) : Option (Out Wd) :=
  if i.op = 10 then (if gorOk x g ∧ isReg i.a ∧ isReg (gorAt x g).top.into then some (.on (x.back g i)) else none)
  else if i.op = 11 then (if gorOk x g ∧ isReg i.b ∧ isReg i.c ∧ x.Sm then some (x.spawn g i) else none)
  else if i.op = 13 then (if (gorOk x g ∧ isReg i.b ∧ putOk p x i.a (topReg x g i.b) ∧ sendOk2 x g i (x.put p i.a (topReg x g i.b))) ∧ x.Sm then some (x.send p g i) else none)
  else if i.op = 14 then (if recvOk x g i ∧ x.Sm then some (.on (x.recv g i)) else none)
  else if i.op = 15 then (if closeOk p x i ∧ x.Sm then some (x.shut p i) else none)
  else if i.op = 20 then (if gorOk x g ∧ isReg i.a ∧ x.Sm then some (x.emit g i) else none)
  else none
/-- A goroutine's step: the world, can it go on. -/
def exec (p : Prg) (x0 : Wd) (g : Int) : Option (Wd × Bool) :=
  let x := { x0 with ready := [] }
  if gorOk x g then
    if x.end_ = 0 ∧ (gorAt x g).st = 1 then
      if 0 ≤ (gorAt x g).top.fn ∧ 0 ≤ (gorAt x g).top.pc ∧ (gorAt x g).top.pc < 1000000000 then
        match p.funcs[(gorAt x g).top.fn.toNat]? with
        | none => none
        | some code => match code[(gorAt x g).top.pc.toNat]? with
          | none => some ({ x with end_ := 2, code := -7 }, keepOf { x with end_ := 2, code := -7 } g false)
          | some i =>
            if 0 ≤ i.op ∧ i.op ≤ 8 then (if i.okPure then some (x.putG g ((gorAt x g).putTop ((gorAt x g).top.next.pure i)), keepOf (x.putG g ((gorAt x g).putTop ((gorAt x g).top.next.pure i))) g false) else none)
            else match deed p (x.next g) g i with
              | none => none
              | some r => if g < r.fin.gs.length then some (r.fin, keepOf r.fin g (restOf i.op r)) else none
      else none
    else some (x, false)
  else none
section
variable {R : Mem} {L L' L2 : List HP} {M : Mem} {K : Value → Mem → Prop} {Kp : List PanicEntry → Mem → Prop} {pa : PA} {p : Prg} {gg : List GA} {dr : Value} {b : Nat} {x : Wd} {g : Int}
theorem deed_step {i : Ins} {r : Out Wd} (hp : PrgR R pa p) (h : deed p x g i = some r) : ∃ fn, aget wTab i.op = some (.func (.func fn) #[] #[]) ∧ (1 < fn ∧ fn < 91) ∧ i.op ≠ 16 ∧ i.op ≠ 21 ∧ 8 < i.op ∧ ∀ L, OpSpec R pa p dr fn x g i r L L := by
  unfold deed at h
  split at h
  · rename_i e
    split at h <;> cases h
    rename_i hc
    exact ⟨46, by rw [e]; rfl, by decide, by omega, by omega, by omega, fun L => op_back hc.1 hc.2.1 hc.2.2⟩
  split at h
  · rename_i e
    split at h <;> cases h
    rename_i hc
    exact ⟨47, by rw [e]; rfl, by decide, by omega, by omega, by omega, fun L => op_spawn hc.1 hc.2.1 hc.2.2.1 hc.2.2.2⟩
  split at h
  · rename_i e
    split at h <;> cases h
    rename_i hc
    exact ⟨49, by rw [e]; rfl, by decide, by omega, by omega, by omega, fun L => op_send hp (sendOk_of hc.1) hc.2⟩
  split at h
  · rename_i e
    split at h <;> cases h
    rename_i hc
    exact ⟨50, by rw [e]; rfl, by decide, by omega, by omega, by omega, fun L => op_recv hc.1 hc.2⟩
  split at h
  · rename_i e
    split at h <;> cases h
    rename_i hc
    exact ⟨51, by rw [e]; rfl, by decide, by omega, by omega, by omega, fun L => op_shut hp hc.1 hc.2⟩
  split at h
  · rename_i e
    split at h <;> cases h
    rename_i hc
    exact ⟨55, by rw [e]; rfl, by decide, by omega, by omega, by omega, fun L => op_emit hc.1 hc.2.1 hc.2.2⟩
  · cases h
theorem idle_ready {l : List Int} (h : Hp R (objP (idleR pa p) b x :: L) M) : Hp R (objP (idleR pa p) b { x with ready := l } :: L) M := by
  obtain ⟨a, gg, dr, n, hl, h⟩ := idle_open h (b := b)
  exact idle_mk (a := a) (gg := gg) (dr := dr) (n := n) (x := { x with ready := l }) hl h
theorem law_Exec {y : Wd} {kp : Bool} (h : Hp R L M) [o : IAt b L pa p x L'] (hp : PrgR R pa p) (hdr : ∃ f c d, dr = .func f c d) (he : exec p x g = some (y, kp))
    (k : ∀ R' A c M', R.le R' → RS intE R' A c y.ready → Hp R' (objP (idleR pa p) b y :: L') M' → K (.agg #[.bool kp, .slice A y.ready.length c]) M') :
    ACalls Try.prog 9 #[.pointer (some ⟨b, 0, none⟩), .int .i64 g, dr] M K Kp := by
  unfold exec at he
  dsimp only at he
  split at he
  · rename_i hg
    split at he
    · rename_i hr
      split at he
      · rename_i hpc
        split at he
        · cases he
        · rename_i code hcode
          have done : ∀ (r : Out Wd) (rest : Bool), (∀ Q, Step R pa p dr { x with ready := [] } g code r rest (Q :: L') (Q :: L')) → g < r.fin.gs.length → y = r.fin → kp = keepOf r.fin g rest → ACalls Try.prog 9 #[.pointer (some ⟨b, 0, none⟩), .int .i64 g, dr] M K Kp := by
            intro r rest hs hl e1 e2
            subst e1; subst e2
            exact world_Exec (x := x) h hp (show gorOk x g from hg) hr.1 hr.2 hpc.1 hcode hpc.2 hdr hs hl k
          split at he
          · rename_i hnone
            cases he
            refine done (.trap (-7) { x with ready := [] }) false (fun Q => .out ?_) hg.2.1 rfl rfl
            have := List.getElem?_eq_none_iff.1 hnone
            have := hpc.2.1
            omega
          · rename_i i hi
            split at he
            · rename_i h8
              split at he
              · rename_i hok
                cases he
                exact done (.on _) false (fun Q => .pure i hi h8.1 h8.2 hok) (by simpa [Out.fin, Wd.putG] using hg.2.1) rfl rfl
              · cases he
            · split at he
              · cases he
              · rename_i r hd
                split at he
                · rename_i hl
                  cases he
                  obtain ⟨fn, f1, f2, f3, f4, f5, f6⟩ := deed_step (R := R) (pa := pa) (dr := dr) hp hd
                  exact done r _ (fun Q => .dflt i fn hi f5 f3 f4 f1 f2 (f6 _)) hl rfl rfl
                · cases he
      · cases he
    · rename_i hr
      cases he
      obtain ⟨h0, h1, h2, h3⟩ := hg
      have h0' : 0 ≤ g := h0
      have h1' : g < x.gs.length := h1
      refine vc_world_World_Exec ?_
      refine s_nwc h ?_
      clear h
      intro kb M h
      have hC := h
      have h' := idle_open h (b := b)
      clear h
      obtain ⟨a, gg, dr0, n0, hl, h⟩ := h'
      have hl' := hl
      obtain ⟨l1, l2, l3, l4⟩ := hl'
      have fin : stc M ⟨kb, 0, none⟩ (.bool false) fun M34 => stc M34 ⟨kb, (0 + 1), none⟩ (.slice none 0 0) fun M35 =>
          exB (Mem.ld M35 ⟨kb, 0, none⟩) fun t36 => exSl (Mem.ld M35 ⟨kb, (0 + 1), none⟩) fun A37 k38 k39 => K (.agg #[(.bool t36), (.slice A37 k38 k39)]) M35 := by
        have h := hC
        clear hC
        refine s_stc h ?_
        clear h; intro M h
        refine s_stc h ?_
        clear h; intro M h
        refine t_exB h (t_exSl h ?_)
        exact k R none 0 M (Mem.le_refl _) (RS.nil _ _) (idle_ready (h.drop.pick o.pick))
      refine bsp_dec.2 ⟨fun hn => by omega, fun _ => ?_⟩
      refine t_exSl h ?_
      refine bsp_dec.2 ⟨fun hn => by omega, fun _ => ?_⟩
      refine t_exI h ?_
      refine bsp_ne.2 ⟨fun hn => fin, fun he0 => ?_⟩
      refine t_exSl h ?_
      refine ⟨h0, by omega, ?_⟩
      obtain ⟨gb, hgb⟩ := idx_ex (l := a.gb) (i := g.toNat) (by omega)
      refine w_g h hgb fun q hq => ?_
      obtain ⟨ga, hga⟩ := idx_ex (l := gg) (i := g.toNat) (by omega)
      obtain ⟨z, hy⟩ := idx_ex (l := x.gs) (i := g.toNat) (by omega)
      have ey : gorAt x g = z := by simp [gorAt, hy]
      refine u_nilc ?_
      have hld : M.ld ⟨gb, 0, none⟩ = some (.int .i64 z.st) := by
        have h9 := gor_open (b := gb) (h.objs_out gorR hgb (zip_atL hy hga))
        exact t_ld h9
      rw [hld]
      refine u_exI ?_
      refine bsp_ne.2 ⟨fun hn => fin, fun hn => ?_⟩
      exact absurd ⟨he0, by show (gorAt x g).st = 1; rw [ey]; exact hn⟩ hr
  · cases he
end
end Go.Proofs
