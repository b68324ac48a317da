/- A part of proofs about one program. -/
import Derived.Test.YtfjgcljdnhkmaaaGreatZWorldDryDefer2
set_option linter.unusedVariables false
namespace Go.AF
section
variable {P : Program} {ops : Array Oper} {E : qP}
theorem PE {o : Oper} {a : Act} {X Y : Act → World → Prop} {Q Q' : Exit → Act → World → Prop} {r : Result Next} (h : o.upon P a X Q r) (hx : ∀ a w, X a w → Y a w) (hq : ∀ e a w, Q e a w → Q' e a w) : o.upon P a Y Q' r := by
 unfold Oper.upon at h ⊢
 split at h
 ·exact hx _ _ h
 ·exact hx _ _ h
 ·exact hx _ _ h
 ·refine Calls.mono h fun e w he => ?_
  cases e with
  | returned v => exact hx _ _ he
  | panicked c => exact hq _ _ _ he
  | outgrown => obtain ⟨a0, w0, hl⟩ := he; exact ⟨a0, w0, hq _ _ _ hl⟩
 ·exact Rows.mono h fun v w he => hx _ _ he
 ·exact hq _ _ _ h
 ·exact h.elim
theorem tC {Q : Exit → Act → List Frame → World → Prop} {cs : List Frame} (hno : ¬ LetsOut (fun e a w => Q e a cs w)) : ∀ (l : List Nat) (a : Act) (w : World), wpOps P ops (fun e a w => Q e a cs w) l a w → wpOpsS P ops Q l a cs w
 | [], a, w, h => h
 | i :: rest, a, w, h => by
  simp only [wpOps] at h
  simp only [wpOpsS]
  cases ho : ops[i]? with
  | none => rw [ho] at h; exact tC hno rest a w h
  | some o =>
   rw [ho] at h
   dsimp only at h ⊢
   split at h
   ·rename_i hw
    rw [if_pos hw]
    rcases h with h | h
    ·unfold Oper.wp at h
     generalize (execOp a.eval o).run P w = r at h
     split
     ·exact h.elim
     ·exact PE h (fun a w hh => tC hno rest a w hh) (fun e a w hh => hh)
    ·exact absurd h.2 hno
   ·rename_i hw
    rw [if_neg hw]
    exact tC hno rest _ w h
end
theorem yA {C : Ctx} (hC : C.Good) {f : FuncId} {fn : Func} {id d t : Nat} {p : String} {as : Array Edge} {rest : List Oper} {args : List Value} {u : FrameMode} {M : Mem} {K : FrameMode → Mem → Prop} {Kp : List PanicEntry → FrameMode → Mem → Prop}
  (hf : C.P.funcs[f]? = some fn) (hb : fn.body = some (.region id ({ dst := some d, op := .call { callee := .builtin .recover, args := #[], argTypes := #[] }, type := t, pos := p, after := as, guard := none } :: rest).toArray false)) (hres : fn.results = #[])
  (hfit : ((({ dst := some d, op := .call { callee := .builtin .recover, args := #[], argTypes := #[] }, type := t, pos := p, after := as, guard := none } :: rest).all (lq fn.ntmps)) && decide (d < fn.ntmps ∧ args.length ≤ fn.ntmps)) = true)
  (h : KX C ({ dst := some d, op := .call { callee := .builtin .recover, args := #[], argTypes := #[] }, type := t, pos := p, after := as, guard := none } :: rest).toArray (fun _ M' => K (iH u).2 M') (fun ch => Kp ch (iH u).2) rest (bD (fD args) (some d) (iH u).1) M) : tB C.P f args.toArray u M K Kp := by
 simp only [Bool.and_eq_true, decide_eq_true_eq] at hfit
 obtain ⟨h1, K9, h4⟩ := hfit
 intro E F w hd hi
 have fk : eO fn.ntmps (fD args) (args.toArray ++ Array.replicate (fn.ntmps - args.toArray.size) undef) := by
  refine ⟨by simp; omega, fun i hi => ?_⟩
  unfold fD
  by_cases hl : i < args.length
  ·rw [Array.getElem?_append_left (by simpa using hl)]
   simp [List.getD, hl]
  ·rw [Array.getElem?_append_right (by simpa using Nat.le_of_not_lt hl)]
   have : args[i]? = none := by simpa using Nat.le_of_not_lt hl
   simp only [List.getD, this, Option.getD_none]
   rw [Array.getElem?_replicate, if_pos (by simp; omega)]
 have On : ∀ (tmps : Array Value) (w : World), (results fn tmps).run C.P w = .ok (.tuple #[]) w := by
  intro tmps w
  unfold results
  rw [hres]
  simp only [Array.mapM_eq_mapM_toList, List.mapM_nil]
  rfl
 generalize Xc : ({ dst := some d, op := .call { callee := .builtin .recover, args := #[], argTypes := #[] }, type := t, pos := p, after := as, guard := none } :: rest : List Oper) = ops at hb h1 h
 refine callsD_of_wpS hf hb fun c₀ cs hu => wpS_region ?_
 have yz : match recoverD (c₀ :: cs) with
   | some (v, cs') => v = (iH u).1 ∧ cs' = { c₀ with mode := (iH u).2 } :: cs
   | none => (iH u).1 = .nilIface ∧ c₀ :: cs = { c₀ with mode := (iH u).2 } :: cs := by
  subst hu
  obtain ⟨mode, _⟩ := c₀
  unfold recoverD iH
  dsimp only
  split <;> rename_i heq
  ·split at heq
   ·simp only [Option.some.injEq, Prod.mk.injEq] at heq
    obtain ⟨rfl, rfl⟩ := heq
    rename_i hm; simp only at hm ⊢; refine ⟨?_, ?_⟩ <;> first | rfl | trivial
   ·cases heq
  ·split at heq
   ·cases heq
   ·rename_i hno
    split
    ·rename_i hm; exact absurd rfl (hno _ _)
    ·exact ⟨rfl, rfl⟩
 have CV : List.range ops.toArray.size = 0 :: List.range' 1 rest.length := by
  rw [← Xc]
  simp only [List.size_toArray, List.length_cons, List.range_eq_range', List.range'_succ]
 have fin : ∀ (cs' : List Frame) (v : Value), v = (iH u).1 → cs' = { c₀ with mode := (iH u).2 } :: cs →
   wpOpsS C.P ops.toArray (bodyPostS C.P fn c₀ cs (fun e u' w' => match e with
    | .returned _ => gr E F (K u') w'
    | .panicked c => gr E F (Kp c u') w'
    | .outgrown => False)) (List.range' 1 rest.length) (Act.put { tmps := args.toArray ++ Array.replicate (fn.ntmps - args.toArray.size) undef, defers := [] } (some d) v) cs' w := by
  rintro _ _ rfl rfl
  refine tC (fun hl => by obtain ⟨a0, w0, u', hh⟩ := hl; exact hh) _ _ _ ?_
  rw [wpOps_eq_wpList rest 1 (fun j => by rw [← Xc]; simp [Nat.add_comm 1 j])]
  refine Bi (N := fn.ntmps) (F := F) (Z := fun a => a.defers = []) hC (fun o _ a v hz => by rw [put_defers]; exact hz) (fun o ho => List.all_eq_true.1 h1 o (by simpa using ho)) ?_ rest _ M _ w (fun o ho => by rw [← Xc]; simp [ho]) (fk.put (by intro d' hd'; cases hd'; exact K9) _) (by rw [put_defers]) hd hi h
  refine ⟨fun env M a w g1 g2 g3 g4 hq => ⟨g2, _, rfl, _, On _ _, M, hq, g3, g4⟩, fun ch a w g1 hw => ⟨g1, _, rfl, hw⟩⟩
 rw [CV]
 have hrun : ∀ (ρ : Operand → Value) (o : Oper), o.op = .call { callee := .builtin .recover, args := #[], argTypes := #[] } → (execOp ρ o).run C.P w = .ok .recover w := by
  intro ρ o ho
  unfold execOp
  rw [ho]
  rfl
 have h00 : ops.toArray[0]? = some { dst := some d, op := .call { callee := .builtin .recover, args := #[], argTypes := #[] }, type := t, pos := p, after := as, guard := none } := by rw [← Xc]; rfl
 simp only [wpOpsS]
 rw [h00]
 simp only [Region.wanted, if_true]
 rw [hrun _ _ rfl]
 simp only
 cases hr : recoverD (c₀ :: cs) with
 | some x =>
  obtain ⟨v, cs'⟩ := x
  rw [hr] at yz
  exact fin cs' v yz.1 yz.2
 | none =>
  rw [hr] at yz
  exact fin _ _ yz.1.symm yz.2
def SM (A : Code) (id s d g t1 t2 : Nat) (p1 p2 : String) (a1 a2 : Array Edge) (c : Code) : Code :=
 .seq A (.seq (.region id #[{ dst := some d, op := .makeFunc (.func g) #[] #[.tmp s], type := t1, pos := p1, after := a1, guard := none },
  { dst := none, op := .defer { callee := .value (.tmp d), args := #[], argTypes := #[] }, type := t2, pos := p2, after := a2, guard := none }] false) c)
def Bx (K : Value → Mem → Prop) (Kp : List PanicEntry → Mem → Prop) (y : Value) : FrameMode → Mem → Prop
 | .returning, M => ∃ b v, y = .pointer (some ⟨b, 0, none⟩) ∧ M.ld ⟨b, 0, none⟩ = some (.bool v) ∧ K (.bool v) M
 | .panicking c, M => Kp c M
 | .run, _ => False
def pD (P : Program) (g : FuncId) (x y : Value) (K : Value → Mem → Prop) (Kp : List PanicEntry → Mem → Prop) (u : FrameMode) (M : Mem) : Prop :=
 tB P g #[x] u M (fun u' => Bx K Kp y (settle u')) (fun c u' => Bx K Kp y (raised u' c))
def Oo (P : Program) (g : FuncId) (x : Value) (s : Nat) (K : Value → Mem → Prop) (Kp : List PanicEntry → Mem → Prop) : Wq → (Nat → Value) → Mem → Prop
 | .normal, env, M => pD P g x (env s) K Kp .returning M
 | .ret, env, M => pD P g x (env s) K Kp .returning M
 | .exit _, _, _ => False
theorem Fy {E : qP} {P : Program} {fn : Func} {s t b : Nat} {v : Bool} {tmps : Array Value} {M F : Mem} {w : World} (hres : fn.results = #[.cell s t]) (hu : P.underlying t = some .bool) (hy : tmps.getD s undef = .pointer (some ⟨b, 0, none⟩))
  (hl : M.ld ⟨b, 0, none⟩ = some (.bool v)) (hi : (M.union F).In E w) : (results fn tmps).run P w = .ok (.bool v) w := by
 refine tp P _ hi (mm P _ (fun b o hb => Mem.union_left hb) (?_ : bV P _ M = _))
 unfold results
 rw [hres, Array.mapM_eq_mapM_toList]
 simp only [aZ, KJ, List.mapM_cons, List.mapM_nil]
 rw [hy, show bV P (asAddr (.pointer (some ⟨b, 0, none⟩))) M = some ⟨b, 0, none⟩ from rfl]
 have h2 := qS (P := P) hu rfl hl
 have h3 : bV P (loadVar t ⟨b, 0, none⟩) M = some (.bool v) := h2
 simp only [Option.bind_some, h3, bN, Option.map_some]
 rfl
theorem De {C : Ctx} (hC : C.Good) {f : FuncId} {fn : Func} {A c : Code} {id s d g t1 t2 t : Nat} {p1 p2 : String} {a1 a2 : Array Edge} {args : List Value} {M : Mem} {K : Value → Mem → Prop} {Kp : List PanicEntry → Mem → Prop} (H : List (Nat × Hint))
  (hf : C.P.funcs[f]? = some fn) (hb : fn.body = some (SM A id s d g t1 t2 p1 p2 a1 a2 c)) (hres : fn.results = #[.cell s t]) (hu : C.P.underlying t = some .bool) (hg : 1 < g ∧ g < C.ok)
  (hfit : (fits fn.ntmps A && fits fn.ntmps c && jx s c && decide (d < fn.ntmps ∧ s < fn.ntmps ∧ args.length ≤ fn.ntmps ∧ s ≠ d)) = true)
  (h : eR C H (fun _ _ => False) A 0 (fun e env M => match e with
   | .normal => vu C H (fun ch => pD C.P g (env s) (env s) K Kp (.panicking ch)) c (Oo C.P g (env s) s K Kp) (bD env (some d) (.func (.func g) #[] #[env s])) M
   | _ => False) (fD args) M) : ae C.P f args.toArray M K Kp := by
 simp only [Bool.and_eq_true, decide_eq_true_eq] at hfit
 obtain ⟨⟨⟨h1, h2⟩, h3⟩, K9, qM, h4, hrd⟩ := hfit
 intro E F w hd hi
 have fk : eO fn.ntmps (fD args) (args.toArray ++ Array.replicate (fn.ntmps - args.toArray.size) undef) := by
  refine ⟨by simp; omega, fun i hi => ?_⟩
  unfold fD
  by_cases hl : i < args.length
  ·rw [Array.getElem?_append_left (by simpa using hl)]
   simp [List.getD, hl]
  ·rw [Array.getElem?_append_right (by simpa using Nat.le_of_not_lt hl)]
   have : args[i]? = none := by simpa using Nat.le_of_not_lt hl
   simp only [List.getD, this, Option.getD_none]
   rw [Array.getElem?_replicate, if_pos (by simp; omega)]
 have leave : ∀ (x y : Value) (tmps : Array Value) (u : FrameMode) (M : Mem) (w : World), u ≠ .run → tmps.getD s undef = y → M.dj F → (M.union F).In E w → pD C.P g x y K Kp u M →
   Leaves C.P fn tmps (fun e w' => match e with
    | .returned v => gr E F (K v) w'
    | .panicked c => gr E F (Kp c) w'
    | .outgrown => False) [{ target := .fn (.func g) #[x], args := #[] }] u w := by
  intro x y tmps u M w Wp hy hd hi hl
  have hend : ∀ (u : FrameMode) (w : World), gr E F (Bx K Kp y u) w → Leaves C.P fn tmps (fun e w' => match e with
    | .returned v => gr E F (K v) w'
    | .panicked c => gr E F (Kp c) w'
    | .outgrown => False) [] u w := by
   intro u w hw
   cases u with
   | run => obtain ⟨_, hw, _⟩ := hw; exact hw.elim
   | returning =>
    obtain ⟨M1, ⟨b, v, e1, e2, e3⟩, g1, g2⟩ := hw
    exact ⟨.bool v, Fy hres hu (hy.trans e1) e2 g2, M1, e3, g1, g2⟩
   | panicking ch => exact hw
  refine leaves_cons (f := g) (args := #[x]) Wp ?_ ?_
  ·have qW := hC.1 g hg
   unfold qU at qW
   split at qW
   ·rename_i fg hfg
    simp only [Bool.and_eq_true, Bool.not_eq_true', beq_eq_false_iff_ne, ne_eq] at qW
    have hb : fg.body.isNone = false := by cases hx : fg.body <;> simp_all
    have : bV C.P (invoke (.fn (.func g) #[x]) #[]) Mem.empty = some (.enter g #[x]) := by
     show bV C.P (callFunc g (#[] ++ #[x])) _ = _
     simp only [callFunc, aZ, program, bV, Option.bind_some, hfg]
     have hn : (fg.name == "runtime.NumGoroutine") = false := by simp [qW.1]
     simp only [hn, hb, Bool.false_eq_true, if_false, bN]
     rfl
    exact tp (E := E) C.P _ (M := M.union F) hi (mm C.P _ (fun b o hb => by cases hb) this)
   ·simp at qW
  ·refine (hl E F w hd hi).mono fun e u' w' he => ?_
   cases e with
   | returned _ => exact hend _ _ he
   | panicked c => exact hend _ _ he
   | outgrown => exact he.elim
 refine calls_of_wp_defers hf hb (wp_seq (g7 hC (F := F) (Z := fun a => a.defers = []) A 0 _ _ _ M _ w (fun d _ a v h => by rw [put_defers]; exact h) h1 ⟨?_, ?_, ?_, ?_⟩ fk rfl hd hi h))
 ·intro env M a w _ g1 g2 g3 g4 hq
  have e1 : a.eval (.tmp s) = env s := by
   have := g1.2 s qM
   simp [Act.eval, this]
  refine wp_seq (wp_region_list ?_)
  simp only [wpList, Region.wanted, if_true, Oper.wp]
  refine .inl ?_
  have hmk : ∀ (ρ : Operand → Value) (o : Oper), o.op = .makeFunc (.func g) #[] #[.tmp s] → ρ (.tmp s) = env s → (execOp ρ o).run C.P w = .ok (.value (.func (.func g) #[] #[env s])) w := by
   intro ρ o ho q1
   unfold execOp
   rw [ho]
   simp only [Instr.makeFunc, List.map_toArray, List.map_cons, List.map_nil, q1]
   rfl
  rw [hmk _ _ rfl e1, Oper.upon_value]
  have La : eO fn.ntmps (bD env (some d) (.func (.func g) #[] #[env s])) (a.put (some d) (.func (.func g) #[] #[env s])).tmps := g1.put (by intro d' hd'; cases hd'; exact K9) _
  refine .inl ?_
  have e2 : (a.put (some d) (.func (.func g) #[] #[env s])).eval (.tmp d) = .func (.func g) #[] #[env s] := by
   have := La.2 d K9
   simp [Act.eval, this, iN]
  have hrun : ∀ (ρ : Operand → Value) (o : Oper), o.op = .defer { callee := .value (.tmp d), args := #[], argTypes := #[] } → ρ (.tmp d) = .func (.func g) #[] #[env s] → (execOp ρ o).run C.P w = .ok (.defer { target := .fn (.func g) #[env s], args := #[] }) w := by
   intro ρ o ho h2
   unfold execOp
   rw [ho]
   simp only [resolve, h2, Deferred.ofValue, List.map_toArray, List.map_nil, List.append_toArray, List.append_nil]
   rfl
  rw [hrun _ _ rfl e2]
  show c.wp C.P _ _ w
  have hds : (a.put (some d) (.func (.func g) #[] #[env s])).defers = [] := by rw [put_defers]; exact g2
  have hz : wY [{ target := .fn (.func g) #[env s], args := #[] }] s (env s) { (a.put (some d) (.func (.func g) #[] #[env s])) with defers := { target := .fn (.func g) #[env s], args := #[] } :: (a.put (some d) (.func (.func g) #[] #[env s])).defers } := by
   refine ⟨by rw [hds], ?_⟩
   have := La.2 s qM
   rw [iN, if_neg hrd] at this
   exact this
  refine wZ hC (F := F) (N := fn.ntmps) (s := s) (v := env s) ?_ ?_ ?_ ?_ c _ M _ w h3 h2 La hz g3 g4 hq
  ·intro g6 M1 a1 w1 k1 k2 k3 k4 hq
   show Leaves _ _ _ _ a1.defers .returning w1
   rw [k2]
   exact leave _ _ _ _ M1 w1 (by intro h; cases h) (by have := k1.2 s qM; simp [this]) k3 k4 hq
  ·intro _ _ _ _ _ _ _ _ _ hq; exact hq.elim
  ·intro g6 M1 a1 w1 k1 k2 k3 k4 hq
   show Leaves _ _ _ _ a1.defers .returning w1
   rw [k2]
   exact leave _ _ _ _ M1 w1 (by intro h; cases h) (by have := k1.2 s qM; simp [this]) k3 k4 hq
  ·intro ch a1 w1 k1 hw
   obtain ⟨M1, hq, k3, k4⟩ := hw
   show Leaves _ _ _ _ a1.defers (.panicking ch) w1
   rw [k1.1]
   exact leave _ _ _ _ M1 w1 (by intro h; cases h) (by simp [k1.2]) k3 k4 hq
 ·intro _ _ _ _ _ _ _ _ _ _ hq; exact hq.elim
 ·intro _ _ _ _ _ _ _ _ _ hq; exact hq.elim
 ·intro _ _ _ _ hw; obtain ⟨_, hw, _⟩ := hw; exact hw.elim
def Lb : Code → Array Oper
 | .region _ ops _ => ops
 | _ => #[]
def SN (C : Ctx) (body : Code) (d : Nat) (x : Value) (u : FrameMode) (args : List Value) (M : Mem) (K : FrameMode → Mem → Prop) (Kp : List PanicEntry → FrameMode → Mem → Prop) : Prop :=
 KX C (Lb body) (fun _ M' => K u M') (fun ch => Kp ch u) (Lb body).toList.tail (bD (fD args) (some d) x) M
theorem zz {C : Ctx} (hC : C.Good) {f : FuncId} {fn : Func} {id d t : Nat} {p : String} {as : Array Edge} {args : List Value} {u : FrameMode} {M : Mem} {K : FrameMode → Mem → Prop} {Kp : List PanicEntry → FrameMode → Mem → Prop}
  (hf : C.P.funcs[f]? = some fn) (hb : fn.body = some (.region id ({ dst := some d, op := .call { callee := .builtin .recover, args := #[], argTypes := #[] }, type := t, pos := p, after := as, guard := none } :: (Lb (dJ fn)).toList.tail).toArray false)) (hres : fn.results = #[])
  (hfit : ((({ dst := some d, op := .call { callee := .builtin .recover, args := #[], argTypes := #[] }, type := t, pos := p, after := as, guard := none } :: (Lb (dJ fn)).toList.tail).all (lq fn.ntmps)) && decide (d < fn.ntmps ∧ args.length ≤ fn.ntmps)) = true) {x : Value} {u' : FrameMode} (hx : iH u = (x, u'))
  {vc : Prop} (he : vc = SN C (dJ fn) d x u' args M K Kp) (h : vc) : tB C.P f args.toArray u M K Kp := by
 refine yA hC hf hb hres hfit ?_
 rw [hx]
 subst he
 have hbo : dJ fn = .region id ({ dst := some d, op := .call { callee := .builtin .recover, args := #[], argTypes := #[] }, type := t, pos := p, after := as, guard := none } :: (Lb (dJ fn)).toList.tail).toArray false := by
  unfold dJ
  rw [hb]; rfl
 have hro : Lb (dJ fn) = ({ dst := some d, op := .call { callee := .builtin .recover, args := #[], argTypes := #[] }, type := t, pos := p, after := as, guard := none } :: (Lb (dJ fn)).toList.tail).toArray := by
  conv => lhs; rw [hbo]
  rfl
 unfold SN at h
 rw [← hro]
 exact h
def SO (C : Ctx) (H : List (Nat × Hint)) (body : Code) (s d g : Nat) (args : List Value) (M : Mem) (K : Value → Mem → Prop) (Kp : List PanicEntry → Mem → Prop) : Prop :=
 eR C H (fun _ _ => False) (dA body) 0 (fun e env M => match e with
   | .normal => vu C H (fun ch => pD C.P g (env s) (env s) K Kp (.panicking ch)) (dC body) (Oo C.P g (env s) s K Kp) (bD env (some d) (.func (.func g) #[] #[env s])) M
   | _ => False) (fD args) M
theorem yB {C : Ctx} (hC : C.Good) {f : FuncId} {fn : Func} {id s d g t1 t2 t : Nat} {p1 p2 : String} {a1 a2 : Array Edge} {args : List Value} {M : Mem} {K : Value → Mem → Prop} {Kp : List PanicEntry → Mem → Prop} (H : List (Nat × Hint))
  (hf : C.P.funcs[f]? = some fn) (hb : fn.body = some (SM (dA (dJ fn)) id s d g t1 t2 p1 p2 a1 a2 (dC (dJ fn)))) (hres : fn.results = #[.cell s t]) (hu : C.P.underlying t = some .bool) (hg : 1 < g ∧ g < C.ok)
  (hfit : (fits fn.ntmps (dA (dJ fn)) && fits fn.ntmps (dC (dJ fn)) && jx s (dC (dJ fn)) && decide (d < fn.ntmps ∧ s < fn.ntmps ∧ args.length ≤ fn.ntmps ∧ s ≠ d)) = true)
  {vc : Prop} (he : vc = SO C H (dJ fn) s d g args M K Kp) (h : vc) : ae C.P f args.toArray M K Kp := by
 subst he
 exact De hC H hf hb hres hu hg hfit h
end Go.AF
