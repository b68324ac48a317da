/- A part of proofs about one program. -/
import Derived.Test.YtnnlgknlialpmaaGreatZTraceSeenDefer
set_option linter.unusedVariables false
namespace Go.AF
def j0 (P : Program) (g : FuncId) (xs : List Value) (K : Value → Mem → Prop) (Kp : List PanicEntry → Mem → Prop) (v : Value) (u : FrameMode) (M : Mem) : Prop :=
 yK P g xs.toArray u M (fun u' => atEnd K Kp v (settle u')) (fun c u' => atEnd K Kp v (raised u' c))
def MG (A : Code) (id s1 s2 d g t1 t2 : Nat) (p1 p2 : String) (a1 a2 : Array Edge) (c : Code) : Code :=
 .seq A (.seq (.region id #[{ dst := some d, op := .makeFunc (.func g) #[] #[.tmp s1, .tmp s2], type := t1, pos := p1, after := a1, guard := none },
  { dst := none, op := .defer { callee := .value (.tmp d), args := #[], argTypes := #[] }, type := t2, pos := p2, after := a2, guard := none }] false) c)
def IB (P : Program) (g : FuncId) (xs : List Value) (K : Value → Mem → Prop) (Kp : List PanicEntry → Mem → Prop) : Pm → (Nat → Value) → Mem → Prop
 | .normal, _, M => j0 P g xs K Kp (.tuple #[]) .returning M
 | .ret, _, M => j0 P g xs K Kp (.tuple #[]) .returning M
 | .exit _, _, _ => False
theorem AS {C : Ctx} (hC : C.Good) {f : FuncId} {fn : Func} {A c : Code} {id s1 s2 d g t1 t2 r : Nat} {p1 p2 : String} {a1 a2 : Array Edge} {args : List Value} {M : Mem} {K : Value → Mem → Prop} {Kp : List PanicEntry → Mem → Prop} (H : List (Nat × Hint))
  (hf : C.P.funcs[f]? = some fn) (hb : fn.body = some (MG A id s1 s2 d g t1 t2 p1 p2 a1 a2 c)) (hres : fn.results = #[]) (hg : 1 < g ∧ g < C.ok)
  (hfit : (fits fn.ntmps A && fits fn.ntmps c && iD r c && decide (r < fn.ntmps ∧ d < fn.ntmps ∧ s1 < fn.ntmps ∧ s2 < fn.ntmps ∧ args.length ≤ fn.ntmps ∧ r ≠ d)) = true)
  (h : dN C H (fun _ _ => False) A 0 (fun e env M => match e with
   | .normal => tp C H (fun ch => j0 C.P g [env s1, env s2] K Kp (.tuple #[]) (.panicking ch)) c (IB C.P g [env s1, env s2] K Kp) (bt env (some d) (.func (.func g) #[] #[env s1, env s2])) M
   | _ => False) (gj args) M) : aa C.P f args.toArray M K Kp := by
 simp only [Bool.and_eq_true, decide_eq_true_eq] at hfit
 obtain ⟨⟨⟨h1, h2⟩, h3⟩, hr, CY, vD, hs2, h4, hrd⟩ := hfit
 intro E F w hd hi
 have fy : eD fn.ntmps (gj args) (args.toArray ++ Array.replicate (fn.ntmps - args.toArray.size) undef) := by
  refine ⟨by simp; omega, fun i hi => ?_⟩
  unfold gj
  by_cases hl : i < args.length
  ·rw [Array.getElem?_append_left (by simpa using hl)]
   simp [List.getD, hl]
  ·rw [Array.getElem?_append_right (by simpa using Nat.le_of_not_lt hl)]
   have : args[i]? = none := by simpa using Nat.le_of_not_lt hl
   simp only [List.getD, this, Option.getD_none]
   rw [Array.getElem?_replicate, if_pos (by simp; omega)]
 have leave : ∀ (x y : Value) (tmps : Array Value) (u : FrameMode) (M : Mem) (w : World), u ≠ .run → M.dj F → (M.union F).In E w → j0 C.P g [x, y] K Kp (.tuple #[]) u M →
   Leaves C.P fn tmps (fun e w' => match e with
    | .returned v => gi E F (K v) w'
    | .panicked c => gi E F (Kp c) w'
    | .outgrown => False) [{ target := .fn (.func g) #[x, y], args := #[] }] u w := by
  intro x y tmps u M w hu hd hi hl
  have hend : ∀ (u : FrameMode) (w : World), gi E F (atEnd K Kp (.tuple #[]) u) w → Leaves C.P fn tmps (fun e w' => match e with
    | .returned v => gi E F (K v) w'
    | .panicked c => gi E F (Kp c) w'
    | .outgrown => False) [] u w := by
   intro u w hw
   cases u with
   | run => obtain ⟨_, hw, _⟩ := hw; exact hw.elim
   | returning =>
    refine ⟨.tuple #[], ?_, hw⟩
    unfold results
    rw [hres]
    simp only [Array.mapM_eq_mapM_toList, List.mapM_nil]
    rfl
   | panicking ch => exact hw
  refine leaves_cons (f := g) (args := #[x, y]) hu ?_ ?_
  ·have pA := hC.1 g hg
   unfold pz at pA
   split at pA
   ·rename_i fg hfg
    simp only [Bool.and_eq_true, Bool.not_eq_true', beq_eq_false_iff_ne, ne_eq] at pA
    have hb : fg.body.isNone = false := by cases hx : fg.body <;> simp_all
    have : bR C.P (invoke (.fn (.func g) #[x, y]) #[]) Mem.empty = some (.enter g #[x, y]) := by
     show bR C.P (callFunc g (#[] ++ #[x, y])) _ = _
     simp only [callFunc, aR, program, bR, Option.bind_some, hfg]
     have hn : (fg.name == "runtime.NumGoroutine") = false := by simp [pA.1]
     simp only [hn, hb, Bool.false_eq_true, if_false, bI]
     rfl
    exact vW (E := E) C.P _ (M := M.union F) hi (mL C.P _ (fun b o hb => by cases hb) this)
   ·simp at pA
  ·refine (hl E F w hd hi).mono fun e u' w' he => ?_
   cases e with
   | returned _ => exact hend _ _ he
   | panicked c => exact hend _ _ he
   | outgrown => exact he.elim
 refine calls_of_wp_defers hf hb (wp_seq (gz hC (F := F) (Z := fun a => a.defers = []) A 0 _ _ _ M _ w (fun d _ a v h => by rw [put_defers]; exact h) h1 ⟨?_, ?_, ?_, ?_⟩ fy rfl hd hi h))
 ·intro env M a w _ g1 g2 g3 g4 hq
  have e1 : a.eval (.tmp s1) = env s1 := by
   have := g1.2 s1 vD
   simp [Act.eval, this]
  have e1' : a.eval (.tmp s2) = env s2 := by
   have := g1.2 s2 hs2
   simp [Act.eval, this]
  refine wp_seq (wp_region_list ?_)
  simp only [wpList, Region.wanted, if_true, Oper.wp]
  refine .inl ?_
  have hmk : ∀ (ρ : Operand → Value) (o : Oper), o.op = .makeFunc (.func g) #[] #[.tmp s1, .tmp s2] → ρ (.tmp s1) = env s1 → ρ (.tmp s2) = env s2 → (execOp ρ o).run C.P w = .ok (.value (.func (.func g) #[] #[env s1, env s2])) w := by
   intro ρ o ho q1 q2
   unfold execOp
   rw [ho]
   simp only [Instr.makeFunc, List.map_toArray, List.map_cons, List.map_nil, q1, q2]
   rfl
  rw [hmk _ _ rfl e1 e1', Oper.upon_value]
  have GH : eD fn.ntmps (bt env (some d) (.func (.func g) #[] #[env s1, env s2])) (a.put (some d) (.func (.func g) #[] #[env s1, env s2])).tmps := g1.put (by intro d' hd'; cases hd'; exact CY) _
  refine .inl ?_
  have e2 : (a.put (some d) (.func (.func g) #[] #[env s1, env s2])).eval (.tmp d) = .func (.func g) #[] #[env s1, env s2] := by
   have := GH.2 d CY
   simp [Act.eval, this, g6]
  have hrun : ∀ (ρ : Operand → Value) (o : Oper), o.op = .defer { callee := .value (.tmp d), args := #[], argTypes := #[] } → ρ (.tmp d) = .func (.func g) #[] #[env s1, env s2] → (execOp ρ o).run C.P w = .ok (.defer { target := .fn (.func g) #[env s1, env s2], args := #[] }) w := by
   intro ρ o ho h2
   unfold execOp
   rw [ho]
   simp only [resolve, h2, Deferred.ofValue, List.map_toArray, List.map_nil, List.append_toArray, List.append_nil]
   rfl
  rw [hrun _ _ rfl e2]
  show c.wp C.P _ _ w
  have hds : (a.put (some d) (.func (.func g) #[] #[env s1, env s2])).defers = [] := by rw [put_defers]; exact g2
  have hz : uC [{ target := .fn (.func g) #[env s1, env s2], args := #[] }] r (env r) { (a.put (some d) (.func (.func g) #[] #[env s1, env s2])) with defers := { target := .fn (.func g) #[env s1, env s2], args := #[] } :: (a.put (some d) (.func (.func g) #[] #[env s1, env s2])).defers } := by
   refine ⟨by rw [hds], ?_⟩
   have := GH.2 r hr
   rw [g6, if_neg hrd] at this
   exact this
  refine uD hC (F := F) (N := fn.ntmps) (s := r) (v := env r) ?_ ?_ ?_ ?_ c _ M _ w h3 h2 GH hz g3 g4 hq
  ·intro gy M1 a1 w1 k1 k2 k3 k4 hq
   show Leaves _ _ _ _ a1.defers .returning w1
   rw [k2]
   exact leave _ _ _ _ M1 w1 (by intro h; cases h) k3 k4 hq
  ·intro _ _ _ _ _ _ _ _ _ hq; exact hq.elim
  ·intro gy M1 a1 w1 k1 k2 k3 k4 hq
   show Leaves _ _ _ _ a1.defers .returning w1
   rw [k2]
   exact leave _ _ _ _ M1 w1 (by intro h; cases h) k3 k4 hq
  ·intro ch a1 w1 k1 hw
   obtain ⟨M1, hq, k3, k4⟩ := hw
   show Leaves _ _ _ _ a1.defers (.panicking ch) w1
   rw [k1.1]
   exact leave _ _ _ _ M1 w1 (by intro h; cases h) k3 k4 hq
 ·intro _ _ _ _ _ _ _ _ _ _ hq; exact hq.elim
 ·intro _ _ _ _ _ _ _ _ _ hq; exact hq.elim
 ·intro _ _ _ _ hw; obtain ⟨_, hw, _⟩ := hw; exact hw.elim
def MH (C : Ctx) (H : List (Nat × Hint)) (body : Code) (s1 s2 d g : Nat) (args : List Value) (M : Mem) (K : Value → Mem → Prop) (Kp : List PanicEntry → Mem → Prop) : Prop :=
 dN C H (fun _ _ => False) (dA body) 0 (fun e env M => match e with
   | .normal => tp C H (fun ch => j0 C.P g [env s1, env s2] K Kp (.tuple #[]) (.panicking ch)) (dC body) (IB C.P g [env s1, env s2] K Kp) (bt env (some d) (.func (.func g) #[] #[env s1, env s2])) M
   | _ => False) (gj args) M
theorem wv {C : Ctx} (hC : C.Good) {f : FuncId} {fn : Func} {id s1 s2 d g t1 t2 r : Nat} {p1 p2 : String} {a1 a2 : Array Edge} {args : List Value} {M : Mem} {K : Value → Mem → Prop} {Kp : List PanicEntry → Mem → Prop} (H : List (Nat × Hint))
  (hf : C.P.funcs[f]? = some fn) (hb : fn.body = some (MG (dA (fj fn)) id s1 s2 d g t1 t2 p1 p2 a1 a2 (dC (fj fn)))) (hres : fn.results = #[]) (hg : 1 < g ∧ g < C.ok)
  (hfit : (fits fn.ntmps (dA (fj fn)) && fits fn.ntmps (dC (fj fn)) && iD r (dC (fj fn)) && decide (r < fn.ntmps ∧ d < fn.ntmps ∧ s1 < fn.ntmps ∧ s2 < fn.ntmps ∧ args.length ≤ fn.ntmps ∧ r ≠ d)) = true)
  {vc : Prop} (he : vc = MH C H (fj fn) s1 s2 d g args M K Kp) (h : vc) : aa C.P f args.toArray M K Kp := by
 subst he
 exact AS hC H hf hb hres hg hfit h
end Go.AF
