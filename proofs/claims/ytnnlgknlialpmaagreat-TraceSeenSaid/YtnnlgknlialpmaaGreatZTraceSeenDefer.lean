/- A part of proofs about one program. -/
import Derived.Test.YtnnlgknlialpmaaGreatZTraceSeenSoundB
import Derived.Recover
set_option linter.unusedVariables false
namespace Go.AF
def yK (P : Program) (f : FuncId) (args : Array Value) (u : FrameMode) (M : Mem) (K : FrameMode → Mem → Prop) (Kp : List PanicEntry → FrameMode → Mem → Prop) : Prop :=
 ∀ (E : s9) (F : Mem) (w : World), M.dj F → (M.union F).In E w → CallsD P f args u w fun e u' w' => match e with
  | .returned _ => gi E F (K u') w'
  | .panicked c => gi E F (Kp c u') w'
  | .outgrown => False
def IA : Code → Bool
 | .ret => true
 | _ => false
def tp (C : Ctx) (H : List (Nat × Hint)) (Kp : List PanicEntry → Mem → Prop) : Code → (Pm → (Nat → Value) → Mem → Prop) → (Nat → Value) → Mem → Prop
 | .seq x y, Q, env, M => bif IA y then dN C H (fun _ _ => False) x 0 (fun e env' M' => match e with
   | .normal => Q .ret env' M'
   | e => Q e env' M') env M
  else dN C H Kp x 0 (fun e env' M' => match e with
   | .normal => tp C H Kp y Q env' M'
   | e => Q e env' M') env M
 | c, Q, env, M => dN C H Kp c 0 Q env M
def iD (s : Nat) : Code → Bool
 | .seq x y => bif IA y then true else !(ke (writes x) s) && iD s y
 | c => !(ke (writes c) s)
def uC (ds : List Deferred) (s : Nat) (v : Value) (a : Act) : Prop := a.defers = ds ∧ a.tmps[s]? = some v
theorem BP {ds : List Deferred} {s : Nat} {v : Value} {ws : List Nat} (hs : ke ws s = false) : ∀ d ∈ ws, ∀ (a : Act) (x : Value), uC ds s v a → uC ds s v (a.put (some d) x) := by
 intro d hd a x ⟨h1, h2⟩
 refine ⟨by rw [put_defers]; exact h1, ?_⟩
 have hne : d ≠ s := by
  rintro rfl
  have := gK.2 hd; rw [hs] at this; cases this
 show (a.put (some d) x).tmps[s]? = _
 simp only [Act.put]
 rw [Array.getElem?_setIfInBounds_ne hne]
 exact h2
variable {E : s9}
theorem uD {C : Ctx} (hC : C.Good) {H : List (Nat × Hint)} {Kp : List PanicEntry → Mem → Prop} {N : Nat} {ds : List Deferred} {s : Nat} {v : Value} {F : Mem}
  {Q : Pm → (Nat → Value) → Mem → Prop} {Q' : Exit → Act → World → Prop}
  (hn : ∀ env M a w, eD N env a.tmps → a.defers = ds → M.dj F → (M.union F).In E w → Q .normal env M → Q' .normal a w)
  (he : ∀ id env M a w, eD N env a.tmps → a.defers = ds → M.dj F → (M.union F).In E w → Q (.exit id) env M → Q' (.exit id) a w)
  (hr : ∀ env M a w, eD N env a.tmps → a.defers = ds → M.dj F → (M.union F).In E w → Q .ret env M → Q' .ret a w)
  (hp : ∀ c a w, uC ds s v a → gi E F (Kp c) w → Q' (.panic c) a w) (c : Code) :
  ∀ (env : Nat → Value) (M : Mem) (a : Act) (w : World), iD s c = true → fits N c = true → eD N env a.tmps → uC ds s v a → M.dj F → (M.union F).In E w → tp C H Kp c Q env M → c.wp C.P Q' a w := by
 have plain : ∀ (c : Code) (env : Nat → Value) (M : Mem) (a : Act) (w : World), ke (writes c) s = false → fits N c = true → eD N env a.tmps → uC ds s v a → M.dj F → (M.union F).In E w → dN C H Kp c 0 Q env M → c.wp C.P Q' a w := by
  intro c env M a w hs hf fy hz hd hi h
  exact gz hC (F := F) (Z := uC ds s v) c 0 _ _ env M a w (BP hs) hf
   ⟨fun env M a w _ g1 g2 g3 g4 hq => hn env M a w g1 g2.1 g3 g4 hq, fun id env M a w _ g1 g2 g3 g4 hq => he id env M a w g1 g2.1 g3 g4 hq, fun env M a w _ g1 g2 g3 g4 hq => hr env M a w g1 g2.1 g3 g4 hq, hp⟩ fy hz hd hi h
 induction c with
 | seq x y ihx XA =>
  intro env M a w hs hf fy hz hd hi h
  simp only [fits, Bool.and_eq_true] at hf
  simp only [iD] at hs
  simp only [tp] at h
  cases hy : IA y with
  | true =>
   rw [hy, Bool.cond_true] at h
   have hy' : y = .ret := by cases y <;> first | rfl | (simp [IA] at hy)
   subst hy'
   refine wp_seq (gz hC (F := F) (Z := fun a => a.defers = ds) x 0 _ _ env M a w (fun d _ a v h => by rw [put_defers]; exact h) hf.1 ⟨?_, ?_, ?_, ?_⟩ fy hz.1 hd hi h)
   ·intro env M a w _ g1 g2 g3 g4 hq
    exact wp_ret (hr env M a w g1 g2 g3 g4 hq)
   ·intro id env M a w _ g1 g2 g3 g4 hq; exact he id env M a w g1 g2 g3 g4 hq
   ·intro env M a w _ g1 g2 g3 g4 hq; exact hr env M a w g1 g2 g3 g4 hq
   ·intro c a w _ hw; obtain ⟨_, hw, _⟩ := hw; exact hw.elim
  | false =>
   rw [hy, Bool.cond_false] at h hs
   simp only [Bool.and_eq_true, Bool.not_eq_true'] at hs
   refine wp_seq (gz hC (F := F) (Z := uC ds s v) x 0 _ _ env M a w (BP hs.1) hf.1 ⟨?_, ?_, ?_, ?_⟩ fy hz hd hi h)
   ·intro env M a w _ g1 g2 g3 g4 hq
    exact XA env M a w hs.2 hf.2 g1 g2 g3 g4 hq
   ·intro id env M a w _ g1 g2 g3 g4 hq; exact he id env M a w g1 g2.1 g3 g4 hq
   ·intro env M a w _ g1 g2 g3 g4 hq; exact hr env M a w g1 g2.1 g3 g4 hq
   ·intro c a w h1 h2; exact hp c a w h1 h2
 | _ => intro env M a w hs hf fy hz hd hi h; exact plain _ env M a w (by simpa [iD] using hs) hf fy hz hd hi h
def atEnd (K : Value → Mem → Prop) (Kp : List PanicEntry → Mem → Prop) (v : Value) : FrameMode → Mem → Prop
 | .returning, M => K v M
 | .panicking c, M => Kp c M
 | .run, _ => False
def cD (P : Program) (g : FuncId) (x : Value) (K : Value → Mem → Prop) (Kp : List PanicEntry → Mem → Prop) (v : Value) (u : FrameMode) (M : Mem) : Prop :=
 yK P g #[x] u M (fun u' => atEnd K Kp v (settle u')) (fun c u' => atEnd K Kp v (raised u' c))
def ME (P : Program) (g : FuncId) (x : Value) (r : Nat) (K : Value → Mem → Prop) (Kp : List PanicEntry → Mem → Prop) : Pm → (Nat → Value) → Mem → Prop
 | .normal, env, M => cD P g x K Kp (env r) .returning M
 | .ret, env, M => cD P g x K Kp (env r) .returning M
 | .exit _, _, _ => False
def MF (A : Code) (id s d g t1 t2 : Nat) (ats : Array TypeId) (p1 p2 : String) (a1 a2 : Array Edge) (c : Code) : Code :=
 .seq A (.seq (.region id #[{ dst := some d, op := .move (.tmp s), type := t1, pos := p1, after := a1, guard := none },
  { dst := none, op := .defer { callee := .value (.func g), args := #[.tmp d], argTypes := ats }, type := t2, pos := p2, after := a2, guard := none }] false) c)
theorem CX {C : Ctx} (hC : C.Good) {f : FuncId} {fn : Func} {A c : Code} {id s d g t1 t2 r : Nat} {ats : Array TypeId} {p1 p2 : String} {a1 a2 : Array Edge} {args : List Value} {M : Mem} {K : Value → Mem → Prop} {Kp : List PanicEntry → Mem → Prop} (H : List (Nat × Hint))
  (hf : C.P.funcs[f]? = some fn) (hb : fn.body = some (MF A id s d g t1 t2 ats p1 p2 a1 a2 c)) (hres : fn.results = #[.tmp r]) (hg : 1 < g ∧ g < C.ok)
  (hfit : (fits fn.ntmps A && fits fn.ntmps c && iD r c && decide (r < fn.ntmps ∧ d < fn.ntmps ∧ s < fn.ntmps ∧ args.length ≤ fn.ntmps ∧ r ≠ d)) = true)
  (h : dN C H (fun _ _ => False) A 0 (fun e env M => match e with
   | .normal => tp C H (fun ch => cD C.P g (env s) K Kp (env r) (.panicking ch)) c (ME C.P g (env s) r K Kp) (bt env (some d) (env s)) M
   | _ => False) (gj args) M) : aa C.P f args.toArray M K Kp := by
 simp only [Bool.and_eq_true, decide_eq_true_eq] at hfit
 obtain ⟨⟨⟨h1, h2⟩, h3⟩, hr, CY, hsl, h4, hrd⟩ := hfit
 intro E F w hd hi
 have fy : eD fn.ntmps (gj args) (args.toArray ++ Array.replicate (fn.ntmps - args.toArray.size) undef) := by
  refine ⟨by simp; omega, fun i hi => ?_⟩
  unfold gj
  by_cases hl : i < args.length
  ·rw [Array.getElem?_append_left (by simpa using hl)]
   simp [List.getD, hl]
  ·rw [Array.getElem?_append_right (by simpa using Nat.le_of_not_lt hl)]
   have : args[i]? = none := by simpa using Nat.le_of_not_lt hl
   simp only [List.getD, this, Option.getD_none]
   rw [Array.getElem?_replicate, if_pos (by simp; omega)]
 have leave : ∀ (x : Value) (tmps : Array Value) (v : Value) (u : FrameMode) (M : Mem) (w : World), u ≠ .run → tmps.getD r undef = v → M.dj F → (M.union F).In E w → cD C.P g x K Kp v u M →
   Leaves C.P fn tmps (fun e w' => match e with
    | .returned v => gi E F (K v) w'
    | .panicked c => gi E F (Kp c) w'
    | .outgrown => False) [{ target := .fn (.func g) #[], args := #[x] }] u w := by
  intro x tmps v u M w hu hv hd hi hl
  have hend : ∀ (u : FrameMode) (w : World), gi E F (atEnd K Kp v u) w → Leaves C.P fn tmps (fun e w' => match e with
    | .returned v => gi E F (K v) w'
    | .panicked c => gi E F (Kp c) w'
    | .outgrown => False) [] u w := by
   intro u w hw
   cases u with
   | run => obtain ⟨_, hw, _⟩ := hw; exact hw.elim
   | returning =>
    refine ⟨v, ?_, hw⟩
    unfold results
    rw [hres]
    simp only [Array.mapM_eq_mapM_toList, List.mapM_cons, List.mapM_nil, hv]
    rfl
   | panicking ch => exact hw
  refine leaves_cons (f := g) (args := #[x]) hu ?_ ?_
  ·have pA := hC.1 g hg
   unfold pz at pA
   split at pA
   ·rename_i fg hfg
    simp only [Bool.and_eq_true, Bool.not_eq_true', beq_eq_false_iff_ne, ne_eq] at pA
    have hb : fg.body.isNone = false := by cases hx : fg.body <;> simp_all
    have : bR C.P (invoke (.fn (.func g) #[]) #[x]) Mem.empty = some (.enter g #[x]) := by
     show bR C.P (callFunc g (#[x] ++ #[])) _ = _
     simp only [callFunc, aR, program, bR, Option.bind_some, hfg]
     have hn : (fg.name == "runtime.NumGoroutine") = false := by simp [pA.1]
     simp only [hn, hb, Bool.false_eq_true, if_false, bI]
     rfl
    exact vW (E := E) C.P _ (M := M.union F) hi (mL C.P _ (fun b o hb => by cases hb) this)
   ·simp at pA
  ·refine (hl E F w hd hi).mono fun e u' w' he => ?_
   cases e with
   | returned _ => exact hend _ _ he
   | panicked c => exact hend _ _ he
   | outgrown => exact he.elim
 refine calls_of_wp_defers hf hb (wp_seq (gz hC (F := F) (Z := fun a => a.defers = []) A 0 _ _ _ M _ w (fun d _ a v h => by rw [put_defers]; exact h) h1 ⟨?_, ?_, ?_, ?_⟩ fy rfl hd hi h))
 ·intro env M a w _ g1 g2 g3 g4 hq
  have e1 : a.eval (.tmp s) = env s := by
   have := g1.2 s hsl
   simp [Act.eval, this]
  refine wp_seq (wp_region_list ?_)
  simp only [wpList, Region.wanted, if_true, Oper.wp, execOp]
  refine .inl ?_
  show (Oper.upon C.P _ a _ _ (.ok (.value (a.eval (.tmp s))) w))
  rw [Oper.upon_value, e1]
  have GH : eD fn.ntmps (bt env (some d) (env s)) (a.put (some d) (env s)).tmps := g1.put (by intro d' hd'; cases hd'; exact CY) _
  refine .inl ?_
  have e2 : (a.put (some d) (env s)).eval (.tmp d) = env s := by
   have := GH.2 d CY
   simp [Act.eval, this, g6]
  have hrun : ∀ (ρ : Operand → Value), ρ (.func g) = .func (.func g) #[] #[] → ρ (.tmp d) = env s → Sem.run C.P (do
    let x ← resolve ρ { callee := .value (.func g), args := #[.tmp d], argTypes := ats } t2
    pure (Next.defer x)) w = .ok (.defer { target := .fn (.func g) #[], args := #[env s] }) w := by
   intro ρ h1 h2
   unfold resolve
   simp only [h1, Deferred.ofValue, List.map_toArray, List.map_cons, List.map_nil, h2]
   rfl
  show (Oper.upon C.P _ (a.put (some d) (env s)) _ _ (Sem.run C.P (do
    let x ← resolve (a.put (some d) (env s)).eval { callee := .value (.func g), args := #[.tmp d], argTypes := ats } t2
    pure (Next.defer x)) w))
  rw [hrun _ rfl e2]
  show c.wp C.P _ _ w
  have hds : (a.put (some d) (env s)).defers = [] := by rw [put_defers]; exact g2
  have hz : uC [{ target := .fn (.func g) #[], args := #[env s] }] r (env r) { (a.put (some d) (env s)) with defers := { target := .fn (.func g) #[], args := #[env s] } :: (a.put (some d) (env s)).defers } := by
   refine ⟨by rw [hds], ?_⟩
   have := GH.2 r hr
   rw [g6, if_neg hrd] at this
   exact this
  refine uD hC (F := F) (N := fn.ntmps) (s := r) (v := env r) ?_ ?_ ?_ ?_ c _ M _ w h3 h2 GH hz g3 g4 hq
  ·intro gy M1 a1 w1 k1 k2 k3 k4 hq
   show Leaves _ _ _ _ a1.defers .returning w1
   rw [k2]
   exact leave _ _ _ _ M1 w1 (by intro h; cases h) (by have := k1.2 r hr; simp [this]) k3 k4 hq
  ·intro _ _ _ _ _ _ _ _ _ hq; exact hq.elim
  ·intro gy M1 a1 w1 k1 k2 k3 k4 hq
   show Leaves _ _ _ _ a1.defers .returning w1
   rw [k2]
   exact leave _ _ _ _ M1 w1 (by intro h; cases h) (by have := k1.2 r hr; simp [this]) k3 k4 hq
  ·intro ch a1 w1 k1 hw
   obtain ⟨M1, hq, k3, k4⟩ := hw
   show Leaves _ _ _ _ a1.defers (.panicking ch) w1
   rw [k1.1]
   exact leave _ _ _ _ M1 w1 (by intro h; cases h) (by simp [k1.2]) k3 k4 hq
 ·intro _ _ _ _ _ _ _ _ _ _ hq; exact hq.elim
 ·intro _ _ _ _ _ _ _ _ _ hq; exact hq.elim
 ·intro _ _ _ _ hw; obtain ⟨_, hw, _⟩ := hw; exact hw.elim
def pL : FrameMode → Value × FrameMode
 | .panicking ({ v, recovered := false, goexit := false } :: older) => (v, .panicking ({ v, recovered := true } :: older))
 | u => (.nilIface, u)
def XX (u : FrameMode) (K : FrameMode → Mem → Prop) : Pm → (Nat → Value) → Mem → Prop
 | .normal, _, M => K u M
 | .ret, _, M => K u M
 | .exit _, _, _ => False
theorem yc {C : Ctx} (hC : C.Good) {f : FuncId} {fn : Func} {c : Code} {id d t : Nat} {p : String} {as : Array Edge} {args : List Value} {u : FrameMode} {M : Mem} {K : FrameMode → Mem → Prop} {Kp : List PanicEntry → FrameMode → Mem → Prop} (H : List (Nat × Hint))
  (hf : C.P.funcs[f]? = some fn) (hb : fn.body = some (.seq (.region id #[{ dst := some d, op := .call { callee := .builtin .recover, args := #[], argTypes := #[] }, type := t, pos := p, after := as, guard := none }] false) c)) (hres : fn.results = #[])
  (hfit : (fits fn.ntmps c && decide (d < fn.ntmps ∧ args.length ≤ fn.ntmps)) = true)
  (h : dN C H (fun ch => Kp ch (pL u).2) c 0 (XX (pL u).2 K) (bt (gj args) (some d) (pL u).1) M) : yK C.P f args.toArray u M K Kp := by
 simp only [Bool.and_eq_true, decide_eq_true_eq] at hfit
 obtain ⟨h1, CY, h4⟩ := hfit
 intro E F w hd hi
 have fy : eD fn.ntmps (gj args) (args.toArray ++ Array.replicate (fn.ntmps - args.toArray.size) undef) := by
  refine ⟨by simp; omega, fun i hi => ?_⟩
  unfold gj
  by_cases hl : i < args.length
  ·rw [Array.getElem?_append_left (by simpa using hl)]
   simp [List.getD, hl]
  ·rw [Array.getElem?_append_right (by simpa using Nat.le_of_not_lt hl)]
   have : args[i]? = none := by simpa using Nat.le_of_not_lt hl
   simp only [List.getD, this, Option.getD_none]
   rw [Array.getElem?_replicate, if_pos (by simp; omega)]
 have Sy : ∀ (tmps : Array Value) (w : World), (results fn tmps).run C.P w = .ok (.tuple #[]) w := by
  intro tmps w
  unfold results
  rw [hres]
  simp only [Array.mapM_eq_mapM_toList, List.mapM_nil]
  rfl
 refine callsD_of_wpS hf hb fun c₀ cs hu => wpS_seq (wpS_region ?_)
 have J2 : match recoverD (c₀ :: cs) with
   | some (v, cs') => v = (pL u).1 ∧ cs' = { c₀ with mode := (pL u).2 } :: cs
   | none => (pL u).1 = .nilIface ∧ c₀ :: cs = { c₀ with mode := (pL u).2 } :: cs := by
  subst hu
  obtain ⟨mode, _⟩ := c₀
  unfold recoverD pL
  dsimp only
  split <;> rename_i heq
  ·split at heq
   ·simp only [Option.some.injEq, Prod.mk.injEq] at heq
    obtain ⟨rfl, rfl⟩ := heq
    rename_i hm; simp only at hm ⊢; refine ⟨?_, ?_⟩ <;> first | rfl | trivial
   ·cases heq
  ·split at heq
   ·cases heq
   ·rename_i hno
    split
    ·rename_i hm; exact absurd rfl (hno _ _)
    ·exact ⟨rfl, rfl⟩
 have fin : ∀ (cs' : List Frame) (v : Value), v = (pL u).1 → cs' = { c₀ with mode := (pL u).2 } :: cs →
   c.wpS C.P (bodyPostS C.P fn c₀ cs (fun e u' w' => match e with
    | .returned _ => gi E F (K u') w'
    | .panicked c => gi E F (Kp c u') w'
    | .outgrown => False)) (Act.put { tmps := args.toArray ++ Array.replicate (fn.ntmps - args.toArray.size) undef, defers := [] } (some d) v) cs' w := by
  rintro _ _ rfl rfl
  refine wpS_of_wp (gz hC (F := F) (Z := fun a => a.defers = []) c 0 _ _ _ M _ w (fun d _ a v h => by rw [put_defers]; exact h) h1 ⟨?_, ?_, ?_, ?_⟩ (fy.put (by intro d' hd'; cases hd'; exact CY) _) (by rw [put_defers]) hd hi h)
  ·intro env M a w _ g1 g2 g3 g4 hq
   exact ⟨g2, _, rfl, _, Sy _ _, M, hq, g3, g4⟩
  ·intro _ _ _ _ _ _ _ _ _ _ hq; exact hq.elim
  ·intro env M a w _ g1 g2 g3 g4 hq
   exact ⟨g2, _, rfl, _, Sy _ _, M, hq, g3, g4⟩
  ·intro ch a w g1 hw
   exact ⟨g1, _, rfl, hw⟩
 have hrun : ∀ (ρ : Operand → Value) (o : Oper), o.op = .call { callee := .builtin .recover, args := #[], argTypes := #[] } → (execOp ρ o).run C.P w = .ok .recover w := by
  intro ρ o ho
  unfold execOp
  rw [ho]
  rfl
 show wpOpsS C.P _ _ [0] _ _ w
 simp only [wpOpsS]
 simp only [List.getElem?_toArray, List.getElem?_cons_zero, Region.wanted, if_true]
 rw [hrun _ _ rfl]
 simp only
 cases hr : recoverD (c₀ :: cs) with
 | some x =>
  obtain ⟨v, cs'⟩ := x
  rw [hr] at J2
  exact fin cs' v J2.1 J2.2
 | none =>
  rw [hr] at J2
  exact fin _ _ J2.1.symm J2.2
def dA : Code → Code
 | .seq A _ => A
 | c => c
def dC : Code → Code
 | .seq _ (.seq _ c) => c
 | c => c
def dR : Code → Code
 | .seq _ c => c
 | c => c
def P8 (C : Ctx) (H : List (Nat × Hint)) (body : Code) (s d g r : Nat) (args : List Value) (M : Mem) (K : Value → Mem → Prop) (Kp : List PanicEntry → Mem → Prop) : Prop :=
 dN C H (fun _ _ => False) (dA body) 0 (fun e env M => match e with
   | .normal => tp C H (fun ch => cD C.P g (env s) K Kp (env r) (.panicking ch)) (dC body) (ME C.P g (env s) r K Kp) (bt env (some d) (env s)) M
   | _ => False) (gj args) M
def XY (C : Ctx) (H : List (Nat × Hint)) (body : Code) (d : Nat) (x : Value) (u : FrameMode) (args : List Value) (M : Mem) (K : FrameMode → Mem → Prop) (Kp : List PanicEntry → FrameMode → Mem → Prop) : Prop :=
 dN C H (fun ch => Kp ch u) (dR body) 0 (XX u K) (bt (gj args) (some d) x) M
theorem yd {C : Ctx} (hC : C.Good) {f : FuncId} {fn : Func} {id s d g t1 t2 r : Nat} {ats : Array TypeId} {p1 p2 : String} {a1 a2 : Array Edge} {args : List Value} {M : Mem} {K : Value → Mem → Prop} {Kp : List PanicEntry → Mem → Prop} (H : List (Nat × Hint))
  (hf : C.P.funcs[f]? = some fn) (hb : fn.body = some (MF (dA (fj fn)) id s d g t1 t2 ats p1 p2 a1 a2 (dC (fj fn)))) (hres : fn.results = #[.tmp r]) (hg : 1 < g ∧ g < C.ok)
  (hfit : (fits fn.ntmps (dA (fj fn)) && fits fn.ntmps (dC (fj fn)) && iD r (dC (fj fn)) && decide (r < fn.ntmps ∧ d < fn.ntmps ∧ s < fn.ntmps ∧ args.length ≤ fn.ntmps ∧ r ≠ d)) = true)
  {vc : Prop} (he : vc = P8 C H (fj fn) s d g r args M K Kp) (h : vc) : aa C.P f args.toArray M K Kp :=
 by
 subst he
 exact CX hC H hf hb hres hg hfit h
theorem fQ {C : Ctx} (hC : C.Good) {f : FuncId} {fn : Func} {id d t : Nat} {p : String} {as : Array Edge} {args : List Value} {u : FrameMode} {M : Mem} {K : FrameMode → Mem → Prop} {Kp : List PanicEntry → FrameMode → Mem → Prop} (H : List (Nat × Hint))
  (hf : C.P.funcs[f]? = some fn) (hb : fn.body = some (.seq (.region id #[{ dst := some d, op := .call { callee := .builtin .recover, args := #[], argTypes := #[] }, type := t, pos := p, after := as, guard := none }] false) (dR (fj fn)))) (hres : fn.results = #[])
  (hfit : (fits fn.ntmps (dR (fj fn)) && decide (d < fn.ntmps ∧ args.length ≤ fn.ntmps)) = true) {x : Value} {u' : FrameMode} (hx : pL u = (x, u'))
  {vc : Prop} (he : vc = XY C H (fj fn) d x u' args M K Kp) (h : vc) : yK C.P f args.toArray u M K Kp := by
 refine yc hC H hf hb hres hfit ?_
 rw [hx]
 subst he
 exact h
end Go.AF
