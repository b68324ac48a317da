/- A part of proofs about one program. -/
import Derived.Test.YtnnlgknlialpmaaGreatZFairBoundRegC
import Derived.Scope
set_option linter.unusedVariables false
namespace Go.AF
inductive Hint where
 | bR (eY : List Nat) (t : Ex)
 | JS (eY : List Nat) (t : Ex) (live : List (Nat × AI))
 | loop (live : List (Nat × AI))
 | cut (live : List (Nat × AI))
def Ei : List (Nat × Hint) → Nat → Option Hint
 | [], _ => none
 | (k, h) :: l, i => bif Nat.beq k i then some h else Ei l i
def look : List (Nat × Value) → Nat → Value → Value
 | [], _, d => d
 | (k, v) :: l, i, d => bif Nat.beq i k then v else look l i d
def jS : List Nat → Nat → Bool
 | [], _ => false
 | k :: l, i => bif Nat.beq i k then true else jS l i
def Qf (c : Bx) (K : Value → Prop) : Prop :=
 match c with
 | .int k => ∀ n, K (.int k n)
 | .bool => ∀ b, K (.bool b)
 | .str => ∀ s, K (.string s)
 | .ptr => ∀ p, K (.pointer p)
 | .sl => ∀ A n c, K (.slice A n c)
 | .val => ∀ v, K v
def Ik : List Bx → (List Value → Prop) → Prop
 | [], K => K []
 | c :: cs, K => Qf c fun v => Ik cs fun vs => K (v :: vs)
def Il : AI → (Value → Prop) → Prop
 | .c c, K => Qf c K
 | .a l, K => Ik l fun vs => K (.agg vs.toArray)
 | .b n, K => ∀ l : List Value, l.length = n → K (.agg l.toArray)
def Im : List (Nat × AI) → (List (Nat × Value) → Prop) → Prop
 | [], K => K []
 | (s, c) :: l, K => Il c fun v => Im l fun vs => K ((s, v) :: vs)
def Gh (c : AI) (v : Value) (K : Value → Prop) : Prop :=
 match c with
 | .c c => DU c (some v) K
 | .a l => match v with
  | .agg cs => FX l cs.toList fun vs => K (.agg vs.toArray)
  | _ => False
 | .b n => match v with
  | .agg cs => cs.toList.length = n ∧ K (.agg cs)
  | _ => False
def gN (env : Nat → Value) : List (Nat × AI) → (List Value → Prop) → Prop
 | [], K => K []
 | (s, c) :: l, K => Gh c (env s) fun v => gN env l fun vs => K (v :: vs)
def newEnv (env JT : Nat → Value) (ws : List Nat) (l : List (Nat × Value)) : Nat → Value :=
 fun i => look l i (bif jS ws i then JT i else env i)
def iI (ops : Array Oper) : List Nat := ops.toList.filterMap (·.dst)
def writes : Code → List Nat
 | .region _ ops _ => iI ops
 | .seq a b => writes a ++ writes b
 | .cond _ a b => writes a ++ writes b
 | .block _ c => writes c
 | .loop c => writes c
 | .scope c => writes c
 | _ => []
inductive PC where
 | normal
 | exit (id : Nat)
 | ret
def wS (c : Operand) (b : Bool) (env : Nat → Value) : Nat → Value := match c with
 | .tmp s => bl env (some s) (.bool b)
 | _ => env
def meet (env : Nat → Value) (ws : List Nat) (live : List (Nat × AI)) (J : List Value → Mem → Prop) (Q : (Nat → Value) → Mem → Prop) : Prop :=
 ∀ JT : Nat → Value, Im live fun l => ∀ M, J (l.map (·.2)) M → Q (newEnv env JT ws l) M
def Qg : Operand → Nat
 | .tmp t => 3000000 + t
 | _ => 0
def dI (C : Ctx) (H : List (Nat × Hint)) (Kp : List PanicEntry → Mem → Prop) : Code → Nat → (PC → (Nat → Value) → Mem → Prop) → (Nat → Value) → Mem → Prop
 | .skip, _, Q, env, M => Q .normal env M
 | .label _, _, Q, env, M => Q .normal env M
 | .region id ops draw, _, Q, env, M =>
  if draw then match Ei H id with
   | some (.bR eY t) => bif om ops eY then sG C ops eY (fun env' M' => Q .normal env' M') Kp t [] 0 0 env M else False
   | some (.JS eY t live) => bif om ops eY then
     ∃ J : List Value → Mem → Prop, sG C ops eY (fun env' M' => gN env' live fun vs => J vs M') Kp t [] 0 0 env M ∧ meet env (iI ops) live J (Q .normal)
    else False
   | _ => False
  else TJ C ops (fun env' M' => Q .normal env' M') Kp ops.toList env M
 | .seq a b, oV, Q, env, M => dI C H Kp a oV (fun e env' M' => match e with
   | .normal => dI C H Kp b oV Q env' M'
   | e => Q e env' M') env M
 | .cond c x y, oV, Q, env, M => match Ei H (Qg c) with
   | some (.cut live) => ∃ J : List Value → Mem → Prop, (match oU env c with
     | .bool e => aO e (dI C H Kp x oV (fun e env' M' => match e with | .normal => gN env' live fun vs => J vs M' | e => Q e env' M') (wS c true env) M)
       (dI C H Kp y oV (fun e env' M' => match e with | .normal => gN env' live fun vs => J vs M' | e => Q e env' M') (wS c false env) M)
     | _ => False) ∧ meet env (writes x ++ writes y) live J (Q .normal)
   | _ => match oU env c with
    | .bool e => aO e (dI C H Kp x oV Q (wS c true env) M) (dI C H Kp y oV Q (wS c false env) M)
    | _ => False
 | .block id c, _, Q, env, M => match Ei H (1000000 + id) with
   | some (.cut live) => ∃ J : List Value → Mem → Prop,
     dI C H Kp c id (fun e env' M' => match e with
      | .exit i => bif Nat.beq i id then gN env' live fun vs => J vs M' else Q (.exit i) env' M'
      | .normal => gN env' live fun vs => J vs M'
      | e => Q e env' M') env M ∧ meet env (writes c) live J (Q .normal)
   | _ => dI C H Kp c id (fun e env' M' => match e with
      | .exit i => bif Nat.beq i id then Q .normal env' M' else Q (.exit i) env' M'
      | e => Q e env' M') env M
 | .loop c, oV, Q, env, M => match Ei H (2000000 + oV) with
   | some (.loop live) => ∃ I : Nat → List Value → Mem → Prop,
     (gN env live fun vs => ∃ n, I n vs M) ∧
     ∀ n, meet env (writes c) live (I n) fun uc M0 => dI C H Kp c oV (fun e env' M' => match e with
      | .normal => gN env' live fun vs => ∃ m, m < n ∧ I m vs M'
      | e => Q e env' M') uc M0
   | _ => False
 | .exit id, _, Q, env, M => Q (.exit id) env M
 | .scope c, oV, Q, env, M => dI C H Kp c oV Q env M
 | .ret, _, Q, env, M => Q .ret env M
 | .goto _, _, _, _, _ => False
 | .rangeFunc .., _, _, _, _ => False
 | .refuse _, _, _, _, _ => False
def fits (n : Nat) : Code → Bool
 | .region _ ops _ => ops.toList.all (nx n)
 | .seq a b => fits n a && fits n b
 | .cond c a b => (match c with | .tmp t => decide (t < n) | _ => true) && fits n a && fits n b
 | .block _ c => fits n c
 | .loop c => fits n c
 | .scope c => fits n c
 | .rangeFunc .. => false
 | _ => true
end Go.AF
