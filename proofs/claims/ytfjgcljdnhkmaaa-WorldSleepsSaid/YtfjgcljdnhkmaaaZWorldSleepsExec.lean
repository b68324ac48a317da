/- A part of proofs about one program. -/
import Derived.Test.YtfjgcljdnhkmaaaZWorldSleepsRegC
import Derived.Scope
set_option linter.unusedVariables false
namespace Go.AF
inductive Hint where
 | bL (cV : List Nat) (t : Ex)
 | CP (cV : List Nat) (t : Ex) (live : List (Nat × rZ))
 | loop (live : List (Nat × rZ))
 | cut (live : List (Nat × rZ))
def vl : List (Nat × Hint) → Nat → Option Hint
 | [], _ => none
 | (k, h) :: l, i => bif Nat.beq k i then some h else vl l i
def look : List (Nat × Value) → Nat → Value → Value
 | [], _, d => d
 | (k, v) :: l, i, d => bif Nat.beq i k then v else look l i d
def fR : List Nat → Nat → Bool
 | [], _ => false
 | k :: l, i => bif Nat.beq i k then true else fR l i
def CQ (c : sC) (K : Value → Prop) : Prop :=
 match c with
 | .int k => ∀ n, K (.int k n)
 | .bool => ∀ b, K (.bool b)
 | .str => ∀ s, K (.string s)
 | .ptr => ∀ p, K (.pointer p)
 | .sl => ∀ A n c, K (.slice A n c)
 | .val => ∀ v, K v
def yn : List sC → (List Value → Prop) → Prop
 | [], K => K []
 | c :: cs, K => CQ c fun v => yn cs fun vs => K (v :: vs)
def yo : rZ → (Value → Prop) → Prop
 | .c c, K => CQ c K
 | .a l, K => yn l fun vs => K (.agg vs.toArray)
 | .b n, K => ∀ l : List Value, l.length = n → K (.agg l.toArray)
def yp : List (Nat × rZ) → (List (Nat × Value) → Prop) → Prop
 | [], K => K []
 | (s, c) :: l, K => yo c fun v => yp l fun vs => K ((s, v) :: vs)
def xg (c : rZ) (v : Value) (K : Value → Prop) : Prop :=
 match c with
 | .c c => uR c (some v) K
 | .a l => match v with
  | .agg cs => wK l cs.toList fun vs => K (.agg vs.toArray)
  | _ => False
 | .b n => match v with
  | .agg cs => cs.toList.length = n ∧ K (.agg cs)
  | _ => False
def dX (env : Nat → Value) : List (Nat × rZ) → (List Value → Prop) → Prop
 | [], K => K []
 | (s, c) :: l, K => xg c (env s) fun v => dX env l fun vs => K (v :: vs)
def newEnv (env ET : Nat → Value) (ws : List Nat) (l : List (Nat × Value)) : Nat → Value :=
 fun i => look l i (bif fR ws i then ET i else env i)
def eU (ops : Array Oper) : List Nat := ops.toList.filterMap (·.dst)
def writes : Code → List Nat
 | .region _ ops _ => eU ops
 | .seq a b => writes a ++ writes b
 | .cond _ a b => writes a ++ writes b
 | .block _ c => writes c
 | .loop c => writes c
 | .scope c => writes c
 | _ => []
inductive CR where
 | normal
 | exit (id : Nat)
 | ret
def pg (c : Operand) (b : Bool) (env : Nat → Value) : Nat → Value := match c with
 | .tmp s => aL env (some s) (.bool b)
 | _ => env
def meet (env : Nat → Value) (ws : List Nat) (live : List (Nat × rZ)) (J : List Value → Mem → Prop) (Q : (Nat → Value) → Mem → Prop) : Prop :=
 ∀ ET : Nat → Value, yp live fun l => ∀ M, J (l.map (·.2)) M → Q (newEnv env ET ws l) M
def CS : Operand → Nat
 | .tmp t => 3000000 + t
 | _ => 0
def ct (C : Ctx) (H : List (Nat × Hint)) (Kp : List PanicEntry → Mem → Prop) : Code → Nat → (CR → (Nat → Value) → Mem → Prop) → (Nat → Value) → Mem → Prop
 | .skip, _, Q, env, M => Q .normal env M
 | .label _, _, Q, env, M => Q .normal env M
 | .region id ops draw, _, Q, env, M =>
  if draw then match vl H id with
   | some (.bL cV t) => bif jr ops cV then mm C ops cV (fun env' M' => Q .normal env' M') Kp t [] 0 0 env M else False
   | some (.CP cV t live) => bif jr ops cV then
     ∃ J : List Value → Mem → Prop, mm C ops cV (fun env' M' => dX env' live fun vs => J vs M') Kp t [] 0 0 env M ∧ meet env (eU ops) live J (Q .normal)
    else False
   | _ => False
  else ES C ops (fun env' M' => Q .normal env' M') Kp ops.toList env M
 | .seq a b, jM, Q, env, M => ct C H Kp a jM (fun e env' M' => match e with
   | .normal => ct C H Kp b jM Q env' M'
   | e => Q e env' M') env M
 | .cond c x y, jM, Q, env, M => match vl H (CS c) with
   | some (.cut live) => ∃ J : List Value → Mem → Prop, (match jL env c with
     | .bool e => aX e (ct C H Kp x jM (fun e env' M' => match e with | .normal => dX env' live fun vs => J vs M' | e => Q e env' M') (pg c true env) M)
       (ct C H Kp y jM (fun e env' M' => match e with | .normal => dX env' live fun vs => J vs M' | e => Q e env' M') (pg c false env) M)
     | _ => False) ∧ meet env (writes x ++ writes y) live J (Q .normal)
   | _ => match jL env c with
    | .bool e => aX e (ct C H Kp x jM Q (pg c true env) M) (ct C H Kp y jM Q (pg c false env) M)
    | _ => False
 | .block id c, _, Q, env, M => match vl H (1000000 + id) with
   | some (.cut live) => ∃ J : List Value → Mem → Prop,
     ct C H Kp c id (fun e env' M' => match e with
      | .exit i => bif Nat.beq i id then dX env' live fun vs => J vs M' else Q (.exit i) env' M'
      | .normal => dX env' live fun vs => J vs M'
      | e => Q e env' M') env M ∧ meet env (writes c) live J (Q .normal)
   | _ => ct C H Kp c id (fun e env' M' => match e with
      | .exit i => bif Nat.beq i id then Q .normal env' M' else Q (.exit i) env' M'
      | e => Q e env' M') env M
 | .loop c, jM, Q, env, M => match vl H (2000000 + jM) with
   | some (.loop live) => ∃ I : Nat → List Value → Mem → Prop,
     (dX env live fun vs => ∃ n, I n vs M) ∧
     ∀ n, meet env (writes c) live (I n) fun nt M0 => ct C H Kp c jM (fun e env' M' => match e with
      | .normal => dX env' live fun vs => ∃ m, m < n ∧ I m vs M'
      | e => Q e env' M') nt M0
   | _ => False
 | .exit id, _, Q, env, M => Q (.exit id) env M
 | .scope c, jM, Q, env, M => ct C H Kp c jM Q env M
 | .ret, _, Q, env, M => Q .ret env M
 | .goto _, _, _, _, _ => False
 | .rangeFunc .., _, _, _, _ => False
 | .refuse _, _, _, _, _ => False
def fits (n : Nat) : Code → Bool
 | .region _ ops _ => ops.toList.all (iQ n)
 | .seq a b => fits n a && fits n b
 | .cond c a b => (match c with | .tmp t => decide (t < n) | _ => true) && fits n a && fits n b
 | .block _ c => fits n c
 | .loop c => fits n c
 | .scope c => fits n c
 | .rangeFunc .. => false
 | _ => true
end Go.AF
