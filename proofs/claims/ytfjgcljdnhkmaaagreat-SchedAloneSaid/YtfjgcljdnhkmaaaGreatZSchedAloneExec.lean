/- A part of proofs about one program. -/
import Derived.Test.YtfjgcljdnhkmaaaGreatZSchedAloneRegC
import Derived.Scope
set_option linter.unusedVariables false
namespace Go.AF
inductive Hint where
 | bL (dS : List Nat) (t : Ex)
 | Fj (dS : List Nat) (t : Ex) (live : List (Nat × xm))
 | loop (live : List (Nat × xm))
 | cut (live : List (Nat × xm))
def AH : List (Nat × Hint) → Nat → Option Hint
 | [], _ => none
 | (k, h) :: l, i => bif Nat.beq k i then some h else AH l i
def look : List (Nat × Value) → Nat → Value → Value
 | [], _, d => d
 | (k, v) :: l, i, d => bif Nat.beq i k then v else look l i d
def iE : List Nat → Nat → Bool
 | [], _ => false
 | k :: l, i => bif Nat.beq i k then true else iE l i
def KI (c : xR) (K : Value → Prop) : Prop :=
 match c with
 | .int k => ∀ n, K (.int k n)
 | .bool => ∀ b, K (.bool b)
 | .str => ∀ s, K (.string s)
 | .ptr => ∀ p, K (.pointer p)
 | .sl => ∀ A n c, K (.slice A n c)
 | .val => ∀ v, K v
def D4 : List xR → (List Value → Prop) → Prop
 | [], K => K []
 | c :: cs, K => KI c fun v => D4 cs fun vs => K (v :: vs)
def D5 : xm → (Value → Prop) → Prop
 | .c c, K => KI c K
 | .a l, K => D4 l fun vs => K (.agg vs.toArray)
 | .b n, K => ∀ l : List Value, l.length = n → K (.agg l.toArray)
def D6 : List (Nat × xm) → (List (Nat × Value) → Prop) → Prop
 | [], K => K []
 | (s, c) :: l, K => D5 c fun v => D6 l fun vs => K ((s, v) :: vs)
def CC (c : xm) (v : Value) (K : Value → Prop) : Prop :=
 match c with
 | .c c => Af c (some v) K
 | .a l => match v with
  | .agg cs => Ch l cs.toList fun vs => K (.agg vs.toArray)
  | _ => False
 | .b n => match v with
  | .agg cs => cs.toList.length = n ∧ K (.agg cs)
  | _ => False
def fL (env : Nat → Value) : List (Nat × xm) → (List Value → Prop) → Prop
 | [], K => K []
 | (s, c) :: l, K => CC c (env s) fun v => fL env l fun vs => K (v :: vs)
def newEnv (env N6 : Nat → Value) (ws : List Nat) (l : List (Nat × Value)) : Nat → Value :=
 fun i => look l i (bif iE ws i then N6 i else env i)
def gB (ops : Array Oper) : List Nat := ops.toList.filterMap (·.dst)
def writes : Code → List Nat
 | .region _ ops _ => gB ops
 | .seq a b => writes a ++ writes b
 | .cond _ a b => writes a ++ writes b
 | .block _ c => writes c
 | .loop c => writes c
 | .scope c => writes c
 | _ => []
inductive Kg where
 | normal
 | exit (id : Nat)
 | ret
def tQ (c : Operand) (b : Bool) (env : Nat → Value) : Nat → Value := match c with
 | .tmp s => aU env (some s) (.bool b)
 | _ => env
def meet (env : Nat → Value) (ws : List Nat) (live : List (Nat × xm)) (J : List Value → Mem → Prop) (Q : (Nat → Value) → Mem → Prop) : Prop :=
 ∀ N6 : Nat → Value, D6 live fun l => ∀ M, J (l.map (·.2)) M → Q (newEnv env N6 ws l) M
def KJ : Operand → Nat
 | .tmp t => 3000000 + t
 | _ => 0
def cJ (C : Ctx) (H : List (Nat × Hint)) (Kp : List PanicEntry → Mem → Prop) : Code → Nat → (Kg → (Nat → Value) → Mem → Prop) → (Nat → Value) → Mem → Prop
 | .skip, _, Q, env, M => Q .normal env M
 | .label _, _, Q, env, M => Q .normal env M
 | .region id ops draw, _, Q, env, M =>
  if draw then match AH H id with
   | some (.bL dS t) => bif lV ops dS then pT C ops dS (fun env' M' => Q .normal env' M') Kp t [] 0 0 env M else False
   | some (.Fj dS t live) => bif lV ops dS then
     ∃ J : List Value → Mem → Prop, pT C ops dS (fun env' M' => fL env' live fun vs => J vs M') Kp t [] 0 0 env M ∧ meet env (gB ops) live J (Q .normal)
    else False
   | _ => False
  else N5 C ops (fun env' M' => Q .normal env' M') Kp ops.toList env M
 | .seq a b, mN, Q, env, M => cJ C H Kp a mN (fun e env' M' => match e with
   | .normal => cJ C H Kp b mN Q env' M'
   | e => Q e env' M') env M
 | .cond c x y, mN, Q, env, M => match AH H (KJ c) with
   | some (.cut live) => ∃ J : List Value → Mem → Prop, (match mL env c with
     | .bool e => aQ e (cJ C H Kp x mN (fun e env' M' => match e with | .normal => fL env' live fun vs => J vs M' | e => Q e env' M') (tQ c true env) M)
       (cJ C H Kp y mN (fun e env' M' => match e with | .normal => fL env' live fun vs => J vs M' | e => Q e env' M') (tQ c false env) M)
     | _ => False) ∧ meet env (writes x ++ writes y) live J (Q .normal)
   | _ => match mL env c with
    | .bool e => aQ e (cJ C H Kp x mN Q (tQ c true env) M) (cJ C H Kp y mN Q (tQ c false env) M)
    | _ => False
 | .block id c, _, Q, env, M => match AH H (1000000 + id) with
   | some (.cut live) => ∃ J : List Value → Mem → Prop,
     cJ C H Kp c id (fun e env' M' => match e with
      | .exit i => bif Nat.beq i id then fL env' live fun vs => J vs M' else Q (.exit i) env' M'
      | .normal => fL env' live fun vs => J vs M'
      | e => Q e env' M') env M ∧ meet env (writes c) live J (Q .normal)
   | _ => cJ C H Kp c id (fun e env' M' => match e with
      | .exit i => bif Nat.beq i id then Q .normal env' M' else Q (.exit i) env' M'
      | e => Q e env' M') env M
 | .loop c, mN, Q, env, M => match AH H (2000000 + mN) with
   | some (.loop live) => ∃ I : Nat → List Value → Mem → Prop,
     (fL env live fun vs => ∃ n, I n vs M) ∧
     ∀ n, meet env (writes c) live (I n) fun qT M0 => cJ C H Kp c mN (fun e env' M' => match e with
      | .normal => fL env' live fun vs => ∃ m, m < n ∧ I m vs M'
      | e => Q e env' M') qT M0
   | _ => False
 | .exit id, _, Q, env, M => Q (.exit id) env M
 | .scope c, mN, Q, env, M => cJ C H Kp c mN Q env M
 | .ret, _, Q, env, M => Q .ret env M
 | .goto _, _, _, _, _ => False
 | .rangeFunc .., _, _, _, _ => False
 | .refuse _, _, _, _, _ => False
def fits (n : Nat) : Code → Bool
 | .region _ ops _ => ops.toList.all (lg n)
 | .seq a b => fits n a && fits n b
 | .cond c a b => (match c with | .tmp t => decide (t < n) | _ => true) && fits n a && fits n b
 | .block _ c => fits n c
 | .loop c => fits n c
 | .scope c => fits n c
 | .rangeFunc .. => false
 | _ => true
end Go.AF
