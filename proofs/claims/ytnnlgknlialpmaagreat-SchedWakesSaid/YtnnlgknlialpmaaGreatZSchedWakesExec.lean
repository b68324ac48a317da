/- A part of proofs about one program. -/
import Derived.Test.YtnnlgknlialpmaaGreatZSchedWakesRegC
import Derived.Scope
set_option linter.unusedVariables false
namespace Go.AF
inductive Hint where
 | bN (ej : List Nat) (t : Ex)
 | Ga (ej : List Nat) (t : Ex) (live : List (Nat × xS))
 | loop (live : List (Nat × xS))
 | cut (live : List (Nat × xS))
def BA : List (Nat × Hint) → Nat → Option Hint
 | [], _ => none
 | (k, h) :: l, i => bif Nat.beq k i then some h else BA l i
def look : List (Nat × Value) → Nat → Value → Value
 | [], _, d => d
 | (k, v) :: l, i, d => bif Nat.beq i k then v else look l i d
def iO : List Nat → Nat → Bool
 | [], _ => false
 | k :: l, i => bif Nat.beq i k then true else iO l i
def Lx (c : yx) (K : Value → Prop) : Prop :=
 match c with
 | .int k => ∀ n, K (.int k n)
 | .bool => ∀ b, K (.bool b)
 | .str => ∀ s, K (.string s)
 | .ptr => ∀ p, K (.pointer p)
 | .sl => ∀ A n c, K (.slice A n c)
 | .val => ∀ v, K v
def EV : List yx → (List Value → Prop) → Prop
 | [], K => K []
 | c :: cs, K => Lx c fun v => EV cs fun vs => K (v :: vs)
def EW : xS → (Value → Prop) → Prop
 | .c c, K => Lx c K
 | .a l, K => EV l fun vs => K (.agg vs.toArray)
 | .b n, K => ∀ l : List Value, l.length = n → K (.agg l.toArray)
def EX : List (Nat × xS) → (List (Nat × Value) → Prop) → Prop
 | [], K => K []
 | (s, c) :: l, K => EW c fun v => EX l fun vs => K ((s, v) :: vs)
def Dr (c : xS) (v : Value) (K : Value → Prop) : Prop :=
 match c with
 | .c c => Bd c (some v) K
 | .a l => match v with
  | .agg cs => C5 l cs.toList fun vs => K (.agg vs.toArray)
  | _ => False
 | .b n => match v with
  | .agg cs => cs.toList.length = n ∧ K (.agg cs)
  | _ => False
def fZ (env : Nat → Value) : List (Nat × xS) → (List Value → Prop) → Prop
 | [], K => K []
 | (s, c) :: l, K => Dr c (env s) fun v => fZ env l fun vs => K (v :: vs)
def newEnv (env O4 : Nat → Value) (ws : List Nat) (l : List (Nat × Value)) : Nat → Value :=
 fun i => look l i (bif iO ws i then O4 i else env i)
def gN (ops : Array Oper) : List Nat := ops.toList.filterMap (·.dst)
def writes : Code → List Nat
 | .region _ ops _ => gN ops
 | .seq a b => writes a ++ writes b
 | .cond _ a b => writes a ++ writes b
 | .block _ c => writes c
 | .loop c => writes c
 | .scope c => writes c
 | _ => []
inductive K5 where
 | normal
 | exit (id : Nat)
 | ret
def uG (c : Operand) (b : Bool) (env : Nat → Value) : Nat → Value := match c with
 | .tmp s => aX env (some s) (.bool b)
 | _ => env
def meet (env : Nat → Value) (ws : List Nat) (live : List (Nat × xS)) (J : List Value → Mem → Prop) (Q : (Nat → Value) → Mem → Prop) : Prop :=
 ∀ O4 : Nat → Value, EX live fun l => ∀ M, J (l.map (·.2)) M → Q (newEnv env O4 ws l) M
def Ly : Operand → Nat
 | .tmp t => 3000000 + t
 | _ => 0
def cX (C : Ctx) (H : List (Nat × Hint)) (Kp : List PanicEntry → Mem → Prop) : Code → Nat → (K5 → (Nat → Value) → Mem → Prop) → (Nat → Value) → Mem → Prop
 | .skip, _, Q, env, M => Q .normal env M
 | .label _, _, Q, env, M => Q .normal env M
 | .region id ops draw, _, Q, env, M =>
  if draw then match BA H id with
   | some (.bN ej t) => bif mA ops ej then qn C ops ej (fun env' M' => Q .normal env' M') Kp t [] 0 0 env M else False
   | some (.Ga ej t live) => bif mA ops ej then
     ∃ J : List Value → Mem → Prop, qn C ops ej (fun env' M' => fZ env' live fun vs => J vs M') Kp t [] 0 0 env M ∧ meet env (gN ops) live J (Q .normal)
    else False
   | _ => False
  else O3 C ops (fun env' M' => Q .normal env' M') Kp ops.toList env M
 | .seq a b, ng, Q, env, M => cX C H Kp a ng (fun e env' M' => match e with
   | .normal => cX C H Kp b ng Q env' M'
   | e => Q e env' M') env M
 | .cond c x y, ng, Q, env, M => match BA H (Ly c) with
   | some (.cut live) => ∃ J : List Value → Mem → Prop, (match nf env c with
     | .bool e => aO e (cX C H Kp x ng (fun e env' M' => match e with | .normal => fZ env' live fun vs => J vs M' | e => Q e env' M') (uG c true env) M)
       (cX C H Kp y ng (fun e env' M' => match e with | .normal => fZ env' live fun vs => J vs M' | e => Q e env' M') (uG c false env) M)
     | _ => False) ∧ meet env (writes x ++ writes y) live J (Q .normal)
   | _ => match nf env c with
    | .bool e => aO e (cX C H Kp x ng Q (uG c true env) M) (cX C H Kp y ng Q (uG c false env) M)
    | _ => False
 | .block id c, _, Q, env, M => match BA H (1000000 + id) with
   | some (.cut live) => ∃ J : List Value → Mem → Prop,
     cX C H Kp c id (fun e env' M' => match e with
      | .exit i => bif Nat.beq i id then fZ env' live fun vs => J vs M' else Q (.exit i) env' M'
      | .normal => fZ env' live fun vs => J vs M'
      | e => Q e env' M') env M ∧ meet env (writes c) live J (Q .normal)
   | _ => cX C H Kp c id (fun e env' M' => match e with
      | .exit i => bif Nat.beq i id then Q .normal env' M' else Q (.exit i) env' M'
      | e => Q e env' M') env M
 | .loop c, ng, Q, env, M => match BA H (2000000 + ng) with
   | some (.loop live) => ∃ I : Nat → List Value → Mem → Prop,
     (fZ env live fun vs => ∃ n, I n vs M) ∧
     ∀ n, meet env (writes c) live (I n) fun rO M0 => cX C H Kp c ng (fun e env' M' => match e with
      | .normal => fZ env' live fun vs => ∃ m, m < n ∧ I m vs M'
      | e => Q e env' M') rO M0
   | _ => False
 | .exit id, _, Q, env, M => Q (.exit id) env M
 | .scope c, ng, Q, env, M => cX C H Kp c ng Q env M
 | .ret, _, Q, env, M => Q .ret env M
 | .goto _, _, _, _, _ => False
 | .rangeFunc .., _, _, _, _ => False
 | .refuse _, _, _, _, _ => False
def fits (n : Nat) : Code → Bool
 | .region _ ops _ => ops.toList.all (lO n)
 | .seq a b => fits n a && fits n b
 | .cond c a b => (match c with | .tmp t => decide (t < n) | _ => true) && fits n a && fits n b
 | .block _ c => fits n c
 | .loop c => fits n c
 | .scope c => fits n c
 | .rangeFunc .. => false
 | _ => true
end Go.AF
