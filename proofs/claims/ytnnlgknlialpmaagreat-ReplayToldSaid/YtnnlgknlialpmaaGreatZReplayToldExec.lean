/- A part of proofs about one program. -/
import Derived.Test.YtnnlgknlialpmaaGreatZReplayToldRegC
import Derived.Scope
set_option linter.unusedVariables false
namespace Go.AF
inductive Hint where
 | bL (dF : List Nat) (t : Ex)
 | EN (dF : List Nat) (t : Ex) (live : List (Nat × wJ))
 | loop (live : List (Nat × wJ))
 | cut (live : List (Nat × wJ))
def Af : List (Nat × Hint) → Nat → Option Hint
 | [], _ => none
 | (k, h) :: l, i => bif Nat.beq k i then some h else Af l i
def look : List (Nat × Value) → Nat → Value → Value
 | [], _, d => d
 | (k, v) :: l, i, d => bif Nat.beq i k then v else look l i d
def gY : List Nat → Nat → Bool
 | [], _ => false
 | k :: l, i => bif Nat.beq i k then true else gY l i
def JS (c : xp) (K : Value → Prop) : Prop :=
 match c with
 | .int k => ∀ n, K (.int k n)
 | .bool => ∀ b, K (.bool b)
 | .str => ∀ s, K (.string s)
 | .ptr => ∀ p, K (.pointer p)
 | .sl => ∀ A n c, K (.slice A n c)
 | .val => ∀ v, K v
def DL : List xp → (List Value → Prop) → Prop
 | [], K => K []
 | c :: cs, K => JS c fun v => DL cs fun vs => K (v :: vs)
def DM : wJ → (Value → Prop) → Prop
 | .c c, K => JS c K
 | .a l, K => DL l fun vs => K (.agg vs.toArray)
 | .b n, K => ∀ l : List Value, l.length = n → K (.agg l.toArray)
def DN : List (Nat × wJ) → (List (Nat × Value) → Prop) → Prop
 | [], K => K []
 | (s, c) :: l, K => DM c fun v => DN l fun vs => K ((s, v) :: vs)
def Co (c : wJ) (v : Value) (K : Value → Prop) : Prop :=
 match c with
 | .c c => zJ c (some v) K
 | .a l => match v with
  | .agg cs => B5 l cs.toList fun vs => K (.agg vs.toArray)
  | _ => False
 | .b n => match v with
  | .agg cs => cs.toList.length = n ∧ K (.agg cs)
  | _ => False
def fh (env : Nat → Value) : List (Nat × wJ) → (List Value → Prop) → Prop
 | [], K => K []
 | (s, c) :: l, K => Co c (env s) fun v => fh env l fun vs => K (v :: vs)
def newEnv (env MK : Nat → Value) (ws : List Nat) (l : List (Nat × Value)) : Nat → Value :=
 fun i => look l i (bif gY ws i then MK i else env i)
def fQ (ops : Array Oper) : List Nat := ops.toList.filterMap (·.dst)
def writes : Code → List Nat
 | .region _ ops _ => fQ ops
 | .seq a b => writes a ++ writes b
 | .cond _ a b => writes a ++ writes b
 | .block _ c => writes c
 | .loop c => writes c
 | .scope c => writes c
 | _ => []
inductive Jj where
 | normal
 | exit (id : Nat)
 | ret
def sL (c : Operand) (b : Bool) (env : Nat → Value) : Nat → Value := match c with
 | .tmp s => aT env (some s) (.bool b)
 | _ => env
def meet (env : Nat → Value) (ws : List Nat) (live : List (Nat × wJ)) (J : List Value → Mem → Prop) (Q : (Nat → Value) → Mem → Prop) : Prop :=
 ∀ MK : Nat → Value, DN live fun l => ∀ M, J (l.map (·.2)) M → Q (newEnv env MK ws l) M
def JT : Operand → Nat
 | .tmp t => 3000000 + t
 | _ => 0
def cL (C : Ctx) (H : List (Nat × Hint)) (Kp : List PanicEntry → Mem → Prop) : Code → Nat → (Jj → (Nat → Value) → Mem → Prop) → (Nat → Value) → Mem → Prop
 | .skip, _, Q, env, M => Q .normal env M
 | .label _, _, Q, env, M => Q .normal env M
 | .region id ops draw, _, Q, env, M =>
  if draw then match Af H id with
   | some (.bL dF t) => bif kL ops dF then oF C ops dF (fun env' M' => Q .normal env' M') Kp t [] 0 0 env M else False
   | some (.EN dF t live) => bif kL ops dF then
     ∃ J : List Value → Mem → Prop, oF C ops dF (fun env' M' => fh env' live fun vs => J vs M') Kp t [] 0 0 env M ∧ meet env (fQ ops) live J (Q .normal)
    else False
   | _ => False
  else MJ C ops (fun env' M' => Q .normal env' M') Kp ops.toList env M
 | .seq a b, lF, Q, env, M => cL C H Kp a lF (fun e env' M' => match e with
   | .normal => cL C H Kp b lF Q env' M'
   | e => Q e env' M') env M
 | .cond c x y, lF, Q, env, M => match Af H (JT c) with
   | some (.cut live) => ∃ J : List Value → Mem → Prop, (match lE env c with
     | .bool e => aK e (cL C H Kp x lF (fun e env' M' => match e with | .normal => fh env' live fun vs => J vs M' | e => Q e env' M') (sL c true env) M)
       (cL C H Kp y lF (fun e env' M' => match e with | .normal => fh env' live fun vs => J vs M' | e => Q e env' M') (sL c false env) M)
     | _ => False) ∧ meet env (writes x ++ writes y) live J (Q .normal)
   | _ => match lE env c with
    | .bool e => aK e (cL C H Kp x lF Q (sL c true env) M) (cL C H Kp y lF Q (sL c false env) M)
    | _ => False
 | .block id c, _, Q, env, M => match Af H (1000000 + id) with
   | some (.cut live) => ∃ J : List Value → Mem → Prop,
     cL C H Kp c id (fun e env' M' => match e with
      | .exit i => bif Nat.beq i id then fh env' live fun vs => J vs M' else Q (.exit i) env' M'
      | .normal => fh env' live fun vs => J vs M'
      | e => Q e env' M') env M ∧ meet env (writes c) live J (Q .normal)
   | _ => cL C H Kp c id (fun e env' M' => match e with
      | .exit i => bif Nat.beq i id then Q .normal env' M' else Q (.exit i) env' M'
      | e => Q e env' M') env M
 | .loop c, lF, Q, env, M => match Af H (2000000 + lF) with
   | some (.loop live) => ∃ I : Nat → List Value → Mem → Prop,
     (fh env live fun vs => ∃ n, I n vs M) ∧
     ∀ n, meet env (writes c) live (I n) fun pU M0 => cL C H Kp c lF (fun e env' M' => match e with
      | .normal => fh env' live fun vs => ∃ m, m < n ∧ I m vs M'
      | e => Q e env' M') pU M0
   | _ => False
 | .exit id, _, Q, env, M => Q (.exit id) env M
 | .scope c, lF, Q, env, M => cL C H Kp c lF Q env M
 | .ret, _, Q, env, M => Q .ret env M
 | .goto _, _, _, _, _ => False
 | .rangeFunc .., _, _, _, _ => False
 | .refuse _, _, _, _, _ => False
def fits (n : Nat) : Code → Bool
 | .region _ ops _ => ops.toList.all (j5 n)
 | .seq a b => fits n a && fits n b
 | .cond c a b => (match c with | .tmp t => decide (t < n) | _ => true) && fits n a && fits n b
 | .block _ c => fits n c
 | .loop c => fits n c
 | .scope c => fits n c
 | .rangeFunc .. => false
 | _ => true
end Go.AF
