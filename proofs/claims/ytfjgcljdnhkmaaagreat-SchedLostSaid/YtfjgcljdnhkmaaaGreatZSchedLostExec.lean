/- A part of proofs about one program. -/
import Derived.Test.YtfjgcljdnhkmaaaGreatZSchedLostRegC
import Derived.Scope
set_option linter.unusedVariables false
namespace Go.AF
inductive Hint where
 | bS (eX : List Nat) (t : Ex)
 | DK (eX : List Nat) (t : Ex) (live : List (Nat × zL))
 | loop (live : List (Nat × zL))
 | cut (live : List (Nat × zL))
def DL : List (Nat × Hint) → Nat → Option Hint
 | [], _ => none
 | (k, h) :: l, i => bif Nat.beq k i then some h else DL l i
def look : List (Nat × Value) → Nat → Value → Value
 | [], _, d => d
 | (k, v) :: l, i, d => bif Nat.beq i k then v else look l i d
def jM : List Nat → Nat → Bool
 | [], _ => false
 | k :: l, i => bif Nat.beq i k then true else jM l i
def Pa (c : Ax) (K : Value → Prop) : Prop :=
 match c with
 | .int k => ∀ n, K (.int k n)
 | .bool => ∀ b, K (.bool b)
 | .str => ∀ s, K (.string s)
 | .ptr => ∀ p, K (.pointer p)
 | .sl => ∀ A n c, K (.slice A n c)
 | .val => ∀ v, K v
def HH : List Ax → (List Value → Prop) → Prop
 | [], K => K []
 | c :: cs, K => Pa c fun v => HH cs fun vs => K (v :: vs)
def HI : zL → (Value → Prop) → Prop
 | .c c, K => Pa c K
 | .a l, K => HH l fun vs => K (.agg vs.toArray)
 | .b n, K => ∀ l : List Value, l.length = n → K (.agg l.toArray)
def HJ : List (Nat × zL) → (List (Nat × Value) → Prop) → Prop
 | [], K => K []
 | (s, c) :: l, K => HI c fun v => HJ l fun vs => K ((s, v) :: vs)
def FL (c : zL) (v : Value) (K : Value → Prop) : Prop :=
 match c with
 | .c c => Dk c (some v) K
 | .a l => match v with
  | .agg cs => Fq l cs.toList fun vs => K (.agg vs.toArray)
  | _ => False
 | .b n => match v with
  | .agg cs => cs.toList.length = n ∧ K (.agg cs)
  | _ => False
def gK (env : Nat → Value) : List (Nat × zL) → (List Value → Prop) → Prop
 | [], K => K []
 | (s, c) :: l, K => FL c (env s) fun v => gK env l fun vs => K (v :: vs)
def newEnv (env Pb : Nat → Value) (ws : List Nat) (l : List (Nat × Value)) : Nat → Value :=
 fun i => look l i (bif jM ws i then Pb i else env i)
def iz (ops : Array Oper) : List Nat := ops.toList.filterMap (·.dst)
def writes : Code → List Nat
 | .region _ ops _ => iz ops
 | .seq a b => writes a ++ writes b
 | .cond _ a b => writes a ++ writes b
 | .block _ c => writes c
 | .loop c => writes c
 | .scope c => writes c
 | _ => []
inductive OJ where
 | normal
 | exit (id : Nat)
 | ret
def wc (c : Operand) (b : Bool) (env : Nat → Value) : Nat → Value := match c with
 | .tmp s => bt env (some s) (.bool b)
 | _ => env
def meet (env : Nat → Value) (ws : List Nat) (live : List (Nat × zL)) (J : List Value → Mem → Prop) (Q : (Nat → Value) → Mem → Prop) : Prop :=
 ∀ Pb : Nat → Value, HJ live fun l => ∀ M, J (l.map (·.2)) M → Q (newEnv env Pb ws l) M
def Pc : Operand → Nat
 | .tmp t => 3000000 + t
 | _ => 0
def dW (C : Ctx) (H : List (Nat × Hint)) (Kp : List PanicEntry → Mem → Prop) : Code → Nat → (OJ → (Nat → Value) → Mem → Prop) → (Nat → Value) → Mem → Prop
 | .skip, _, Q, env, M => Q .normal env M
 | .label _, _, Q, env, M => Q .normal env M
 | .region id ops draw, _, Q, env, M =>
  if draw then match DL H id with
   | some (.bS eX t) => bif nU ops eX then sr C ops eX (fun env' M' => Q .normal env' M') Kp t [] 0 0 env M else False
   | some (.DK eX t live) => bif nU ops eX then
     ∃ J : List Value → Mem → Prop, sr C ops eX (fun env' M' => gK env' live fun vs => J vs M') Kp t [] 0 0 env M ∧ meet env (iz ops) live J (Q .normal)
    else False
   | _ => False
  else SC C ops (fun env' M' => Q .normal env' M') Kp ops.toList env M
 | .seq a b, oP, Q, env, M => dW C H Kp a oP (fun e env' M' => match e with
   | .normal => dW C H Kp b oP Q env' M'
   | e => Q e env' M') env M
 | .cond c x y, oP, Q, env, M => match DL H (Pc c) with
   | some (.cut live) => ∃ J : List Value → Mem → Prop, (match oO env c with
     | .bool e => aV e (dW C H Kp x oP (fun e env' M' => match e with | .normal => gK env' live fun vs => J vs M' | e => Q e env' M') (wc c true env) M)
       (dW C H Kp y oP (fun e env' M' => match e with | .normal => gK env' live fun vs => J vs M' | e => Q e env' M') (wc c false env) M)
     | _ => False) ∧ meet env (writes x ++ writes y) live J (Q .normal)
   | _ => match oO env c with
    | .bool e => aV e (dW C H Kp x oP Q (wc c true env) M) (dW C H Kp y oP Q (wc c false env) M)
    | _ => False
 | .block id c, _, Q, env, M => match DL H (1000000 + id) with
   | some (.cut live) => ∃ J : List Value → Mem → Prop,
     dW C H Kp c id (fun e env' M' => match e with
      | .exit i => bif Nat.beq i id then gK env' live fun vs => J vs M' else Q (.exit i) env' M'
      | .normal => gK env' live fun vs => J vs M'
      | e => Q e env' M') env M ∧ meet env (writes c) live J (Q .normal)
   | _ => dW C H Kp c id (fun e env' M' => match e with
      | .exit i => bif Nat.beq i id then Q .normal env' M' else Q (.exit i) env' M'
      | e => Q e env' M') env M
 | .loop c, oP, Q, env, M => match DL H (2000000 + oP) with
   | some (.loop live) => ∃ I : Nat → List Value → Mem → Prop,
     (gK env live fun vs => ∃ n, I n vs M) ∧
     ∀ n, meet env (writes c) live (I n) fun tJ M0 => dW C H Kp c oP (fun e env' M' => match e with
      | .normal => gK env' live fun vs => ∃ m, m < n ∧ I m vs M'
      | e => Q e env' M') tJ M0
   | _ => False
 | .exit id, _, Q, env, M => Q (.exit id) env M
 | .scope c, oP, Q, env, M => dW C H Kp c oP Q env M
 | .ret, _, Q, env, M => Q .ret env M
 | .goto _, _, _, _, _ => False
 | .rangeFunc .., _, _, _, _ => False
 | .refuse _, _, _, _, _ => False
def fits (n : Nat) : Code → Bool
 | .region _ ops _ => ops.toList.all (m9 n)
 | .seq a b => fits n a && fits n b
 | .cond c a b => (match c with | .tmp t => decide (t < n) | _ => true) && fits n a && fits n b
 | .block _ c => fits n c
 | .loop c => fits n c
 | .scope c => fits n c
 | .rangeFunc .. => false
 | _ => true
end Go.AF
