/- A part of proofs about one program. -/
import Derived.Test.YtnnlgknlialpmaaGreatZShunterChatRegC
import Derived.Scope
set_option linter.unusedVariables false
namespace Go.AF
inductive Hint where
 | bQ (eF : List Nat) (t : Ex)
 | La (eF : List Nat) (t : Ex) (live : List (Nat × zB))
 | loop (live : List (Nat × zB))
 | cut (live : List (Nat × zB))
def Dq : List (Nat × Hint) → Nat → Option Hint
 | [], _ => none
 | (k, h) :: l, i => bif Nat.beq k i then some h else Dq l i
def look : List (Nat × Value) → Nat → Value → Value
 | [], _, d => d
 | (k, v) :: l, i, d => bif Nat.beq i k then v else look l i d
def jv : List Nat → Nat → Bool
 | [], _ => false
 | k :: l, i => bif Nat.beq i k then true else jv l i
def OW (c : Ae) (K : Value → Prop) : Prop :=
 match c with
 | .int k => ∀ n, K (.int k n)
 | .bool => ∀ b, K (.bool b)
 | .str => ∀ s, K (.string s)
 | .ptr => ∀ p, K (.pointer p)
 | .sl => ∀ A n c, K (.slice A n c)
 | .val => ∀ v, K v
def G8 : List Ae → (List Value → Prop) → Prop
 | [], K => K []
 | c :: cs, K => OW c fun v => G8 cs fun vs => K (v :: vs)
def G9 : zB → (Value → Prop) → Prop
 | .c c, K => OW c K
 | .a l, K => G8 l fun vs => K (.agg vs.toArray)
 | .b n, K => ∀ l : List Value, l.length = n → K (.agg l.toArray)
def He : List (Nat × zB) → (List (Nat × Value) → Prop) → Prop
 | [], K => K []
 | (s, c) :: l, K => G9 c fun v => He l fun vs => K ((s, v) :: vs)
def Fo (c : zB) (v : Value) (K : Value → Prop) : Prop :=
 match c with
 | .c c => C1 c (some v) K
 | .a l => match v with
  | .agg cs => E3 l cs.toList fun vs => K (.agg vs.toArray)
  | _ => False
 | .b n => match v with
  | .agg cs => cs.toList.length = n ∧ K (.agg cs)
  | _ => False
def gu (env : Nat → Value) : List (Nat × zB) → (List Value → Prop) → Prop
 | [], K => K []
 | (s, c) :: l, K => Fo c (env s) fun v => gu env l fun vs => K (v :: vs)
def newEnv (env IX : Nat → Value) (ws : List Nat) (l : List (Nat × Value)) : Nat → Value :=
 fun i => look l i (bif jv ws i then IX i else env i)
def g9 (ops : Array Oper) : List Nat := ops.toList.filterMap (·.dst)
def writes : Code → List Nat
 | .region _ ops _ => g9 ops
 | .seq a b => writes a ++ writes b
 | .cond _ a b => writes a ++ writes b
 | .block _ c => writes c
 | .loop c => writes c
 | .scope c => writes c
 | _ => []
inductive Om where
 | normal
 | exit (id : Nat)
 | ret
def vM (c : Operand) (b : Bool) (env : Nat → Value) : Nat → Value := match c with
 | .tmp s => aY env (some s) (.bool b)
 | _ => env
def meet (env : Nat → Value) (ws : List Nat) (live : List (Nat × zB)) (J : List Value → Mem → Prop) (Q : (Nat → Value) → Mem → Prop) : Prop :=
 ∀ IX : Nat → Value, He live fun l => ∀ M, J (l.map (·.2)) M → Q (newEnv env IX ws l) M
def OX : Operand → Nat
 | .tmp t => 3000000 + t
 | _ => 0
def dh (C : Ctx) (H : List (Nat × Hint)) (Kp : List PanicEntry → Mem → Prop) : Code → Nat → (Om → (Nat → Value) → Mem → Prop) → (Nat → Value) → Mem → Prop
 | .skip, _, Q, env, M => Q .normal env M
 | .label _, _, Q, env, M => Q .normal env M
 | .region id ops draw, _, Q, env, M =>
  if draw then match Dq H id with
   | some (.bQ eF t) => bif nu ops eF then rm C ops eF (fun env' M' => Q .normal env' M') Kp t [] 0 0 env M else False
   | some (.La eF t live) => bif nu ops eF then
     ∃ J : List Value → Mem → Prop, rm C ops eF (fun env' M' => gu env' live fun vs => J vs M') Kp t [] 0 0 env M ∧ meet env (g9 ops) live J (Q .normal)
    else False
   | _ => False
  else SD C ops (fun env' M' => Q .normal env' M') Kp ops.toList env M
 | .seq a b, nX, Q, env, M => dh C H Kp a nX (fun e env' M' => match e with
   | .normal => dh C H Kp b nX Q env' M'
   | e => Q e env' M') env M
 | .cond c x y, nX, Q, env, M => match Dq H (OX c) with
   | some (.cut live) => ∃ J : List Value → Mem → Prop, (match nW env c with
     | .bool e => aM e (dh C H Kp x nX (fun e env' M' => match e with | .normal => gu env' live fun vs => J vs M' | e => Q e env' M') (vM c true env) M)
       (dh C H Kp y nX (fun e env' M' => match e with | .normal => gu env' live fun vs => J vs M' | e => Q e env' M') (vM c false env) M)
     | _ => False) ∧ meet env (writes x ++ writes y) live J (Q .normal)
   | _ => match nW env c with
    | .bool e => aM e (dh C H Kp x nX Q (vM c true env) M) (dh C H Kp y nX Q (vM c false env) M)
    | _ => False
 | .block id c, _, Q, env, M => match Dq H (1000000 + id) with
   | some (.cut live) => ∃ J : List Value → Mem → Prop,
     dh C H Kp c id (fun e env' M' => match e with
      | .exit i => bif Nat.beq i id then gu env' live fun vs => J vs M' else Q (.exit i) env' M'
      | .normal => gu env' live fun vs => J vs M'
      | e => Q e env' M') env M ∧ meet env (writes c) live J (Q .normal)
   | _ => dh C H Kp c id (fun e env' M' => match e with
      | .exit i => bif Nat.beq i id then Q .normal env' M' else Q (.exit i) env' M'
      | e => Q e env' M') env M
 | .loop c, nX, Q, env, M => match Dq H (2000000 + nX) with
   | some (.loop live) => ∃ I : Nat → List Value → Mem → Prop,
     (gu env live fun vs => ∃ n, I n vs M) ∧
     ∀ n, meet env (writes c) live (I n) fun sP M0 => dh C H Kp c nX (fun e env' M' => match e with
      | .normal => gu env' live fun vs => ∃ m, m < n ∧ I m vs M'
      | e => Q e env' M') sP M0
   | _ => False
 | .exit id, _, Q, env, M => Q (.exit id) env M
 | .scope c, nX, Q, env, M => dh C H Kp c nX Q env M
 | .ret, _, Q, env, M => Q .ret env M
 | .goto _, _, _, _, _ => False
 | .rangeFunc .., _, _, _, _ => False
 | .refuse _, _, _, _, _ => False
def fits (n : Nat) : Code → Bool
 | .region _ ops _ => ops.toList.all (mD n)
 | .seq a b => fits n a && fits n b
 | .cond c a b => (match c with | .tmp t => decide (t < n) | _ => true) && fits n a && fits n b
 | .block _ c => fits n c
 | .loop c => fits n c
 | .scope c => fits n c
 | .rangeFunc .. => false
 | _ => true
end Go.AF
