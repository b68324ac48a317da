/- A part of proofs about one program. -/
import Derived.Test.YtfjgcljdnhkmaaaGreatZWorldDryRegC
import Derived.Scope
set_option linter.unusedVariables false
namespace Go.AF
inductive Hint where
 | bH (fY : List Nat) (t : Ex)
 | Pv (fY : List Nat) (t : Ex) (live : List (Nat × Da))
 | loop (live : List (Nat × Da))
 | cut (live : List (Nat × Da))
def Ia : List (Nat × Hint) → Nat → Option Hint
 | [], _ => none
 | (k, h) :: l, i => bif Nat.beq k i then some h else Ia l i
def look : List (Nat × Value) → Nat → Value → Value
 | [], _, d => d
 | (k, v) :: l, i, d => bif Nat.beq i k then v else look l i d
def lE : List Nat → Nat → Bool
 | [], _ => false
 | k :: l, i => bif Nat.beq i k then true else lE l i
def W3 (c : D1) (K : Value → Prop) : Prop :=
 match c with
 | .int k => ∀ n, K (.int k n)
 | .bool => ∀ b, K (.bool b)
 | .str => ∀ s, K (.string s)
 | .ptr => ∀ p, K (.pointer p)
 | .sl => ∀ A n c, K (.slice A n c)
 | .val => ∀ v, K v
def N9 : List D1 → (List Value → Prop) → Prop
 | [], K => K []
 | c :: cs, K => W3 c fun v => N9 cs fun vs => K (v :: vs)
def Oa : Da → (Value → Prop) → Prop
 | .c c, K => W3 c K
 | .a l, K => N9 l fun vs => K (.agg vs.toArray)
 | .b n, K => ∀ l : List Value, l.length = n → K (.agg l.toArray)
def Ob : List (Nat × Da) → (List (Nat × Value) → Prop) → Prop
 | [], K => K []
 | (s, c) :: l, K => Oa c fun v => Ob l fun vs => K ((s, v) :: vs)
def KY (c : Da) (v : Value) (K : Value → Prop) : Prop :=
 match c with
 | .c c => HE c (some v) K
 | .a l => match v with
  | .agg cs => KD l cs.toList fun vs => K (.agg vs.toArray)
  | _ => False
 | .b n => match v with
  | .agg cs => cs.toList.length = n ∧ K (.agg cs)
  | _ => False
def iK (env : Nat → Value) : List (Nat × Da) → (List Value → Prop) → Prop
 | [], K => K []
 | (s, c) :: l, K => KY c (env s) fun v => iK env l fun vs => K (v :: vs)
def newEnv (env junk : Nat → Value) (ws : List Nat) (l : List (Nat × Value)) : Nat → Value :=
 fun i => look l i (bif lE ws i then junk i else env i)
def jO (ops : Array Oper) : List Nat := ops.toList.filterMap (·.dst)
def writes : Code → List Nat
 | .region _ ops _ => jO ops
 | .seq a b => writes a ++ writes b
 | .cond _ a b => writes a ++ writes b
 | .block _ c => writes c
 | .loop c => writes c
 | .scope c => writes c
 | _ => []
inductive Wq where
 | normal
 | exit (id : Nat)
 | ret
def zw (c : Operand) (b : Bool) (env : Nat → Value) : Nat → Value := match c with
 | .tmp s => bD env (some s) (.bool b)
 | _ => env
def meet (env : Nat → Value) (ws : List Nat) (live : List (Nat × Da)) (J : List Value → Mem → Prop) (Q : (Nat → Value) → Mem → Prop) : Prop :=
 ∀ junk : Nat → Value, Ob live fun l => ∀ M, J (l.map (·.2)) M → Q (newEnv env junk ws l) M
def W4 : Operand → Nat
 | .tmp t => 3000000 + t
 | _ => 0
def eR (C : Ctx) (H : List (Nat × Hint)) (Kp : List PanicEntry → Mem → Prop) : Code → Nat → (Wq → (Nat → Value) → Mem → Prop) → (Nat → Value) → Mem → Prop
 | .skip, _, Q, env, M => Q .normal env M
 | .label _, _, Q, env, M => Q .normal env M
 | .region id ops draw, _, Q, env, M =>
  if draw then match Ia H id with
   | some (.bH fY t) => bif qd ops fY then vt C ops fY (fun env' M' => Q .normal env' M') Kp t [] 0 0 env M else False
   | some (.Pv fY t live) => bif qd ops fY then
     ∃ J : List Value → Mem → Prop, vt C ops fY (fun env' M' => iK env' live fun vs => J vs M') Kp t [] 0 0 env M ∧ meet env (jO ops) live J (Q .normal)
    else False
   | _ => False
  else KX C ops (fun env' M' => Q .normal env' M') Kp ops.toList env M
 | .seq a b, qN, Q, env, M => eR C H Kp a qN (fun e env' M' => match e with
   | .normal => eR C H Kp b qN Q env' M'
   | e => Q e env' M') env M
 | .cond c x y, qN, Q, env, M => match Ia H (W4 c) with
   | some (.cut live) => ∃ J : List Value → Mem → Prop, (match qL env c with
     | .bool e => aM e (eR C H Kp x qN (fun e env' M' => match e with | .normal => iK env' live fun vs => J vs M' | e => Q e env' M') (zw c true env) M)
       (eR C H Kp y qN (fun e env' M' => match e with | .normal => iK env' live fun vs => J vs M' | e => Q e env' M') (zw c false env) M)
     | _ => False) ∧ meet env (writes x ++ writes y) live J (Q .normal)
   | _ => match qL env c with
    | .bool e => aM e (eR C H Kp x qN Q (zw c true env) M) (eR C H Kp y qN Q (zw c false env) M)
    | _ => False
 | .block id c, _, Q, env, M => match Ia H (1000000 + id) with
   | some (.cut live) => ∃ J : List Value → Mem → Prop,
     eR C H Kp c id (fun e env' M' => match e with
      | .exit i => bif Nat.beq i id then iK env' live fun vs => J vs M' else Q (.exit i) env' M'
      | .normal => iK env' live fun vs => J vs M'
      | e => Q e env' M') env M ∧ meet env (writes c) live J (Q .normal)
   | _ => eR C H Kp c id (fun e env' M' => match e with
      | .exit i => bif Nat.beq i id then Q .normal env' M' else Q (.exit i) env' M'
      | e => Q e env' M') env M
 | .loop c, qN, Q, env, M => match Ia H (2000000 + qN) with
   | some (.loop live) => ∃ I : Nat → List Value → Mem → Prop,
     (iK env live fun vs => ∃ n, I n vs M) ∧
     ∀ n, meet env (writes c) live (I n) fun wS M0 => eR C H Kp c qN (fun e env' M' => match e with
      | .normal => iK env' live fun vs => ∃ m, m < n ∧ I m vs M'
      | e => Q e env' M') wS M0
   | _ => False
 | .exit id, _, Q, env, M => Q (.exit id) env M
 | .scope c, qN, Q, env, M => eR C H Kp c qN Q env M
 | .ret, _, Q, env, M => Q .ret env M
 | .goto _, _, _, _, _ => False
 | .rangeFunc .., _, _, _, _ => False
 | .refuse _, _, _, _, _ => False
def fits (n : Nat) : Code → Bool
 | .region _ ops _ => ops.toList.all (lq n)
 | .seq a b => fits n a && fits n b
 | .cond c a b => (match c with | .tmp t => decide (t < n) | _ => true) && fits n a && fits n b
 | .block _ c => fits n c
 | .loop c => fits n c
 | .scope c => fits n c
 | .rangeFunc .. => false
 | _ => true
end Go.AF
