/- A part of proofs about one program. -/
import Derived.Test.YtnnlgknlialpmaaGreatZSnapAlikeRegC
import Derived.Scope
set_option linter.unusedVariables false
namespace Go.AF
inductive Hint where
 | bS (fJ : List Nat) (t : Ex)
 | FX (fJ : List Nat) (t : Ex) (live : List (Nat × Ca))
 | loop (live : List (Nat × Ca))
 | cut (live : List (Nat × Ca))
def FY : List (Nat × Hint) → Nat → Option Hint
 | [], _ => none
 | (k, h) :: l, i => bif Nat.beq k i then some h else FY l i
def look : List (Nat × Value) → Nat → Value → Value
 | [], _, d => d
 | (k, v) :: l, i, d => bif Nat.beq i k then v else look l i d
def kQ : List Nat → Nat → Bool
 | [], _ => false
 | k :: l, i => bif Nat.beq i k then true else kQ l i
def Sq (c : CT) (K : Value → Prop) : Prop :=
 match c with
 | .int k => ∀ n, K (.int k n)
 | .bool => ∀ b, K (.bool b)
 | .str => ∀ s, K (.string s)
 | .ptr => ∀ p, K (.pointer p)
 | .sl => ∀ A n c, K (.slice A n c)
 | .val => ∀ v, K v
def KC : List CT → (List Value → Prop) → Prop
 | [], K => K []
 | c :: cs, K => Sq c fun v => KC cs fun vs => K (v :: vs)
def KD : Ca → (Value → Prop) → Prop
 | .c c, K => Sq c K
 | .a l, K => KC l fun vs => K (.agg vs.toArray)
 | .b n, K => ∀ l : List Value, l.length = n → K (.agg l.toArray)
def KE : List (Nat × Ca) → (List (Nat × Value) → Prop) → Prop
 | [], K => K []
 | (s, c) :: l, K => KD c fun v => KE l fun vs => K ((s, v) :: vs)
def IC (c : Ca) (v : Value) (K : Value → Prop) : Prop :=
 match c with
 | .c c => Fx c (some v) K
 | .a l => match v with
  | .agg cs => Ih l cs.toList fun vs => K (.agg vs.toArray)
  | _ => False
 | .b n => match v with
  | .agg cs => cs.toList.length = n ∧ K (.agg cs)
  | _ => False
def hO (env : Nat → Value) : List (Nat × Ca) → (List Value → Prop) → Prop
 | [], K => K []
 | (s, c) :: l, K => IC c (env s) fun v => hO env l fun vs => K (v :: vs)
def newEnv (env VT : Nat → Value) (ws : List Nat) (l : List (Nat × Value)) : Nat → Value :=
 fun i => look l i (bif kQ ws i then VT i else env i)
def iX (ops : Array Oper) : List Nat := ops.toList.filterMap (·.dst)
def writes : Code → List Nat
 | .region _ ops _ => iX ops
 | .seq a b => writes a ++ writes b
 | .cond _ a b => writes a ++ writes b
 | .block _ c => writes c
 | .loop c => writes c
 | .scope c => writes c
 | _ => []
inductive RE where
 | normal
 | exit (id : Nat)
 | ret
def yz (c : Operand) (b : Bool) (env : Nat → Value) : Nat → Value := match c with
 | .tmp s => bz env (some s) (.bool b)
 | _ => env
def meet (env : Nat → Value) (ws : List Nat) (live : List (Nat × Ca)) (J : List Value → Mem → Prop) (Q : (Nat → Value) → Mem → Prop) : Prop :=
 ∀ VT : Nat → Value, KE live fun l => ∀ M, J (l.map (·.2)) M → Q (newEnv env VT ws l) M
def Sr : Operand → Nat
 | .tmp t => 3000000 + t
 | _ => 0
def eo (C : Ctx) (H : List (Nat × Hint)) (Kp : List PanicEntry → Mem → Prop) : Code → Nat → (RE → (Nat → Value) → Mem → Prop) → (Nat → Value) → Mem → Prop
 | .skip, _, Q, env, M => Q .normal env M
 | .label _, _, Q, env, M => Q .normal env M
 | .region id ops draw, _, Q, env, M =>
  if draw then match FY H id with
   | some (.bS fJ t) => bif oZ ops fJ then uj C ops fJ (fun env' M' => Q .normal env' M') Kp t [] 0 0 env M else False
   | some (.FX fJ t live) => bif oZ ops fJ then
     ∃ J : List Value → Mem → Prop, uj C ops fJ (fun env' M' => hO env' live fun vs => J vs M') Kp t [] 0 0 env M ∧ meet env (iX ops) live J (Q .normal)
    else False
   | _ => False
  else VS C ops (fun env' M' => Q .normal env' M') Kp ops.toList env M
 | .seq a b, pX, Q, env, M => eo C H Kp a pX (fun e env' M' => match e with
   | .normal => eo C H Kp b pX Q env' M'
   | e => Q e env' M') env M
 | .cond c x y, pX, Q, env, M => match FY H (Sr c) with
   | some (.cut live) => ∃ J : List Value → Mem → Prop, (match pW env c with
     | .bool e => aS e (eo C H Kp x pX (fun e env' M' => match e with | .normal => hO env' live fun vs => J vs M' | e => Q e env' M') (yz c true env) M)
       (eo C H Kp y pX (fun e env' M' => match e with | .normal => hO env' live fun vs => J vs M' | e => Q e env' M') (yz c false env) M)
     | _ => False) ∧ meet env (writes x ++ writes y) live J (Q .normal)
   | _ => match pW env c with
    | .bool e => aS e (eo C H Kp x pX Q (yz c true env) M) (eo C H Kp y pX Q (yz c false env) M)
    | _ => False
 | .block id c, _, Q, env, M => match FY H (1000000 + id) with
   | some (.cut live) => ∃ J : List Value → Mem → Prop,
     eo C H Kp c id (fun e env' M' => match e with
      | .exit i => bif Nat.beq i id then hO env' live fun vs => J vs M' else Q (.exit i) env' M'
      | .normal => hO env' live fun vs => J vs M'
      | e => Q e env' M') env M ∧ meet env (writes c) live J (Q .normal)
   | _ => eo C H Kp c id (fun e env' M' => match e with
      | .exit i => bif Nat.beq i id then Q .normal env' M' else Q (.exit i) env' M'
      | e => Q e env' M') env M
 | .loop c, pX, Q, env, M => match FY H (2000000 + pX) with
   | some (.loop live) => ∃ I : Nat → List Value → Mem → Prop,
     (hO env live fun vs => ∃ n, I n vs M) ∧
     ∀ n, meet env (writes c) live (I n) fun vG M0 => eo C H Kp c pX (fun e env' M' => match e with
      | .normal => hO env' live fun vs => ∃ m, m < n ∧ I m vs M'
      | e => Q e env' M') vG M0
   | _ => False
 | .exit id, _, Q, env, M => Q (.exit id) env M
 | .scope c, pX, Q, env, M => eo C H Kp c pX Q env M
 | .ret, _, Q, env, M => Q .ret env M
 | .goto _, _, _, _, _ => False
 | .rangeFunc .., _, _, _, _ => False
 | .refuse _, _, _, _, _ => False
def fits (n : Nat) : Code → Bool
 | .region _ ops _ => ops.toList.all (oq n)
 | .seq a b => fits n a && fits n b
 | .cond c a b => (match c with | .tmp t => decide (t < n) | _ => true) && fits n a && fits n b
 | .block _ c => fits n c
 | .loop c => fits n c
 | .scope c => fits n c
 | .rangeFunc .. => false
 | _ => true
end Go.AF
