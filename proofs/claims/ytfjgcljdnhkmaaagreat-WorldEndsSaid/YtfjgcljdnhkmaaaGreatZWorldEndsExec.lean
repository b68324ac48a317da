/- A part of proofs about one program. -/
import Derived.Test.YtfjgcljdnhkmaaaGreatZWorldEndsRegC
import Derived.Scope
set_option linter.unusedVariables false
namespace Go.AF
inductive Hint where
 | bH (fU : List Nat) (t : Ex)
 | OS (fU : List Nat) (t : Ex) (live : List (Nat × CR))
 | loop (live : List (Nat × CR))
 | cut (live : List (Nat × CR))
def HH : List (Nat × Hint) → Nat → Option Hint
 | [], _ => none
 | (k, h) :: l, i => bif Nat.beq k i then some h else HH l i
def look : List (Nat × Value) → Nat → Value → Value
 | [], _, d => d
 | (k, v) :: l, i, d => bif Nat.beq i k then v else look l i d
def lq : List Nat → Nat → Bool
 | [], _ => false
 | k :: l, i => bif Nat.beq i k then true else lq l i
def Wh (c : DE) (K : Value → Prop) : Prop :=
 match c with
 | .int k => ∀ n, K (.int k n)
 | .bool => ∀ b, K (.bool b)
 | .str => ∀ s, K (.string s)
 | .ptr => ∀ p, K (.pointer p)
 | .sl => ∀ A n c, K (.slice A n c)
 | .val => ∀ v, K v
def NB : List DE → (List Value → Prop) → Prop
 | [], K => K []
 | c :: cs, K => Wh c fun v => NB cs fun vs => K (v :: vs)
def NC : CR → (Value → Prop) → Prop
 | .c c, K => Wh c K
 | .a l, K => NB l fun vs => K (.agg vs.toArray)
 | .b n, K => ∀ l : List Value, l.length = n → K (.agg l.toArray)
def ND : List (Nat × CR) → (List (Nat × Value) → Prop) → Prop
 | [], K => K []
 | (s, c) :: l, K => NC c fun v => ND l fun vs => K ((s, v) :: vs)
def Kw (c : CR) (v : Value) (K : Value → Prop) : Prop :=
 match c with
 | .c c => G9 c (some v) K
 | .a l => match v with
  | .agg cs => Kb l cs.toList fun vs => K (.agg vs.toArray)
  | _ => False
 | .b n => match v with
  | .agg cs => cs.toList.length = n ∧ K (.agg cs)
  | _ => False
def iC (env : Nat → Value) : List (Nat × CR) → (List Value → Prop) → Prop
 | [], K => K []
 | (s, c) :: l, K => Kw c (env s) fun v => iC env l fun vs => K (v :: vs)
def newEnv (env ZZ : Nat → Value) (ws : List Nat) (l : List (Nat × Value)) : Nat → Value :=
 fun i => look l i (bif lq ws i then ZZ i else env i)
def jK (ops : Array Oper) : List Nat := ops.toList.filterMap (·.dst)
def writes : Code → List Nat
 | .region _ ops _ => jK ops
 | .seq a b => writes a ++ writes b
 | .cond _ a b => writes a ++ writes b
 | .block _ c => writes c
 | .loop c => writes c
 | .scope c => writes c
 | _ => []
inductive Wi where
 | normal
 | exit (id : Nat)
 | ret
def zm (c : Operand) (b : Bool) (env : Nat → Value) : Nat → Value := match c with
 | .tmp s => bG env (some s) (.bool b)
 | _ => env
def meet (env : Nat → Value) (ws : List Nat) (live : List (Nat × CR)) (J : List Value → Mem → Prop) (Q : (Nat → Value) → Mem → Prop) : Prop :=
 ∀ ZZ : Nat → Value, ND live fun l => ∀ M, J (l.map (·.2)) M → Q (newEnv env ZZ ws l) M
def Wj : Operand → Nat
 | .tmp t => 3000000 + t
 | _ => 0
def fe (C : Ctx) (H : List (Nat × Hint)) (Kp : List PanicEntry → Mem → Prop) : Code → Nat → (Wi → (Nat → Value) → Mem → Prop) → (Nat → Value) → Mem → Prop
 | .skip, _, Q, env, M => Q .normal env M
 | .label _, _, Q, env, M => Q .normal env M
 | .region id ops draw, _, Q, env, M =>
  if draw then match HH H id with
   | some (.bH fU t) => bif pV ops fU then vn C ops fU (fun env' M' => Q .normal env' M') Kp t [] 0 0 env M else False
   | some (.OS fU t live) => bif pV ops fU then
     ∃ J : List Value → Mem → Prop, vn C ops fU (fun env' M' => iC env' live fun vs => J vs M') Kp t [] 0 0 env M ∧ meet env (jK ops) live J (Q .normal)
    else False
   | _ => False
  else ZY C ops (fun env' M' => Q .normal env' M') Kp ops.toList env M
 | .seq a b, qH, Q, env, M => fe C H Kp a qH (fun e env' M' => match e with
   | .normal => fe C H Kp b qH Q env' M'
   | e => Q e env' M') env M
 | .cond c x y, qH, Q, env, M => match HH H (Wj c) with
   | some (.cut live) => ∃ J : List Value → Mem → Prop, (match qG env c with
     | .bool e => aM e (fe C H Kp x qH (fun e env' M' => match e with | .normal => iC env' live fun vs => J vs M' | e => Q e env' M') (zm c true env) M)
       (fe C H Kp y qH (fun e env' M' => match e with | .normal => iC env' live fun vs => J vs M' | e => Q e env' M') (zm c false env) M)
     | _ => False) ∧ meet env (writes x ++ writes y) live J (Q .normal)
   | _ => match qG env c with
    | .bool e => aM e (fe C H Kp x qH Q (zm c true env) M) (fe C H Kp y qH Q (zm c false env) M)
    | _ => False
 | .block id c, _, Q, env, M => match HH H (1000000 + id) with
   | some (.cut live) => ∃ J : List Value → Mem → Prop,
     fe C H Kp c id (fun e env' M' => match e with
      | .exit i => bif Nat.beq i id then iC env' live fun vs => J vs M' else Q (.exit i) env' M'
      | .normal => iC env' live fun vs => J vs M'
      | e => Q e env' M') env M ∧ meet env (writes c) live J (Q .normal)
   | _ => fe C H Kp c id (fun e env' M' => match e with
      | .exit i => bif Nat.beq i id then Q .normal env' M' else Q (.exit i) env' M'
      | e => Q e env' M') env M
 | .loop c, qH, Q, env, M => match HH H (2000000 + qH) with
   | some (.loop live) => ∃ I : Nat → List Value → Mem → Prop,
     (iC env live fun vs => ∃ n, I n vs M) ∧
     ∀ n, meet env (writes c) live (I n) fun wK M0 => fe C H Kp c qH (fun e env' M' => match e with
      | .normal => iC env' live fun vs => ∃ m, m < n ∧ I m vs M'
      | e => Q e env' M') wK M0
   | _ => False
 | .exit id, _, Q, env, M => Q (.exit id) env M
 | .scope c, qH, Q, env, M => fe C H Kp c qH Q env M
 | .ret, _, Q, env, M => Q .ret env M
 | .goto _, _, _, _, _ => False
 | .rangeFunc .., _, _, _, _ => False
 | .refuse _, _, _, _, _ => False
def fits (n : Nat) : Code → Bool
 | .region _ ops _ => ops.toList.all (oV n)
 | .seq a b => fits n a && fits n b
 | .cond c a b => (match c with | .tmp t => decide (t < n) | _ => true) && fits n a && fits n b
 | .block _ c => fits n c
 | .loop c => fits n c
 | .scope c => fits n c
 | .rangeFunc .. => false
 | _ => true
end Go.AF
