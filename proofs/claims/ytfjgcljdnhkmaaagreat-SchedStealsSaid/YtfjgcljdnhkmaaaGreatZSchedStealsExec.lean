/- A part of proofs about functions of one program: a condition over a partial memory that is enough for a call, and what calls answer by it. No condition of its own. -/
import Derived.Test.YtfjgcljdnhkmaaaGreatZSchedStealsRegC
import Derived.Scope
set_option linter.unusedVariables false
namespace Go.AF

/-- What is told of a region that draws its order, of a loop, of a block whose ways meet. -/
inductive Hint where
  | reg (anc : List Nat) (t : Ex)                                 -- a region, along a tree
  | regc (anc : List Nat) (t : Ex) (live : List (Nat × TSh))      -- the same, its ways meet behind it
  | loop (live : List (Nat × TSh))
  | cut (live : List (Nat × TSh))

def findH : List (Nat × Hint) → Nat → Option Hint
  | [], _ => none
  | (k, h) :: l, i => bif Nat.beq k i then some h else findH l i

def look : List (Nat × Value) → Nat → Value → Value
  | [], _, d => d
  | (k, v) :: l, i, d => bif Nat.beq i k then v else look l i d

def elemB : List Nat → Nat → Bool
  | [], _ => false
  | k :: l, i => bif Nat.beq i k then true else elemB l i

/-- For all values of these shapes. -/
def alTy (c : CSh) (K : Value → Prop) : Prop :=
  match c with
  | .int k => ∀ n, K (.int k n)
  | .bool => ∀ b, K (.bool b)
  | .str => ∀ s, K (.string s)
  | .ptr => ∀ p, K (.pointer p)
  | .sl => ∀ A n c, K (.slice A n c)
  | .val => ∀ v, K v

def alTys : List CSh → (List Value → Prop) → Prop
  | [], K => K []
  | c :: cs, K => alTy c fun v => alTys cs fun vs => K (v :: vs)

def alTsh : TSh → (Value → Prop) → Prop
  | .c c, K => alTy c K
  | .a l, K => alTys l fun vs => K (.agg vs.toArray)
  | .b n, K => ∀ l : List Value, l.length = n → K (.agg l.toArray)

def alAll : List (Nat × TSh) → (List (Nat × Value) → Prop) → Prop
  | [], K => K []
  | (s, c) :: l, K => alTsh c fun v => alAll l fun vs => K ((s, v) :: vs)

def exTv (c : TSh) (v : Value) (K : Value → Prop) : Prop :=
  match c with
  | .c c => exC c (some v) K
  | .a l => match v with
    | .agg cs => exCs l cs.toList fun vs => K (.agg vs.toArray)
    | _ => False
  | .b n => match v with
    | .agg cs => cs.toList.length = n ∧ K (.agg cs)
    | _ => False

/-- The live slots' values, each of its shape. -/
def exLive (env : Nat → Value) : List (Nat × TSh) → (List Value → Prop) → Prop
  | [], K => K []
  | (s, c) :: l, K => exTv c (env s) fun v => exLive env l fun vs => K (v :: vs)

def newEnv (env junk : Nat → Value) (ws : List Nat) (l : List (Nat × Value)) : Nat → Value :=
  fun i => look l i (bif elemB ws i then junk i else env i)

def writesR (ops : Array Oper) : List Nat := ops.toList.filterMap (·.dst)

def writes : Code → List Nat
  | .region _ ops _ => writesR ops
  | .seq a b => writes a ++ writes b
  | .cond _ a b => writes a ++ writes b
  | .block _ c => writes c
  | .loop c => writes c
  | .scope c => writes c
  | _ => []

inductive AEx where
  | normal
  | exit (id : Nat)
  | ret

def setOp (c : Operand) (b : Bool) (env : Nat → Value) : Nat → Value := match c with
  | .tmp s => eput env (some s) (.bool b)
  | _ => env

/-- The state behind a meeting of ways: of the live slots alone something is known. -/
def meet (env : Nat → Value) (ws : List Nat) (live : List (Nat × TSh)) (J : List Value → Mem → Prop) (Q : (Nat → Value) → Mem → Prop) : Prop :=
  ∀ junk : Nat → Value, alAll live fun l => ∀ M, J (l.map (·.2)) M → Q (newEnv env junk ws l) M

/-- Where ways meet behind a condition. -/
def condKey : Operand → Nat
  | .tmp t => 3000000 + t
  | _ => 0

def aexec (C : Ctx) (H : List (Nat × Hint)) (Kp : List PanicEntry → Mem → Prop) : Code → Nat → (AEx → (Nat → Value) → Mem → Prop) → (Nat → Value) → Mem → Prop
  | .skip, _, Q, env, M => Q .normal env M
  | .label _, _, Q, env, M => Q .normal env M
  | .region id ops draw, _, Q, env, M =>
    if draw then match findH H id with
      | some (.reg anc t) => bif ancOk ops anc then areg C ops anc (fun env' M' => Q .normal env' M') Kp t [] 0 0 env M else False
      | some (.regc anc t live) => bif ancOk ops anc then
          ∃ J : List Value → Mem → Prop, areg C ops anc (fun env' M' => exLive env' live fun vs => J vs M') Kp t [] 0 0 env M ∧ meet env (writesR ops) live J (Q .normal)
        else False
      | _ => False
    else aops C ops (fun env' M' => Q .normal env' M') Kp ops.toList env M
  | .seq a b, bid, Q, env, M => aexec C H Kp a bid (fun e env' M' => match e with
      | .normal => aexec C H Kp b bid Q env' M'
      | e => Q e env' M') env M
  | .cond c x y, bid, Q, env, M => match findH H (condKey c) with
      | some (.cut live) => ∃ J : List Value → Mem → Prop, (match evE env c with
          | .bool e => bsp e (aexec C H Kp x bid (fun e env' M' => match e with | .normal => exLive env' live fun vs => J vs M' | e => Q e env' M') (setOp c true env) M)
              (aexec C H Kp y bid (fun e env' M' => match e with | .normal => exLive env' live fun vs => J vs M' | e => Q e env' M') (setOp c false env) M)
          | _ => False) ∧ meet env (writes x ++ writes y) live J (Q .normal)
      | _ => match evE env c with
        | .bool e => bsp e (aexec C H Kp x bid Q (setOp c true env) M) (aexec C H Kp y bid Q (setOp c false env) M)
        | _ => False
  | .block id c, _, Q, env, M => match findH H (1000000 + id) with
      | some (.cut live) => ∃ J : List Value → Mem → Prop,
          aexec C H Kp c id (fun e env' M' => match e with
            | .exit i => bif Nat.beq i id then exLive env' live fun vs => J vs M' else Q (.exit i) env' M'
            | .normal => exLive env' live fun vs => J vs M'
            | e => Q e env' M') env M ∧ meet env (writes c) live J (Q .normal)
      | _ => aexec C H Kp c id (fun e env' M' => match e with
            | .exit i => bif Nat.beq i id then Q .normal env' M' else Q (.exit i) env' M'
            | e => Q e env' M') env M
  | .loop c, bid, Q, env, M => match findH H (2000000 + bid) with
      | some (.loop live) => ∃ I : Nat → List Value → Mem → Prop,
          (exLive env live fun vs => ∃ n, I n vs M) ∧
          ∀ n, meet env (writes c) live (I n) fun env0 M0 => aexec C H Kp c bid (fun e env' M' => match e with
            | .normal => exLive env' live fun vs => ∃ m, m < n ∧ I m vs M'
            | e => Q e env' M') env0 M0
      | _ => False
  | .exit id, _, Q, env, M => Q (.exit id) env M
  | .scope c, bid, Q, env, M => aexec C H Kp c bid Q env M
  | .ret, _, Q, env, M => Q .ret env M
  | .goto _, _, _, _, _ => False
  | .rangeFunc .., _, _, _, _ => False
  | .refuse _, _, _, _, _ => False

def fits (n : Nat) : Code → Bool
  | .region _ ops _ => ops.toList.all (opFits n)
  | .seq a b => fits n a && fits n b
  | .cond c a b => (match c with | .tmp t => decide (t < n) | _ => true) && fits n a && fits n b
  | .block _ c => fits n c
  | .loop c => fits n c
  | .scope c => fits n c
  | .rangeFunc .. => false
  | _ => true

end Go.AF
