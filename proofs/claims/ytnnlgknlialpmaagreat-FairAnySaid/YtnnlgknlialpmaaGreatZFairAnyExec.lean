/- A part of proofs about one program. -/
import Derived.Test.YtnnlgknlialpmaaGreatZFairAnyRegC
import Derived.Scope
set_option linter.unusedVariables false
namespace Go.AF
inductive Hint where
 | bQ (eP : List Nat) (t : Ex)
 | JL (eP : List Nat) (t : Ex) (live : List (Nat × AA))
 | loop (live : List (Nat × AA))
 | cut (live : List (Nat × AA))
def D9 : List (Nat × Hint) → Nat → Option Hint
 | [], _ => none
 | (k, h) :: l, i => bif Nat.beq k i then some h else D9 l i
def look : List (Nat × Value) → Nat → Value → Value
 | [], _, d => d
 | (k, v) :: l, i, d => bif Nat.beq i k then v else look l i d
def jQ : List Nat → Nat → Bool
 | [], _ => false
 | k :: l, i => bif Nat.beq i k then true else jQ l i
def P8 (c : Bo) (K : Value → Prop) : Prop :=
 match c with
 | .int k => ∀ n, K (.int k n)
 | .bool => ∀ b, K (.bool b)
 | .str => ∀ s, K (.string s)
 | .ptr => ∀ p, K (.pointer p)
 | .sl => ∀ A n c, K (.slice A n c)
 | .val => ∀ v, K v
def Ib : List Bo → (List Value → Prop) → Prop
 | [], K => K []
 | c :: cs, K => P8 c fun v => Ib cs fun vs => K (v :: vs)
def Ic : AA → (Value → Prop) → Prop
 | .c c, K => P8 c K
 | .a l, K => Ib l fun vs => K (.agg vs.toArray)
 | .b n, K => ∀ l : List Value, l.length = n → K (.agg l.toArray)
def Ie : List (Nat × AA) → (List (Nat × Value) → Prop) → Prop
 | [], K => K []
 | (s, c) :: l, K => Ic c fun v => Ie l fun vs => K ((s, v) :: vs)
def Ga (c : AA) (v : Value) (K : Value → Prop) : Prop :=
 match c with
 | .c c => DL c (some v) K
 | .a l => match v with
  | .agg cs => FP l cs.toList fun vs => K (.agg vs.toArray)
  | _ => False
 | .b n => match v with
  | .agg cs => cs.toList.length = n ∧ K (.agg cs)
  | _ => False
def gK (env : Nat → Value) : List (Nat × AA) → (List Value → Prop) → Prop
 | [], K => K []
 | (s, c) :: l, K => Ga c (env s) fun v => gK env l fun vs => K (v :: vs)
def newEnv (env JM : Nat → Value) (ws : List Nat) (l : List (Nat × Value)) : Nat → Value :=
 fun i => look l i (bif jQ ws i then JM i else env i)
def iE (ops : Array Oper) : List Nat := ops.toList.filterMap (·.dst)
def writes : Code → List Nat
 | .region _ ops _ => iE ops
 | .seq a b => writes a ++ writes b
 | .cond _ a b => writes a ++ writes b
 | .block _ c => writes c
 | .loop c => writes c
 | .scope c => writes c
 | _ => []
inductive Pw where
 | normal
 | exit (id : Nat)
 | ret
def wO (c : Operand) (b : Bool) (env : Nat → Value) : Nat → Value := match c with
 | .tmp s => bl env (some s) (.bool b)
 | _ => env
def meet (env : Nat → Value) (ws : List Nat) (live : List (Nat × AA)) (J : List Value → Mem → Prop) (Q : (Nat → Value) → Mem → Prop) : Prop :=
 ∀ JM : Nat → Value, Ie live fun l => ∀ M, J (l.map (·.2)) M → Q (newEnv env JM ws l) M
def P9 : Operand → Nat
 | .tmp t => 3000000 + t
 | _ => 0
def dI (C : Ctx) (H : List (Nat × Hint)) (Kp : List PanicEntry → Mem → Prop) : Code → Nat → (Pw → (Nat → Value) → Mem → Prop) → (Nat → Value) → Mem → Prop
 | .skip, _, Q, env, M => Q .normal env M
 | .label _, _, Q, env, M => Q .normal env M
 | .region id ops draw, _, Q, env, M =>
  if draw then match D9 H id with
   | some (.bQ eP t) => bif oa ops eP then sF C ops eP (fun env' M' => Q .normal env' M') Kp t [] 0 0 env M else False
   | some (.JL eP t live) => bif oa ops eP then
     ∃ J : List Value → Mem → Prop, sF C ops eP (fun env' M' => gK env' live fun vs => J vs M') Kp t [] 0 0 env M ∧ meet env (iE ops) live J (Q .normal)
    else False
   | _ => False
  else Ty C ops (fun env' M' => Q .normal env' M') Kp ops.toList env M
 | .seq a b, oR, Q, env, M => dI C H Kp a oR (fun e env' M' => match e with
   | .normal => dI C H Kp b oR Q env' M'
   | e => Q e env' M') env M
 | .cond c x y, oR, Q, env, M => match D9 H (P9 c) with
   | some (.cut live) => ∃ J : List Value → Mem → Prop, (match oQ env c with
     | .bool e => aO e (dI C H Kp x oR (fun e env' M' => match e with | .normal => gK env' live fun vs => J vs M' | e => Q e env' M') (wO c true env) M)
       (dI C H Kp y oR (fun e env' M' => match e with | .normal => gK env' live fun vs => J vs M' | e => Q e env' M') (wO c false env) M)
     | _ => False) ∧ meet env (writes x ++ writes y) live J (Q .normal)
   | _ => match oQ env c with
    | .bool e => aO e (dI C H Kp x oR Q (wO c true env) M) (dI C H Kp y oR Q (wO c false env) M)
    | _ => False
 | .block id c, _, Q, env, M => match D9 H (1000000 + id) with
   | some (.cut live) => ∃ J : List Value → Mem → Prop,
     dI C H Kp c id (fun e env' M' => match e with
      | .exit i => bif Nat.beq i id then gK env' live fun vs => J vs M' else Q (.exit i) env' M'
      | .normal => gK env' live fun vs => J vs M'
      | e => Q e env' M') env M ∧ meet env (writes c) live J (Q .normal)
   | _ => dI C H Kp c id (fun e env' M' => match e with
      | .exit i => bif Nat.beq i id then Q .normal env' M' else Q (.exit i) env' M'
      | e => Q e env' M') env M
 | .loop c, oR, Q, env, M => match D9 H (2000000 + oR) with
   | some (.loop live) => ∃ I : Nat → List Value → Mem → Prop,
     (gK env live fun vs => ∃ n, I n vs M) ∧
     ∀ n, meet env (writes c) live (I n) fun tW M0 => dI C H Kp c oR (fun e env' M' => match e with
      | .normal => gK env' live fun vs => ∃ m, m < n ∧ I m vs M'
      | e => Q e env' M') tW M0
   | _ => False
 | .exit id, _, Q, env, M => Q (.exit id) env M
 | .scope c, oR, Q, env, M => dI C H Kp c oR Q env M
 | .ret, _, Q, env, M => Q .ret env M
 | .goto _, _, _, _, _ => False
 | .rangeFunc .., _, _, _, _ => False
 | .refuse _, _, _, _, _ => False
def fits (n : Nat) : Code → Bool
 | .region _ ops _ => ops.toList.all (nt n)
 | .seq a b => fits n a && fits n b
 | .cond c a b => (match c with | .tmp t => decide (t < n) | _ => true) && fits n a && fits n b
 | .block _ c => fits n c
 | .loop c => fits n c
 | .scope c => fits n c
 | .rangeFunc .. => false
 | _ => true
end Go.AF
