/- A part of proofs about one program. -/
import Derived.Test.YtnnlgknlialpmaaGreatZTaperSumsRegC
import Derived.Scope
set_option linter.unusedVariables false
namespace Go.AF
inductive Hint where
 | bQ (fE : List Nat) (t : Ex)
 | It (fE : List Nat) (t : Ex) (live : List (Nat × B8))
 | loop (live : List (Nat × B8))
 | cut (live : List (Nat × B8))
def FO : List (Nat × Hint) → Nat → Option Hint
 | [], _ => none
 | (k, h) :: l, i => bif Nat.beq k i then some h else FO l i
def look : List (Nat × Value) → Nat → Value → Value
 | [], _, d => d
 | (k, v) :: l, i, d => bif Nat.beq i k then v else look l i d
def kA : List Nat → Nat → Bool
 | [], _ => false
 | k :: l, i => bif Nat.beq i k then true else kA l i
def SB (c : CO) (K : Value → Prop) : Prop :=
 match c with
 | .int k => ∀ n, K (.int k n)
 | .bool => ∀ b, K (.bool b)
 | .str => ∀ s, K (.string s)
 | .ptr => ∀ p, K (.pointer p)
 | .sl => ∀ A n c, K (.slice A n c)
 | .val => ∀ v, K v
def Ku : List CO → (List Value → Prop) → Prop
 | [], K => K []
 | c :: cs, K => SB c fun v => Ku cs fun vs => K (v :: vs)
def Kv : B8 → (Value → Prop) → Prop
 | .c c, K => SB c K
 | .a l, K => Ku l fun vs => K (.agg vs.toArray)
 | .b n, K => ∀ l : List Value, l.length = n → K (.agg l.toArray)
def Kw : List (Nat × B8) → (List (Nat × Value) → Prop) → Prop
 | [], K => K []
 | (s, c) :: l, K => Kv c fun v => Kw l fun vs => K ((s, v) :: vs)
def Iu (c : B8) (v : Value) (K : Value → Prop) : Prop :=
 match c with
 | .c c => Fp c (some v) K
 | .a l => match v with
  | .agg cs => H7 l cs.toList fun vs => K (.agg vs.toArray)
  | _ => False
 | .b n => match v with
  | .agg cs => cs.toList.length = n ∧ K (.agg cs)
  | _ => False
def g8 (env : Nat → Value) : List (Nat × B8) → (List Value → Prop) → Prop
 | [], K => K []
 | (s, c) :: l, K => Iu c (env s) fun v => g8 env l fun vs => K (v :: vs)
def newEnv (env V7 : Nat → Value) (ws : List Nat) (l : List (Nat × Value)) : Nat → Value :=
 fun i => look l i (bif kA ws i then V7 i else env i)
def iT (ops : Array Oper) : List Nat := ops.toList.filterMap (·.dst)
def writes : Code → List Nat
 | .region _ ops _ => iT ops
 | .seq a b => writes a ++ writes b
 | .cond _ a b => writes a ++ writes b
 | .block _ c => writes c
 | .loop c => writes c
 | .scope c => writes c
 | _ => []
inductive RM where
 | normal
 | exit (id : Nat)
 | ret
def yB (c : Operand) (b : Bool) (env : Nat → Value) : Nat → Value := match c with
 | .tmp s => bx env (some s) (.bool b)
 | _ => env
def meet (env : Nat → Value) (ws : List Nat) (live : List (Nat × B8)) (J : List Value → Mem → Prop) (Q : (Nat → Value) → Mem → Prop) : Prop :=
 ∀ V7 : Nat → Value, Kw live fun l => ∀ M, J (l.map (·.2)) M → Q (newEnv env V7 ws l) M
def SC : Operand → Nat
 | .tmp t => 3000000 + t
 | _ => 0
def dY (C : Ctx) (H : List (Nat × Hint)) (Kp : List PanicEntry → Mem → Prop) : Code → Nat → (RM → (Nat → Value) → Mem → Prop) → (Nat → Value) → Mem → Prop
 | .skip, _, Q, env, M => Q .normal env M
 | .label _, _, Q, env, M => Q .normal env M
 | .region id ops draw, _, Q, env, M =>
  if draw then match FO H id with
   | some (.bQ fE t) => bif oQ ops fE then ud C ops fE (fun env' M' => Q .normal env' M') Kp t [] 0 0 env M else False
   | some (.It fE t live) => bif oQ ops fE then
     ∃ J : List Value → Mem → Prop, ud C ops fE (fun env' M' => g8 env' live fun vs => J vs M') Kp t [] 0 0 env M ∧ meet env (iT ops) live J (Q .normal)
    else False
   | _ => False
  else V6 C ops (fun env' M' => Q .normal env' M') Kp ops.toList env M
 | .seq a b, pM, Q, env, M => dY C H Kp a pM (fun e env' M' => match e with
   | .normal => dY C H Kp b pM Q env' M'
   | e => Q e env' M') env M
 | .cond c x y, pM, Q, env, M => match FO H (SC c) with
   | some (.cut live) => ∃ J : List Value → Mem → Prop, (match pL env c with
     | .bool e => aQ e (dY C H Kp x pM (fun e env' M' => match e with | .normal => g8 env' live fun vs => J vs M' | e => Q e env' M') (yB c true env) M)
       (dY C H Kp y pM (fun e env' M' => match e with | .normal => g8 env' live fun vs => J vs M' | e => Q e env' M') (yB c false env) M)
     | _ => False) ∧ meet env (writes x ++ writes y) live J (Q .normal)
   | _ => match pL env c with
    | .bool e => aQ e (dY C H Kp x pM Q (yB c true env) M) (dY C H Kp y pM Q (yB c false env) M)
    | _ => False
 | .block id c, _, Q, env, M => match FO H (1000000 + id) with
   | some (.cut live) => ∃ J : List Value → Mem → Prop,
     dY C H Kp c id (fun e env' M' => match e with
      | .exit i => bif Nat.beq i id then g8 env' live fun vs => J vs M' else Q (.exit i) env' M'
      | .normal => g8 env' live fun vs => J vs M'
      | e => Q e env' M') env M ∧ meet env (writes c) live J (Q .normal)
   | _ => dY C H Kp c id (fun e env' M' => match e with
      | .exit i => bif Nat.beq i id then Q .normal env' M' else Q (.exit i) env' M'
      | e => Q e env' M') env M
 | .loop c, pM, Q, env, M => match FO H (2000000 + pM) with
   | some (.loop live) => ∃ I : Nat → List Value → Mem → Prop,
     (g8 env live fun vs => ∃ n, I n vs M) ∧
     ∀ n, meet env (writes c) live (I n) fun vz M0 => dY C H Kp c pM (fun e env' M' => match e with
      | .normal => g8 env' live fun vs => ∃ m, m < n ∧ I m vs M'
      | e => Q e env' M') vz M0
   | _ => False
 | .exit id, _, Q, env, M => Q (.exit id) env M
 | .scope c, pM, Q, env, M => dY C H Kp c pM Q env M
 | .ret, _, Q, env, M => Q .ret env M
 | .goto _, _, _, _, _ => False
 | .rangeFunc .., _, _, _, _ => False
 | .refuse _, _, _, _, _ => False
def fits (n : Nat) : Code → Bool
 | .region _ ops _ => ops.toList.all (od n)
 | .seq a b => fits n a && fits n b
 | .cond c a b => (match c with | .tmp t => decide (t < n) | _ => true) && fits n a && fits n b
 | .block _ c => fits n c
 | .loop c => fits n c
 | .scope c => fits n c
 | .rangeFunc .. => false
 | _ => true
end Go.AF
