/- A part of proofs about one program. -/
import Derived.Test.YtfjgcljdnhkmaaaGreatZSchedAgainRegC
import Derived.Scope
set_option linter.unusedVariables false
namespace Go.AF
inductive Hint where
 | bT (fu : List Nat) (t : Ex)
 | EK (fu : List Nat) (t : Ex) (live : List (Nat × AR))
 | loop (live : List (Nat × AR))
 | cut (live : List (Nat × AR))
def EL : List (Nat × Hint) → Nat → Option Hint
 | [], _ => none
 | (k, h) :: l, i => bif Nat.beq k i then some h else EL l i
def look : List (Nat × Value) → Nat → Value → Value
 | [], _, d => d
 | (k, v) :: l, i, d => bif Nat.beq i k then v else look l i d
def j6 : List Nat → Nat → Bool
 | [], _ => false
 | k :: l, i => bif Nat.beq i k then true else j6 l i
def Qw (c : BD) (K : Value → Prop) : Prop :=
 match c with
 | .int k => ∀ n, K (.int k n)
 | .bool => ∀ b, K (.bool b)
 | .str => ∀ s, K (.string s)
 | .ptr => ∀ p, K (.pointer p)
 | .sl => ∀ A n c, K (.slice A n c)
 | .val => ∀ v, K v
def I0 : List BD → (List Value → Prop) → Prop
 | [], K => K []
 | c :: cs, K => Qw c fun v => I0 cs fun vs => K (v :: vs)
def I3 : AR → (Value → Prop) → Prop
 | .c c, K => Qw c K
 | .a l, K => I0 l fun vs => K (.agg vs.toArray)
 | .b n, K => ∀ l : List Value, l.length = n → K (.agg l.toArray)
def I7 : List (Nat × AR) → (List (Nat × Value) → Prop) → Prop
 | [], K => K []
 | (s, c) :: l, K => I3 c fun v => I7 l fun vs => K ((s, v) :: vs)
def GO (c : AR) (v : Value) (K : Value → Prop) : Prop :=
 match c with
 | .c c => Ei c (some v) K
 | .a l => match v with
  | .agg cs => Gq l cs.toList fun vs => K (.agg vs.toArray)
  | _ => False
 | .b n => match v with
  | .agg cs => cs.toList.length = n ∧ K (.agg cs)
  | _ => False
def gT (env : Nat → Value) : List (Nat × AR) → (List Value → Prop) → Prop
 | [], K => K []
 | (s, c) :: l, K => GO c (env s) fun v => gT env l fun vs => K (v :: vs)
def newEnv (env Qx : Nat → Value) (ws : List Nat) (l : List (Nat × Value)) : Nat → Value :=
 fun i => look l i (bif j6 ws i then Qx i else env i)
def iI (ops : Array Oper) : List Nat := ops.toList.filterMap (·.dst)
def writes : Code → List Nat
 | .region _ ops _ => iI ops
 | .seq a b => writes a ++ writes b
 | .cond _ a b => writes a ++ writes b
 | .block _ c => writes c
 | .loop c => writes c
 | .scope c => writes c
 | _ => []
inductive P2 where
 | normal
 | exit (id : Nat)
 | ret
def xe (c : Operand) (b : Bool) (env : Nat → Value) : Nat → Value := match c with
 | .tmp s => bu env (some s) (.bool b)
 | _ => env
def meet (env : Nat → Value) (ws : List Nat) (live : List (Nat × AR)) (J : List Value → Mem → Prop) (Q : (Nat → Value) → Mem → Prop) : Prop :=
 ∀ Qx : Nat → Value, I7 live fun l => ∀ M, J (l.map (·.2)) M → Q (newEnv env Qx ws l) M
def Qy : Operand → Nat
 | .tmp t => 3000000 + t
 | _ => 0
def eB (C : Ctx) (H : List (Nat × Hint)) (Kp : List PanicEntry → Mem → Prop) : Code → Nat → (P2 → (Nat → Value) → Mem → Prop) → (Nat → Value) → Mem → Prop
 | .skip, _, Q, env, M => Q .normal env M
 | .label _, _, Q, env, M => Q .normal env M
 | .region id ops draw, _, Q, env, M =>
  if draw then match EL H id with
   | some (.bT fu t) => bif oB ops fu then sQ C ops fu (fun env' M' => Q .normal env' M') Kp t [] 0 0 env M else False
   | some (.EK fu t live) => bif oB ops fu then
     ∃ J : List Value → Mem → Prop, sQ C ops fu (fun env' M' => gT env' live fun vs => J vs M') Kp t [] 0 0 env M ∧ meet env (iI ops) live J (Q .normal)
    else False
   | _ => False
  else TW C ops (fun env' M' => Q .normal env' M') Kp ops.toList env M
 | .seq a b, pz, Q, env, M => eB C H Kp a pz (fun e env' M' => match e with
   | .normal => eB C H Kp b pz Q env' M'
   | e => Q e env' M') env M
 | .cond c x y, pz, Q, env, M => match EL H (Qy c) with
   | some (.cut live) => ∃ J : List Value → Mem → Prop, (match mw env c with
     | .bool e => aV e (eB C H Kp x pz (fun e env' M' => match e with | .normal => gT env' live fun vs => J vs M' | e => Q e env' M') (xe c true env) M)
       (eB C H Kp y pz (fun e env' M' => match e with | .normal => gT env' live fun vs => J vs M' | e => Q e env' M') (xe c false env) M)
     | _ => False) ∧ meet env (writes x ++ writes y) live J (Q .normal)
   | _ => match mw env c with
    | .bool e => aV e (eB C H Kp x pz Q (xe c true env) M) (eB C H Kp y pz Q (xe c false env) M)
    | _ => False
 | .block id c, _, Q, env, M => match EL H (1000000 + id) with
   | some (.cut live) => ∃ J : List Value → Mem → Prop,
     eB C H Kp c id (fun e env' M' => match e with
      | .exit i => bif Nat.beq i id then gT env' live fun vs => J vs M' else Q (.exit i) env' M'
      | .normal => gT env' live fun vs => J vs M'
      | e => Q e env' M') env M ∧ meet env (writes c) live J (Q .normal)
   | _ => eB C H Kp c id (fun e env' M' => match e with
      | .exit i => bif Nat.beq i id then Q .normal env' M' else Q (.exit i) env' M'
      | e => Q e env' M') env M
 | .loop c, pz, Q, env, M => match EL H (2000000 + pz) with
   | some (.loop live) => ∃ I : Nat → List Value → Mem → Prop,
     (gT env live fun vs => ∃ n, I n vs M) ∧
     ∀ n, meet env (writes c) live (I n) fun uj M0 => eB C H Kp c pz (fun e env' M' => match e with
      | .normal => gT env' live fun vs => ∃ m, m < n ∧ I m vs M'
      | e => Q e env' M') uj M0
   | _ => False
 | .exit id, _, Q, env, M => Q (.exit id) env M
 | .scope c, pz, Q, env, M => eB C H Kp c pz Q env M
 | .ret, _, Q, env, M => Q .ret env M
 | .goto _, _, _, _, _ => False
 | .rangeFunc .., _, _, _, _ => False
 | .refuse _, _, _, _, _ => False
def fits (n : Nat) : Code → Bool
 | .region _ ops _ => ops.toList.all (nG n)
 | .seq a b => fits n a && fits n b
 | .cond c a b => (match c with | .tmp t => decide (t < n) | _ => true) && fits n a && fits n b
 | .block _ c => fits n c
 | .loop c => fits n c
 | .scope c => fits n c
 | .rangeFunc .. => false
 | _ => true
end Go.AF
