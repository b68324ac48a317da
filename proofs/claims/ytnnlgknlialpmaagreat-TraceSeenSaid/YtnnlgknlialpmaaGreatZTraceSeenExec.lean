/- A part of proofs about one program. -/
import Derived.Test.YtnnlgknlialpmaaGreatZTraceSeenRegC
import Derived.Scope
set_option linter.unusedVariables false
namespace Go.AF
inductive Hint where
 | bS (fz : List Nat) (t : Ex)
 | CS (fz : List Nat) (t : Ex) (live : List (Nat × AM))
 | loop (live : List (Nat × AM))
 | cut (live : List (Nat × AM))
def Er : List (Nat × Hint) → Nat → Option Hint
 | [], _ => none
 | (k, h) :: l, i => bif Nat.beq k i then some h else Er l i
def look : List (Nat × Value) → Nat → Value → Value
 | [], _, d => d
 | (k, v) :: l, i, d => bif Nat.beq i k then v else look l i d
def ke : List Nat → Nat → Bool
 | [], _ => false
 | k :: l, i => bif Nat.beq i k then true else ke l i
def PV (c : Bu) (K : Value → Prop) : Prop :=
 match c with
 | .int k => ∀ n, K (.int k n)
 | .bool => ∀ b, K (.bool b)
 | .str => ∀ s, K (.string s)
 | .ptr => ∀ p, K (.pointer p)
 | .sl => ∀ A n c, K (.slice A n c)
 | .val => ∀ v, K v
def Ip : List Bu → (List Value → Prop) → Prop
 | [], K => K []
 | c :: cs, K => PV c fun v => Ip cs fun vs => K (v :: vs)
def Iq : AM → (Value → Prop) → Prop
 | .c c, K => PV c K
 | .a l, K => Ip l fun vs => K (.agg vs.toArray)
 | .b n, K => ∀ l : List Value, l.length = n → K (.agg l.toArray)
def Ir : List (Nat × AM) → (List (Nat × Value) → Prop) → Prop
 | [], K => K []
 | (s, c) :: l, K => Iq c fun v => Ir l fun vs => K ((s, v) :: vs)
def Gt (c : AM) (v : Value) (K : Value → Prop) : Prop :=
 match c with
 | .c c => D1 c (some v) K
 | .a l => match v with
  | .agg cs => F9 l cs.toList fun vs => K (.agg vs.toArray)
  | _ => False
 | .b n => match v with
  | .agg cs => cs.toList.length = n ∧ K (.agg cs)
  | _ => False
def gV (env : Nat → Value) : List (Nat × AM) → (List Value → Prop) → Prop
 | [], K => K []
 | (s, c) :: l, K => Gt c (env s) fun v => gV env l fun vs => K (v :: vs)
def newEnv (env TF : Nat → Value) (ws : List Nat) (l : List (Nat × Value)) : Nat → Value :=
 fun i => look l i (bif ke ws i then TF i else env i)
def iQ (ops : Array Oper) : List Nat := ops.toList.filterMap (·.dst)
def writes : Code → List Nat
 | .region _ ops _ => iQ ops
 | .seq a b => writes a ++ writes b
 | .cond _ a b => writes a ++ writes b
 | .block _ c => writes c
 | .loop c => writes c
 | .scope c => writes c
 | _ => []
inductive Pm where
 | normal
 | exit (id : Nat)
 | ret
def xy (c : Operand) (b : Bool) (env : Nat → Value) : Nat → Value := match c with
 | .tmp s => bt env (some s) (.bool b)
 | _ => env
def meet (env : Nat → Value) (ws : List Nat) (live : List (Nat × AM)) (J : List Value → Mem → Prop) (Q : (Nat → Value) → Mem → Prop) : Prop :=
 ∀ TF : Nat → Value, Ir live fun l => ∀ M, J (l.map (·.2)) M → Q (newEnv env TF ws l) M
def PW : Operand → Nat
 | .tmp t => 3000000 + t
 | _ => 0
def dN (C : Ctx) (H : List (Nat × Hint)) (Kp : List PanicEntry → Mem → Prop) : Code → Nat → (Pm → (Nat → Value) → Mem → Prop) → (Nat → Value) → Mem → Prop
 | .skip, _, Q, env, M => Q .normal env M
 | .label _, _, Q, env, M => Q .normal env M
 | .region id ops draw, _, Q, env, M =>
  if draw then match Er H id with
   | some (.bS fz t) => bif oq ops fz then th C ops fz (fun env' M' => Q .normal env' M') Kp t [] 0 0 env M else False
   | some (.CS fz t live) => bif oq ops fz then
     ∃ J : List Value → Mem → Prop, th C ops fz (fun env' M' => gV env' live fun vs => J vs M') Kp t [] 0 0 env M ∧ meet env (iQ ops) live J (Q .normal)
    else False
   | _ => False
  else TE C ops (fun env' M' => Q .normal env' M') Kp ops.toList env M
 | .seq a b, pg, Q, env, M => dN C H Kp a pg (fun e env' M' => match e with
   | .normal => dN C H Kp b pg Q env' M'
   | e => Q e env' M') env M
 | .cond c x y, pg, Q, env, M => match Er H (PW c) with
   | some (.cut live) => ∃ J : List Value → Mem → Prop, (match pe env c with
     | .bool e => aP e (dN C H Kp x pg (fun e env' M' => match e with | .normal => gV env' live fun vs => J vs M' | e => Q e env' M') (xy c true env) M)
       (dN C H Kp y pg (fun e env' M' => match e with | .normal => gV env' live fun vs => J vs M' | e => Q e env' M') (xy c false env) M)
     | _ => False) ∧ meet env (writes x ++ writes y) live J (Q .normal)
   | _ => match pe env c with
    | .bool e => aP e (dN C H Kp x pg Q (xy c true env) M) (dN C H Kp y pg Q (xy c false env) M)
    | _ => False
 | .block id c, _, Q, env, M => match Er H (1000000 + id) with
   | some (.cut live) => ∃ J : List Value → Mem → Prop,
     dN C H Kp c id (fun e env' M' => match e with
      | .exit i => bif Nat.beq i id then gV env' live fun vs => J vs M' else Q (.exit i) env' M'
      | .normal => gV env' live fun vs => J vs M'
      | e => Q e env' M') env M ∧ meet env (writes c) live J (Q .normal)
   | _ => dN C H Kp c id (fun e env' M' => match e with
      | .exit i => bif Nat.beq i id then Q .normal env' M' else Q (.exit i) env' M'
      | e => Q e env' M') env M
 | .loop c, pg, Q, env, M => match Er H (2000000 + pg) with
   | some (.loop live) => ∃ I : Nat → List Value → Mem → Prop,
     (gV env live fun vs => ∃ n, I n vs M) ∧
     ∀ n, meet env (writes c) live (I n) fun ur M0 => dN C H Kp c pg (fun e env' M' => match e with
      | .normal => gV env' live fun vs => ∃ m, m < n ∧ I m vs M'
      | e => Q e env' M') ur M0
   | _ => False
 | .exit id, _, Q, env, M => Q (.exit id) env M
 | .scope c, pg, Q, env, M => dN C H Kp c pg Q env M
 | .ret, _, Q, env, M => Q .ret env M
 | .goto _, _, _, _, _ => False
 | .rangeFunc .., _, _, _, _ => False
 | .refuse _, _, _, _, _ => False
def fits (n : Nat) : Code → Bool
 | .region _ ops _ => ops.toList.all (nE n)
 | .seq a b => fits n a && fits n b
 | .cond c a b => (match c with | .tmp t => decide (t < n) | _ => true) && fits n a && fits n b
 | .block _ c => fits n c
 | .loop c => fits n c
 | .scope c => fits n c
 | .rangeFunc .. => false
 | _ => true
end Go.AF
