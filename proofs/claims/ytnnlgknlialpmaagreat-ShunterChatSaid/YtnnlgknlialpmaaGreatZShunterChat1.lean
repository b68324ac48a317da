/- A part of proofs about one program. -/
import Derived.Test.YtnnlgknlialpmaaGreatZShunterChat0
set_option linter.unusedVariables false
namespace Go.Proofs
open Go.AF
set_option maxRecDepth 100000
variable {M : Mem} {K : Value → Mem → Prop} {Kp : List PanicEntry → Mem → Prop}
theorem F3 {x0 : Int} (h :
∃ I1 : IT, (∃ k2, I1 k2 [(.int .u64 x0), (.slice none 0 0)] M) ∧
∀ (k3 : Nat) (_ : Nat → Value) (n5 : Int) (A6 : Option Addr) (k7 : Nat) (k8 : Nat) (M9 : Mem), (I1 k3 [(.int .u64 n5), (.slice A6 k7 k8)] M9) → aM (decide (n5 ≥ 128))
 (aX M9 (cl [(.int .u8 (IntKind.wrap .u8 (((Nat.bitwise or (BitVec.ofInt IntKind.u8.bits (IntKind.u8.wrap n5)).toNat (BitVec.ofInt IntKind.u8.bits 128).toNat) : Nat) : Int)))] 5) fun fm jO =>
 aA 212 A6 k7 k8 (some ⟨fm, 0, none⟩) 1 1 jO (fun CX kj =>
 az (some CX) fun mq gX gA =>
 ∃ eK : Nat, (eK < k3) ∧
 I1 eK [(.int .u64 (Int.fdiv n5 128)), (.slice mq gX gA)] kj) Kp)
 (aX M9 (cl [(.int .u8 (IntKind.wrap .u8 n5))] 5) fun fZ jN =>
 aA 212 A6 k7 k8 (some ⟨fZ, 0, none⟩) 1 1 jN (fun v20 wB =>
 az (some v20) fun WJ jo sE =>
 aN Tryz.prog (Go.convert 212 9 (.slice WJ jo sE)) wB (fun Pj uu =>
 dM (some Pj) fun s27 =>
 K (.string s27) uu) Kp) Kp)) :
 aa Tryz.prog 100 #[.int .u64 x0] M K Kp := vw [(2000000, .loop [(0, .c (.int .u64)), (3, .c .sl)])] Tryz.func100 h
theorem JH {B0 : Option Addr} {m0 c0 : Nat} (h :
aX M (cl [(.int .u32 0)] 287) fun k1 M2 =>
∃ I3 : IT, (∃ k4, I3 k4 [(iV 0)] M2) ∧
∀ (k5 : Nat) (_ : Nat → Value) (n7 : Int) (M8 : Mem), (I3 k5 [(iV n7)] M8) → aM (decide (n7 < m0))
 ((0 ≤ n7) ∧
 (n7 < m0) ∧
 aF B0 fun k9 fm =>
 dM (Mem.ld M8 ⟨k9, (fm + (Int.toNat n7)), none⟩) fun s11 =>
 aH (Mem.ld M8 ⟨k1, 0, none⟩) .u32 fun iQ =>
 aa Tryz.prog 142 #[(.agg #[(.int .u32 iQ)]), (.string s11)] M8 (fun Hj mh =>
 ∃ jm : Int, (Hj = (.agg #[(.int .u32 jm)])) ∧
 sT mh k1 0 (.int .u32 jm) fun fh =>
 ∃ eK : Nat, (eK < k5) ∧
 I3 eK [(iV (IntKind.wrap .i64 (n7 + 1)))] fh) Kp)
 (aH (Mem.ld M8 ⟨k1, 0, none⟩) .u32 fun kf =>
 aa Tryz.prog 143 #[(.agg #[(.int .u32 kf)])] M8 (fun Pn rA =>
 aH (some Pn) .u32 fun mO =>
 K (.int .u32 mO) rA) Kp)) :
 aa Tryz.prog 102 #[.slice B0 m0 c0] M K Kp := vw [(2000000, .loop [(8, .c (.int .i64))])] Tryz.func102 h
theorem Cj  (h :
aX M (cl [(.int .u32 0), (.int .u32 0), (.int .u32 0), (.int .u32 0), (.int .u32 0), (.int .u32 0), (.int .u32 0), (.int .u32 0), (.int .u32 0), (.int .u32 0), (.int .u32 0), (.int .u32 0), (.int .u32 0), (.int .u32 0), (.int .u32 0), (.int .u32 0), (.int .u32 0), (.int .u32 0), (.int .u32 0), (.int .u32 0), (.int .u32 0), (.int .u32 0), (.int .u32 0), (.int .u32 0), (.int .u32 0), (.int .u32 0), (.int .u32 0), (.int .u32 0), (.int .u32 0), (.int .u32 0), (.int .u32 0), (.int .u32 0), (.int .u32 0), (.int .u32 0), (.int .u32 0), (.int .u32 0), (.int .u32 0), (.int .u32 0), (.int .u32 0), (.int .u32 0), (.int .u32 0), (.int .u32 0), (.int .u32 0), (.int .u32 0), (.int .u32 0), (.int .u32 0), (.int .u32 0), (.int .u32 0), (.int .u32 0), (.int .u32 0), (.int .u32 0), (.int .u32 0), (.int .u32 0), (.int .u32 0), (.int .u32 0), (.int .u32 0), (.int .u32 0), (.int .u32 0), (.int .u32 0), (.int .u32 0), (.int .u32 0), (.int .u32 0), (.int .u32 0), (.int .u32 0), (.int .u32 0), (.int .u32 0), (.int .u32 0), (.int .u32 0), (.int .u32 0), (.int .u32 0), (.int .u32 0), (.int .u32 0), (.int .u32 0), (.int .u32 0), (.int .u32 0), (.int .u32 0), (.int .u32 0), (.int .u32 0), (.int .u32 0), (.int .u32 0), (.int .u32 0), (.int .u32 0), (.int .u32 0), (.int .u32 0), (.int .u32 0), (.int .u32 0), (.int .u32 0), (.int .u32 0), (.int .u32 0), (.int .u32 0), (.int .u32 0), (.int .u32 0), (.int .u32 0), (.int .u32 0), (.int .u32 0), (.int .u32 0), (.int .u32 0), (.int .u32 0), (.int .u32 0), (.int .u32 0), (.int .u32 0), (.int .u32 0), (.int .u32 0), (.int .u32 0), (.int .u32 0), (.int .u32 0), (.int .u32 0), (.int .u32 0), (.int .u32 0), (.int .u32 0), (.int .u32 0), (.int .u32 0), (.int .u32 0), (.int .u32 0), (.int .u32 0), (.int .u32 0), (.int .u32 0), (.int .u32 0), (.int .u32 0), (.int .u32 0), (.int .u32 0), (.int .u32 0), (.int .u32 0), (.int .u32 0), (.int .u32 0), (.int .u32 0), (.int .u32 0), (.int .u32 0), (.int .u32 0), (.int .u32 0), (.int .u32 0), (.int .u32 0), (.int .u32 0), (.int .u32 0), (.int .u32 0), (.int .u32 0), (.int .u32 0), (.int .u32 0), (.int .u32 0), (.int .u32 0), (.int .u32 0), (.int .u32 0), (.int .u32 0), (.int .u32 0), (.int .u32 0), (.int .u32 0), (.int .u32 0), (.int .u32 0), (.int .u32 0), (.int .u32 0), (.int .u32 0), (.int .u32 0), (.int .u32 0), (.int .u32 0), (.int .u32 0), (.int .u32 0), (.int .u32 0), (.int .u32 0), (.int .u32 0), (.int .u32 0), (.int .u32 0), (.int .u32 0), (.int .u32 0), (.int .u32 0), (.int .u32 0), (.int .u32 0), (.int .u32 0), (.int .u32 0), (.int .u32 0), (.int .u32 0), (.int .u32 0), (.int .u32 0), (.int .u32 0), (.int .u32 0), (.int .u32 0), (.int .u32 0), (.int .u32 0), (.int .u32 0), (.int .u32 0), (.int .u32 0), (.int .u32 0), (.int .u32 0), (.int .u32 0), (.int .u32 0), (.int .u32 0), (.int .u32 0), (.int .u32 0), (.int .u32 0), (.int .u32 0), (.int .u32 0), (.int .u32 0), (.int .u32 0), (.int .u32 0), (.int .u32 0), (.int .u32 0), (.int .u32 0), (.int .u32 0), (.int .u32 0), (.int .u32 0), (.int .u32 0), (.int .u32 0), (.int .u32 0), (.int .u32 0), (.int .u32 0), (.int .u32 0), (.int .u32 0), (.int .u32 0), (.int .u32 0), (.int .u32 0), (.int .u32 0), (.int .u32 0), (.int .u32 0), (.int .u32 0), (.int .u32 0), (.int .u32 0), (.int .u32 0), (.int .u32 0), (.int .u32 0), (.int .u32 0), (.int .u32 0), (.int .u32 0), (.int .u32 0), (.int .u32 0), (.int .u32 0), (.int .u32 0), (.int .u32 0), (.int .u32 0), (.int .u32 0), (.int .u32 0), (.int .u32 0), (.int .u32 0), (.int .u32 0), (.int .u32 0), (.int .u32 0), (.int .u32 0), (.int .u32 0), (.int .u32 0), (.int .u32 0), (.int .u32 0), (.int .u32 0), (.int .u32 0), (.int .u32 0), (.int .u32 0), (.int .u32 0), (.int .u32 0), (.int .u32 0), (.int .u32 0), (.int .u32 0), (.int .u32 0), (.int .u32 0), (.int .u32 0), (.int .u32 0), (.int .u32 0), (.int .u32 0), (.int .u32 0), (.int .u32 0)] 325) fun k1 M2 =>
aX M2 (cl [(.int .u32 0), (.int .u32 0), (.int .u32 0), (.int .u32 0), (.int .u32 0), (.int .u32 0), (.int .u32 0), (.int .u32 0), (.int .u32 0), (.int .u32 0), (.int .u32 0), (.int .u32 0), (.int .u32 0), (.int .u32 0), (.int .u32 0), (.int .u32 0), (.int .u32 0), (.int .u32 0), (.int .u32 0), (.int .u32 0), (.int .u32 0), (.int .u32 0), (.int .u32 0), (.int .u32 0), (.int .u32 0), (.int .u32 0), (.int .u32 0), (.int .u32 0), (.int .u32 0), (.int .u32 0), (.int .u32 0), (.int .u32 0), (.int .u32 0), (.int .u32 0), (.int .u32 0), (.int .u32 0), (.int .u32 0), (.int .u32 0), (.int .u32 0), (.int .u32 0), (.int .u32 0), (.int .u32 0), (.int .u32 0), (.int .u32 0), (.int .u32 0), (.int .u32 0), (.int .u32 0), (.int .u32 0), (.int .u32 0), (.int .u32 0), (.int .u32 0), (.int .u32 0), (.int .u32 0), (.int .u32 0), (.int .u32 0), (.int .u32 0), (.int .u32 0), (.int .u32 0), (.int .u32 0), (.int .u32 0), (.int .u32 0), (.int .u32 0), (.int .u32 0), (.int .u32 0), (.int .u32 0), (.int .u32 0), (.int .u32 0), (.int .u32 0), (.int .u32 0), (.int .u32 0), (.int .u32 0), (.int .u32 0), (.int .u32 0), (.int .u32 0), (.int .u32 0), (.int .u32 0), (.int .u32 0), (.int .u32 0), (.int .u32 0), (.int .u32 0), (.int .u32 0), (.int .u32 0), (.int .u32 0), (.int .u32 0), (.int .u32 0), (.int .u32 0), (.int .u32 0), (.int .u32 0), (.int .u32 0), (.int .u32 0), (.int .u32 0), (.int .u32 0), (.int .u32 0), (.int .u32 0), (.int .u32 0), (.int .u32 0), (.int .u32 0), (.int .u32 0), (.int .u32 0), (.int .u32 0), (.int .u32 0), (.int .u32 0), (.int .u32 0), (.int .u32 0), (.int .u32 0), (.int .u32 0), (.int .u32 0), (.int .u32 0), (.int .u32 0), (.int .u32 0), (.int .u32 0), (.int .u32 0), (.int .u32 0), (.int .u32 0), (.int .u32 0), (.int .u32 0), (.int .u32 0), (.int .u32 0), (.int .u32 0), (.int .u32 0), (.int .u32 0), (.int .u32 0), (.int .u32 0), (.int .u32 0), (.int .u32 0), (.int .u32 0), (.int .u32 0), (.int .u32 0), (.int .u32 0), (.int .u32 0), (.int .u32 0), (.int .u32 0), (.int .u32 0), (.int .u32 0), (.int .u32 0), (.int .u32 0), (.int .u32 0), (.int .u32 0), (.int .u32 0), (.int .u32 0), (.int .u32 0), (.int .u32 0), (.int .u32 0), (.int .u32 0), (.int .u32 0), (.int .u32 0), (.int .u32 0), (.int .u32 0), (.int .u32 0), (.int .u32 0), (.int .u32 0), (.int .u32 0), (.int .u32 0), (.int .u32 0), (.int .u32 0), (.int .u32 0), (.int .u32 0), (.int .u32 0), (.int .u32 0), (.int .u32 0), (.int .u32 0), (.int .u32 0), (.int .u32 0), (.int .u32 0), (.int .u32 0), (.int .u32 0), (.int .u32 0), (.int .u32 0), (.int .u32 0), (.int .u32 0), (.int .u32 0), (.int .u32 0), (.int .u32 0), (.int .u32 0), (.int .u32 0), (.int .u32 0), (.int .u32 0), (.int .u32 0), (.int .u32 0), (.int .u32 0), (.int .u32 0), (.int .u32 0), (.int .u32 0), (.int .u32 0), (.int .u32 0), (.int .u32 0), (.int .u32 0), (.int .u32 0), (.int .u32 0), (.int .u32 0), (.int .u32 0), (.int .u32 0), (.int .u32 0), (.int .u32 0), (.int .u32 0), (.int .u32 0), (.int .u32 0), (.int .u32 0), (.int .u32 0), (.int .u32 0), (.int .u32 0), (.int .u32 0), (.int .u32 0), (.int .u32 0), (.int .u32 0), (.int .u32 0), (.int .u32 0), (.int .u32 0), (.int .u32 0), (.int .u32 0), (.int .u32 0), (.int .u32 0), (.int .u32 0), (.int .u32 0), (.int .u32 0), (.int .u32 0), (.int .u32 0), (.int .u32 0), (.int .u32 0), (.int .u32 0), (.int .u32 0), (.int .u32 0), (.int .u32 0), (.int .u32 0), (.int .u32 0), (.int .u32 0), (.int .u32 0), (.int .u32 0), (.int .u32 0), (.int .u32 0), (.int .u32 0), (.int .u32 0), (.int .u32 0), (.int .u32 0), (.int .u32 0), (.int .u32 0), (.int .u32 0), (.int .u32 0), (.int .u32 0), (.int .u32 0), (.int .u32 0), (.int .u32 0), (.int .u32 0), (.int .u32 0), (.int .u32 0), (.int .u32 0), (.int .u32 0), (.int .u32 0), (.int .u32 0), (.int .u32 0), (.int .u32 0), (.int .u32 0), (.int .u32 0), (.int .u32 0), (.int .u32 0), (.int .u32 0)] 325) fun k3 M4 =>
∃ I5 : IT, (∃ k6, I5 k6 [(iV 0)] M4) ∧
∀ (k7 : Nat) (_ : Nat → Value) (n9 : Int) (gF : Mem), (I5 k7 [(iV n9)] gF) → aM (decide (n9 < 256))
 (∃ Rq : IT, (∃ gx, Rq gx [(.int .u32 (IntKind.wrap .u32 n9)), (iV 0)] gF) ∧
 ∀ (c7 : Nat) (_ : Nat → Value) (jm : Int) (lN : Int) (mo : Mem), (Rq c7 [(.int .u32 jm), (iV lN)] mo) → aM (decide (lN < 8))
 (aM ((IntKind.wrap .u32 (((Nat.bitwise and (BitVec.ofInt IntKind.u32.bits jm).toNat (BitVec.ofInt IntKind.u32.bits 1).toNat) : Nat) : Int)) == 1)
 (∃ fZ : Nat, (fZ < c7) ∧
 Rq fZ [(.int .u32 (IntKind.wrap .u32 (((Nat.bitwise bne (BitVec.ofInt IntKind.u32.bits (jm.fdiv (2 ^ min (Int.toNat 1) IntKind.u32.bits))).toNat
 (BitVec.ofInt IntKind.u32.bits 3988292384).toNat) : Nat) : Int))), (iV (IntKind.wrap .i64 (lN + 1)))] mo)
 (∃ iz : Nat, (iz < c7) ∧
 Rq iz [(.int .u32 (Int.fdiv jm 2)), (iV (IntKind.wrap .i64 (lN + 1)))] mo))
 ((0 ≤ n9) ∧
 (n9 < 256) ∧
 sT mo k3 (0 + (Int.toNat n9)) (.int .u32 jm) fun rA =>
 ∃ eZ : Nat, (eZ < k7) ∧
 I5 eZ [(iV (IntKind.wrap .i64 (n9 + 1)))] rA))
 (Si (Mem.iH gF ⟨k3, 0, none⟩ 0 256) fun l22 =>
 VM gF k1 0 l22 256 fun j5 =>
 Si (Mem.iH j5 ⟨k1, 0, none⟩ 0 256) fun l24 =>
 K (.agg (l24.toArray)) j5)) :
 aa Tryz.prog 168 #[] M K Kp := vw [(2000000, .loop [(4, .c (.int .i64))]), (2000002, .loop [(3, .c (.int .u32)), (9, .c (.int .i64))])] Tryz.func168 h
theorem u3 {lO : Int} {r1 : ByteArray} (h :
aX M (cl [(.int .u32 lO)] 287) fun k1 M2 =>
aX M2 (cl [(.int .u32 0)] 287) fun k3 M4 =>
aa Tryz.prog 168 #[] M4 (fun v5 M6 =>
∃ l7 : List Value, ((l7.length) = 256) ∧
(v5 = (.agg (l7.toArray))) ∧
aX M6 (cl [(.int .u32 0), (.int .u32 0), (.int .u32 0), (.int .u32 0), (.int .u32 0), (.int .u32 0), (.int .u32 0), (.int .u32 0), (.int .u32 0), (.int .u32 0), (.int .u32 0), (.int .u32 0), (.int .u32 0), (.int .u32 0), (.int .u32 0), (.int .u32 0), (.int .u32 0), (.int .u32 0), (.int .u32 0), (.int .u32 0), (.int .u32 0), (.int .u32 0), (.int .u32 0), (.int .u32 0), (.int .u32 0), (.int .u32 0), (.int .u32 0), (.int .u32 0), (.int .u32 0), (.int .u32 0), (.int .u32 0), (.int .u32 0), (.int .u32 0), (.int .u32 0), (.int .u32 0), (.int .u32 0), (.int .u32 0), (.int .u32 0), (.int .u32 0), (.int .u32 0), (.int .u32 0), (.int .u32 0), (.int .u32 0), (.int .u32 0), (.int .u32 0), (.int .u32 0), (.int .u32 0), (.int .u32 0), (.int .u32 0), (.int .u32 0), (.int .u32 0), (.int .u32 0), (.int .u32 0), (.int .u32 0), (.int .u32 0), (.int .u32 0), (.int .u32 0), (.int .u32 0), (.int .u32 0), (.int .u32 0), (.int .u32 0), (.int .u32 0), (.int .u32 0), (.int .u32 0), (.int .u32 0), (.int .u32 0), (.int .u32 0), (.int .u32 0), (.int .u32 0), (.int .u32 0), (.int .u32 0), (.int .u32 0), (.int .u32 0), (.int .u32 0), (.int .u32 0), (.int .u32 0), (.int .u32 0), (.int .u32 0), (.int .u32 0), (.int .u32 0), (.int .u32 0), (.int .u32 0), (.int .u32 0), (.int .u32 0), (.int .u32 0), (.int .u32 0), (.int .u32 0), (.int .u32 0), (.int .u32 0), (.int .u32 0), (.int .u32 0), (.int .u32 0), (.int .u32 0), (.int .u32 0), (.int .u32 0), (.int .u32 0), (.int .u32 0), (.int .u32 0), (.int .u32 0), (.int .u32 0), (.int .u32 0), (.int .u32 0), (.int .u32 0), (.int .u32 0), (.int .u32 0), (.int .u32 0), (.int .u32 0), (.int .u32 0), (.int .u32 0), (.int .u32 0), (.int .u32 0), (.int .u32 0), (.int .u32 0), (.int .u32 0), (.int .u32 0), (.int .u32 0), (.int .u32 0), (.int .u32 0), (.int .u32 0), (.int .u32 0), (.int .u32 0), (.int .u32 0), (.int .u32 0), (.int .u32 0), (.int .u32 0), (.int .u32 0), (.int .u32 0), (.int .u32 0), (.int .u32 0), (.int .u32 0), (.int .u32 0), (.int .u32 0), (.int .u32 0), (.int .u32 0), (.int .u32 0), (.int .u32 0), (.int .u32 0), (.int .u32 0), (.int .u32 0), (.int .u32 0), (.int .u32 0), (.int .u32 0), (.int .u32 0), (.int .u32 0), (.int .u32 0), (.int .u32 0), (.int .u32 0), (.int .u32 0), (.int .u32 0), (.int .u32 0), (.int .u32 0), (.int .u32 0), (.int .u32 0), (.int .u32 0), (.int .u32 0), (.int .u32 0), (.int .u32 0), (.int .u32 0), (.int .u32 0), (.int .u32 0), (.int .u32 0), (.int .u32 0), (.int .u32 0), (.int .u32 0), (.int .u32 0), (.int .u32 0), (.int .u32 0), (.int .u32 0), (.int .u32 0), (.int .u32 0), (.int .u32 0), (.int .u32 0), (.int .u32 0), (.int .u32 0), (.int .u32 0), (.int .u32 0), (.int .u32 0), (.int .u32 0), (.int .u32 0), (.int .u32 0), (.int .u32 0), (.int .u32 0), (.int .u32 0), (.int .u32 0), (.int .u32 0), (.int .u32 0), (.int .u32 0), (.int .u32 0), (.int .u32 0), (.int .u32 0), (.int .u32 0), (.int .u32 0), (.int .u32 0), (.int .u32 0), (.int .u32 0), (.int .u32 0), (.int .u32 0), (.int .u32 0), (.int .u32 0), (.int .u32 0), (.int .u32 0), (.int .u32 0), (.int .u32 0), (.int .u32 0), (.int .u32 0), (.int .u32 0), (.int .u32 0), (.int .u32 0), (.int .u32 0), (.int .u32 0), (.int .u32 0), (.int .u32 0), (.int .u32 0), (.int .u32 0), (.int .u32 0), (.int .u32 0), (.int .u32 0), (.int .u32 0), (.int .u32 0), (.int .u32 0), (.int .u32 0), (.int .u32 0), (.int .u32 0), (.int .u32 0), (.int .u32 0), (.int .u32 0), (.int .u32 0), (.int .u32 0), (.int .u32 0), (.int .u32 0), (.int .u32 0), (.int .u32 0), (.int .u32 0), (.int .u32 0), (.int .u32 0), (.int .u32 0), (.int .u32 0), (.int .u32 0), (.int .u32 0), (.int .u32 0), (.int .u32 0), (.int .u32 0), (.int .u32 0), (.int .u32 0), (.int .u32 0), (.int .u32 0), (.int .u32 0), (.int .u32 0), (.int .u32 0), (.int .u32 0), (.int .u32 0), (.int .u32 0), (.int .u32 0), (.int .u32 0), (.int .u32 0), (.int .u32 0)] 325) fun k8 M9 =>
VM M9 k8 0 l7 256 fun gF =>
aH (Mem.ld gF ⟨k1, 0, none⟩) .u32 fun gG =>
aN Tryz.prog (Go.convert 9 212 (.string r1)) gF (fun CX kj =>
az (some CX) fun mq gX gA =>
∃ To : IT, (∃ fZ, To fZ [(.int .u32 (IntKind.wrap .u32 (((Nat.bitwise bne (BitVec.ofInt IntKind.u32.bits (if IntKind.u32.signed = true then -1 else IntKind.u32.max)).toNat
 (BitVec.ofInt IntKind.u32.bits gG).toNat) : Nat) : Int))), (iV 0)] kj) ∧
∀ (iz : Nat) (_ : Nat → Value) (mO : Int) (qP : Int) (j5 : Mem), (To iz [(.int .u32 mO), (iV qP)] j5) → aM (decide (qP < gX))
 ((0 ≤ qP) ∧
 (qP < gX) ∧
 aF mq fun sE oB =>
 aH (Mem.ld j5 ⟨sE, (oB + (Int.toNat qP)), none⟩) .u8 fun mw =>
 ((0 : Int) ≤ (IntKind.wrap .u8 (((Nat.bitwise bne (BitVec.ofInt IntKind.u8.bits (IntKind.u8.wrap mO)).toNat (BitVec.ofInt IntKind.u8.bits mw).toNat) : Nat) : Int))) ∧
 (((IntKind.wrap .u8 (((Nat.bitwise bne (BitVec.ofInt IntKind.u8.bits (IntKind.u8.wrap mO)).toNat (BitVec.ofInt IntKind.u8.bits mw).toNat) : Nat) : Int)) : Int) < 256) ∧
 aH (Mem.ld j5 ⟨k8, (0 + (Int.toNat (IntKind.wrap .u8 (((Nat.bitwise bne (BitVec.ofInt IntKind.u8.bits (IntKind.u8.wrap mO)).toNat (BitVec.ofInt IntKind.u8.bits mw).toNat) : Nat) : Int)))), none⟩) .u32 fun mV =>
 ∃ qT : Nat, (qT < iz) ∧
 To qT [(.int .u32 (IntKind.wrap .u32 (((Nat.bitwise bne (BitVec.ofInt IntKind.u32.bits (mO.fdiv (2 ^ min (Int.toNat 8) IntKind.u32.bits))).toNat
 (BitVec.ofInt IntKind.u32.bits mV).toNat) : Nat) : Int))), (iV (IntKind.wrap .i64 (qP + 1)))] j5)
 (sT j5 k3 0 (.int .u32 (IntKind.wrap .u32 (((Nat.bitwise bne (BitVec.ofInt IntKind.u32.bits (if IntKind.u32.signed = true then -1 else IntKind.u32.max)).toNat
 (BitVec.ofInt IntKind.u32.bits mO).toNat) : Nat) : Int))) fun mP =>
 aH (Mem.ld mP ⟨k3, 0, none⟩) .u32 fun DM =>
 K (.agg #[(.int .u32 DM)]) mP)) Kp) Kp) :
 aa Tryz.prog 142 #[.agg #[.int .u32 lO], .string r1] M K Kp := vw [(2000000, .loop [(6, .c (.int .u32)), (16, .c (.int .i64))])] Tryz.func142 h
theorem u4 {lO : Int} (h :
aX M (cl [(.int .u32 lO)] 287) fun k1 M2 =>
aH (Mem.ld M2 ⟨k1, 0, none⟩) .u32 fun n3 =>
K (.int .u32 n3) M2) :
 aa Tryz.prog 143 #[.agg #[.int .u32 lO]] M K Kp := vw [] Tryz.func143 h
end Go.Proofs
namespace Go.Proofs
open Go.AF
set_option maxRecDepth 100000
variable {M : Mem} {K : Value → Mem → Prop} {Kp : List PanicEntry → Mem → Prop}
theorem u5 {x0 : Int} {r1 : ByteArray} (h :
aM (decide (((((ByteArray.size r1) : Nat) : Int) : Int) > 4096))
 (K (.tuple #[(.string ({ data := #[] })), (iV 3)]) M)
 (aa Tryz.prog 100 #[(.int .u64 x0)] M (fun v1 M2 =>
 dM (some v1) fun s3 =>
 ((2 + (ByteArray.size s3)) ≤ 9223372036854775807) ∧
 aa Tryz.prog 100 #[(.int .u64 (IntKind.wrap .u64 (((ByteArray.size r1) : Nat) : Int)))] M2 (fun v4 M5 =>
 dM (some v4) fun s6 =>
 (((ByteArray.size (({ data := #[83, 103] }) ++ s3)) + (ByteArray.size s6)) ≤ 9223372036854775807) ∧
 (((ByteArray.size ((({ data := #[83, 103] }) ++ s3) ++ s6)) + (ByteArray.size r1)) ≤ 9223372036854775807) ∧
 aX M5 (.cells #[(.string ((({ data := #[83, 103] }) ++ s3) ++ s6)), (.string r1)] 9 (0, 0)) fun k7 M8 =>
 aa Tryz.prog 102 #[(.slice (some ⟨k7, 0, none⟩) 2 2)] M8 (fun v9 gF =>
 aH (some v9) .u32 fun gG =>
 aa Tryz.prog 118 #[(.int .u32 gG)] gF (fun CX kj =>
 dM (some CX) fun s14 =>
 (((ByteArray.size (((({ data := #[83, 103] }) ++ s3) ++ s6) ++ r1)) + (ByteArray.size s14)) ≤ 9223372036854775807) ∧
 K (.tuple #[(.string ((((({ data := #[83, 103] }) ++ s3) ++ s6) ++ r1) ++ s14)), (iV 0)]) kj) Kp) Kp) Kp) Kp)) :
 aa Tryz.prog 69 #[.int .u64 x0, .string r1] M K Kp := vw [] Tryz.func69 h
theorem wL {x0 : Int} (h :
aX M (cl [(.int .u8 (IntKind.wrap .u8 x0)), (.int .u8 (IntKind.wrap .u8 (Int.fdiv x0 256))), (.int .u8 (IntKind.wrap .u8 (Int.fdiv x0 65536))), (.int .u8 (IntKind.wrap .u8 (Int.fdiv x0 16777216)))] 5) fun k1 M2 =>
aN Tryz.prog (Go.convert 212 9 (.slice (some ⟨k1, 0, none⟩) 4 4)) M2 (fun v3 M4 =>
dM (some v3) fun s5 =>
K (.string s5) M4) Kp) :
 aa Tryz.prog 118 #[.int .u32 x0] M K Kp := vw [] Tryz.func118 h
theorem m5 {lO : Int} {tq : Int} (h :
aX M (cl [(iV lO), (.int .u64 tq)] 95) fun k1 M2 =>
rU M2 k1 1 fun n3 =>
rI M2 k1 0 fun n4 =>
aa Tryz.prog 100 #[(.int .u64 (IntKind.wrap .u64 (((Nat.bitwise or (BitVec.ofInt IntKind.u64.bits (IntKind.u64.wrap (n3 * 2 ^ min (Int.toNat 2) IntKind.u64.bits))).toNat
 (BitVec.ofInt IntKind.u64.bits (IntKind.u64.wrap (IntKind.i64.wrap (n4 - 1)))).toNat) : Nat) : Int)))] M2 (fun v5 M6 =>
dM (some v5) fun s7 =>
K (.string s7) M6) Kp) :
 aa Tryz.prog 70 #[.agg #[.int .i64 lO, .int .u64 tq]] M K Kp := vw [] Tryz.func70 h
end Go.Proofs
namespace Go.Proofs
open Go.AF
set_option maxRecDepth 100000
theorem r8  {M : Mem} {K : Value → Mem → Prop} {Kp : List PanicEntry → Mem → Prop} (h :
aa Tryz.prog 69 #[(.int .u64 0), (.string ({ data := #[] }))] M (fun v1 M2 =>
∃ s3 : ByteArray, ∃ n4 : Int, (v1 = (.tuple #[(.string s3), (iV n4)])) ∧
aM (n4 == 0)
 (aM ((((ByteArray.size s3) : Nat) : Int) == 8)
 (aa Tryz.prog 70 #[(.agg #[(iV 1), (.int .u64 3)])] M2 (fun v5 M6 =>
 dM (some v5) fun s7 =>
 K (.bool (s7.toList == ({ data := #[12] } : ByteArray).toList)) M6) Kp)
 (K (.bool false) M2))
 (K (.bool false) M2)) Kp) :
 aa Tryz.prog 27 #[] M K Kp := vw [] Tryz.func27 h
theorem ku {x0 : Int} {x1 : Int} {x2 : Int} {dW : Int} {dX : Int} {dY : Int} {dZ : Int} {M : Mem} {K : Value → Mem → Prop} {Kp : List PanicEntry → Mem → Prop} (h :
aX M (cl [(iV dW), (iV dX), (iV dY), (iV dZ)] 23) fun k1 M2 =>
((4 : Int) ≠ 0) ∧
iB M2 k1 0 fun n3 n4 n5 n6 =>
aa Tryz.prog 14 #[(.agg #[(iV n3), (iV n4), (iV n5), (iV n6)])] M2 (fun v7 M8 =>
∃ n9 iS gG iQ : Int, (v7 = (.agg #[(iV n9), (iV iS), (iV gG), (iV iQ)])) ∧
aX M8 Jg fun c7 mh =>
Lx mh c7 (iV n9) (iV iS) (iV gG) (iV iQ) fun qg =>
rI qg c7 0 fun wY =>
((2 : Int) ≠ 0) ∧
rI qg c7 1 fun iD =>
((2 : Int) ≠ 0) ∧
((4 : Int) ≠ 0) ∧
((3 : Int) ≠ 0) ∧
Lx qg c7 (iV (IntKind.wrap .i64 (1 + (Int.tmod wY 2)))) (iV (IntKind.wrap .i64 (1 + (Int.tmod iD 2)))) (iV (IntKind.wrap .i64 (2 + (Int.tmod (IntKind.wrap .i64 (((Nat.bitwise and (BitVec.ofInt IntKind.i64.bits x2).toNat (BitVec.ofInt IntKind.i64.bits 255).toNat) : Nat) : Int)) 4)))) (iV (IntKind.wrap .i64 (1 + (Int.tmod (IntKind.wrap .i64 (((Nat.bitwise and (BitVec.ofInt IntKind.i64.bits x1).toNat (BitVec.ofInt IntKind.i64.bits 255).toNat) : Nat) : Int)) 3)))) fun jn =>
aX jn (cl [(iV 11), (iV 1), (iV 0), (iV 1), (iV 11), (iV 2), (iV 0), (iV 1)] 27) fun oB uu =>
∃ Tc : IT, (∃ qT, Tc qT [(.slice (some ⟨oB, 0, none⟩) 2 2), (iV 0)] uu) ∧
∀ (gY : Nat) (_ : Nat → Value) (Ph : Option Addr) (ur : Nat) (qR : Nat) (Pk : Int) (wH : Mem), (Tc gY [(.slice Ph ur qR), (iV Pk)] wH) → aM (decide ((Pk : Int) < (IntKind.wrap .i64 (1 + (Int.tmod (IntKind.wrap .i64 (((Nat.bitwise and (BitVec.ofInt IntKind.i64.bits x0).toNat (BitVec.ofInt IntKind.i64.bits 255).toNat) : Nat) : Int)) 4)))))
 (aX wH (cl [(iV 11), (iV 3), (iV 0), (iV 1)] 27) fun LY FT =>
 aA 28 Ph ur qR (some ⟨LY, 0, none⟩) 1 1 FT (fun v38 Rt =>
 az (some v38) fun Yo Jn LN =>
 ∃ AH : Nat, (AH < gY) ∧
 Tc AH [(.slice Yo Jn LN), (iV (IntKind.wrap .i64 (Pk + 1)))] Rt) Kp)
 (aX wH (cl [(iV 14), (iV 2), (iV 1), (iV 2)] 27) fun Pc uw =>
 aA 28 Ph ur qR (some ⟨Pc, 0, none⟩) 1 1 uw (fun v46 wE =>
 az (some v46) fun Jz Hz LS =>
 aX wE O6 fun B7 S8 =>
 aX S8 (cl [(iV 13), (iV 0), (iV 0), (iV 0), (iV 14), (iV 1), (iV 1), (iV 2), (iV 7), (iV 0), (iV 0), (iV 0)] 27) fun pQ Pb =>
 aX Pb (cl [(iV 14), (iV 0), (iV 1), (iV 2), (iV 13), (iV 1), (iV 0), (iV 0), (iV 7), (iV 0), (iV 0), (iV 0)] 27) fun HB SS =>
 aX SS (cl [(iV 0), (iV 0), (iV 0), (iV 0), (iV 7), (iV 0), (iV 0), (iV 0)] 27) fun xZ Jw =>
 aX Jw (cl [(.slice Jz Hz LS), (.slice (some ⟨pQ, 0, none⟩) 3 3), (.slice (some ⟨HB, 0, none⟩) 3 3), (.slice (some ⟨xZ, 0, none⟩) 2 2)] 28) fun Ht nD =>
 aX nD Jh fun Oz sF =>
 Lx sF Oz (.slice (some ⟨Ht, 0, none⟩) 4 4) (.slice (some ⟨B7, 0, none⟩) 3 3) (iV 0) (.slice none 0 0) fun Vq =>
 aX Vq (cl [] 32) fun ux Tj =>
 ∃ Tg : IT, (∃ Jx, Tg Jx [(.slice (some ⟨ux, 0, none⟩) 0 0), (iV 0)] Tj) ∧
 ∀ (Jy : Nat) (_ : Nat → Value) (WT : Option Addr) (FR : Nat) (Tk : Nat) (Hu : Int) (zO : Mem), (Tg Jy [(.slice WT FR Tk), (iV Hu)] zO) → aM (decide (Hu < 4000))
 (rI zO c7 1 fun CZ =>
 ((CZ : Int) ≠ 0) ∧
 aX zO (cl [(.int .u64 (IntKind.wrap .u64 (Int.tmod Hu CZ)))] 32) fun Rv uW =>
 aA 31 WT FR Tk (some ⟨Rv, 0, none⟩) 1 1 uW (fun v81 M82 =>
 az (some v81) fun A83 k84 JD =>
 ∃ HC : Nat, (HC < Jy) ∧
 Tg HC [(.slice A83 k84 JD), (iV (IntKind.wrap .i64 (Hu + 1)))] M82) Kp)
 (rS zO Oz 0 fun WX Mf WY =>
 rS zO Oz 1 fun A90 k91 k92 =>
 rI zO Oz 2 fun n93 =>
 rS zO Oz 3 fun A94 ZT ZU =>
 iB zO c7 0 fun n97 Rk Ox nF =>
 aa Tryz.prog 29 #[(.agg #[(.slice WX Mf WY), (.slice A90 k91 k92), (iV n93), (.slice A94 ZT ZU)]), (.agg #[(iV n97), (iV Rk), (iV Ox), (iV nF)]), (.slice WT FR Tk), (iV 4000)] zO (fun v101 M102 =>
 ∃ Xl Xm Xn Xo : Int, (v101 = (.agg #[(iV Xl), (iV Xm), (iV Xn), (iV Xo)])) ∧
 aX M102 AD fun rX ME =>
 Lx ME rX (iV Xl) (iV Xm) (iV Xn) (iV Xo) fun M112 =>
 aa Tryz.prog 27 #[] M112 (fun v113 mY =>
 cK (some v113) fun t115 =>
 aM t115
 (rI mY rX 2 fun n116 =>
 aM (decide (n116 > 0))
 (rI mY rX 1 fun n117 =>
 aM (decide ((n117 : Int) ≤ (IntKind.wrap .i64 ((IntKind.wrap .i64 (1 + (Int.tmod (IntKind.wrap .i64 (((Nat.bitwise and (BitVec.ofInt IntKind.i64.bits x0).toNat (BitVec.ofInt IntKind.i64.bits 255).toNat) : Nat) : Int)) 4))) + 3))))
 (rI mY c7 0 fun n118 =>
 rI mY c7 1 fun F0 =>
 rI mY c7 2 fun Cd =>
 rI mY c7 3 fun Ce =>
 rI mY rX 2 fun Ts =>
 rI mY rX 1 fun n123 =>
 rI mY rX 3 fun Xp =>
 aa Tryz.prog 30 #[(.agg #[(iV n118), (iV F0), (iV Cd), (iV Ce)]), (iV Ts), (iV n123)] mY (fun v125 Xq =>
 aH (some v125) .i64 fun ya =>
 eI Xq rX 3 Xp ∧
 K (.bool (decide (Xp ≤ ya))) Xq) Kp)
 (K (.bool false) mY))
 (K (.bool false) mY))
 (K (.bool false) mY)) Kp) Kp)) Kp)) Kp) :
 aa Tryz.prog 5 #[.int .i64 x0, .int .i64 x1, .int .i64 x2, .agg #[.int .i64 dW, .int .i64 dX, .int .i64 dY, .int .i64 dZ]] M K Kp := vw [(2000000, .loop [(10, .c .sl), (45, .c (.int .i64))]), (2000002, .loop [(12, .c .sl), (72, .c (.int .i64))]), (18, .bQ [0, 1, 3, 7, 15, 31, 63, 127, 255, 127, 639, 2047, 4095, 8191, 16383, 32767, 16383, 16383, 147455, 16383, 540671, 2047999, 4194303, 8388607, 16777215] (sy [0, 1, 2, 3, 4, 5, 6, 7, 9, 10, 8, 11, 12, 13, 14, 17, 19, 16, 18, 20] (.eN 15 (sy [21, 22, 23, 24] .done))))] Tryz.func5 h
end Go.Proofs
