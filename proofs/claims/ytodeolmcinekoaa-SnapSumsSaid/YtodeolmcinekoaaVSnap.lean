/- A part of proofs about functions of one program: a condition over a partial memory that is enough for a call, and what calls answer by it. No condition of its own. -/
import Derived.Test.YtodeolmcinekoaaCx
namespace Go.Proofs
open Go.AF
set_option linter.unusedVariables false
set_option maxRecDepth 100000
theorem vc_shunterlaw19_SnapSums {B0 : Option Addr} {m0 c0 : Nat} {M : Mem} {K : Value → Mem → Prop} {Kp : List PanicEntry → Mem → Prop} (h :
((0 : Int) ≤ ((c0 : Nat) : Int)) ∧
((((c0 : Nat) : Int) : Int) ≤ ((c0 : Nat) : Int)) ∧
((0 : Int) ≤ (if (30 : Int) < ((m0 : Nat) : Int) then 30 else ((m0 : Nat) : Int))) ∧
(((if (30 : Int) < ((m0 : Nat) : Int) then 30 else ((m0 : Nat) : Int)) : Int) ≤ ((c0 : Nat) : Int)) ∧
((0 : Int) ≤ 0) ∧
((0 : Int) ≤ (if (30 : Int) < ((m0 : Nat) : Int) then 30 else ((m0 : Nat) : Int))) ∧
ACalls Try.prog 48 #[] M (fun v1 M2 =>
exB (some v1) fun t3 =>
bsp t3
 (ACalls Try.prog 49 #[(.slice (slA B0 0 (Int.toNat ((c0 : Nat) : Int)) 1) ((Int.toNat (if (30 : Int) < ((m0 : Nat) : Int) then 30 else ((m0 : Nat) : Int))) - 0) ((Int.toNat ((c0 : Nat) : Int)) - 0))] M2 (fun v4 M5 =>
  exI (some v4) .u32 fun n6 =>
  ACalls Try.prog 50 #[(.slice (slA B0 0 (Int.toNat ((c0 : Nat) : Int)) 1) ((Int.toNat (if (30 : Int) < ((m0 : Nat) : Int) then 30 else ((m0 : Nat) : Int))) - 0) ((Int.toNat ((c0 : Nat) : Int)) - 0))] M5 (fun v7 M8 =>
  exI (some v7) .u32 fun n9 =>
  K (.bool (n6 == n9)) M8) Kp) Kp)
 (K (.bool false) M2)) Kp) :
  ACalls Try.prog 11 ([.slice B0 m0 c0] : List Value).toArray M K Kp :=
  acalls_vc (C := Cx) good [] Try.func11 (by kernel_rfl) (by kernel_rfl) h

theorem vc_shunterlaw19_awake  {M : Mem} {K : Value → Mem → Prop} {Kp : List PanicEntry → Mem → Prop} (h :
ACalls Try.prog 49 #[(.slice none 0 0)] M (fun v1 M2 =>
exI (some v1) .u32 fun n3 =>
bsp (n3 == 0)
 (nwc M2 (.cells #[(.int .i64 0)] 2 (0, 0)) fun k4 M5 =>
  ACalls Try.prog 49 #[(.slice (some ⟨k4, 0, none⟩) 1 1)] M5 (fun v6 M7 =>
  exI (some v6) .u32 fun n8 =>
  K (.bool (n8 == 3523407757)) M7) Kp)
 (K (.bool false) M2)) Kp) :
  ACalls Try.prog 48 ([] : List Value).toArray M K Kp :=
  acalls_vc (C := Cx) good [] Try.func48 (by kernel_rfl) (by kernel_rfl) h

theorem vc_snap_Digest {B0 : Option Addr} {m0 c0 : Nat} {M : Mem} {K : Value → Mem → Prop} {Kp : List PanicEntry → Mem → Prop} (h :
nwc M (.cells #[] 5 (0, 0)) fun k1 M2 =>
∃ I3 : Nat → List Value → Mem → Prop, (∃ k4 : Nat, I3 k4 [(.slice (some ⟨k1, 0, none⟩) 0 0), (.int .i64 0)] M2) ∧
∀ k5 : Nat, ∀ junk6 : Nat → Value, ∀ A7 : Option Addr, ∀ k8 : Nat, ∀ k9 : Nat, ∀ n10 : Int, ∀ M11 : Mem, (I3 k5 [(.slice A7 k8 k9), (.int .i64 n10)] M11) → bsp (decide ((n10 : Int) < ((m0 : Nat) : Int)))
 (((0 : Int) ≤ n10) ∧
  ((n10 : Int) < ((m0 : Nat) : Int)) ∧
  nilc B0 fun k12 k13 =>
  exI (Mem.ld M11 ⟨k12, (k13 + (Int.toNat n10)), none⟩) .i64 fun n14 =>
  ACalls Try.prog 82 #[(.int .i64 n14)] M11 (fun v15 M16 =>
  exI (some v15) .u64 fun n17 =>
  ACalls Try.prog 81 #[(.int .u64 n17)] M16 (fun v18 M19 =>
  exS (some v18) fun s20 =>
  semK Try.prog (Go.Builtin.append_ #[151, 9] 151 #[(.slice A7 k8 k9), (.string s20)]) M19 (fun v21 M22 =>
  exSl (some v21) fun A23 k24 k25 =>
  ∃ k26 : Nat, (k26 < k5) ∧
  I3 k26 [(.slice A23 k24 k25), (.int .i64 (IntKind.wrap .i64 (n10 + 1)))] M22) Kp) Kp) Kp)
 (semK Try.prog (Go.convert 151 9 (.slice A7 k8 k9)) M11 (fun v27 M28 =>
  exS (some v27) fun s29 =>
  nwc M28 (.cells #[(.string s29)] 9 (0, 0)) fun k30 M31 =>
  ACalls Try.prog 83 #[(.slice (some ⟨k30, 0, none⟩) 1 1)] M31 (fun v32 M33 =>
  exI (some v32) .u32 fun n34 =>
  K (.int .u32 n34) M33) Kp) Kp)) :
  ACalls Try.prog 49 ([.slice B0 m0 c0] : List Value).toArray M K Kp :=
  acalls_vc (C := Cx) good [(2000000, .loop [(3, .c .sl), (9, .c (.int .i64))])] Try.func49 (by kernel_rfl) (by kernel_rfl) h

theorem vc_shunterref19_Digest {B0 : Option Addr} {m0 c0 : Nat} {M : Mem} {K : Value → Mem → Prop} {Kp : List PanicEntry → Mem → Prop} (h :
∃ I1 : Nat → List Value → Mem → Prop, (∃ k2 : Nat, I1 k2 [(.string ({ data := #[] })), (.int .i64 0)] M) ∧
∀ k3 : Nat, ∀ junk4 : Nat → Value, ∀ s5 : ByteArray, ∀ n6 : Int, ∀ M7 : Mem, (I1 k3 [(.string s5), (.int .i64 n6)] M7) → bsp (decide ((n6 : Int) < ((m0 : Nat) : Int)))
 (((0 : Int) ≤ n6) ∧
  ((n6 : Int) < ((m0 : Nat) : Int)) ∧
  nilc B0 fun k8 k9 =>
  exI (Mem.ld M7 ⟨k8, (k9 + (Int.toNat n6)), none⟩) .i64 fun n10 =>
  ACalls Try.prog 85 #[(.int .i64 n10)] M7 (fun v11 M12 =>
  exI (some v11) .u64 fun n13 =>
  ACalls Try.prog 84 #[(.int .u64 n13)] M12 (fun v14 M15 =>
  exS (some v14) fun s16 =>
  (((ByteArray.size s5) + (ByteArray.size s16)) ≤ 9223372036854775807) ∧
  ∃ k17 : Nat, (k17 < k3) ∧
  I1 k17 [(.string (s5 ++ s16)), (.int .i64 (IntKind.wrap .i64 (n6 + 1)))] M15) Kp) Kp)
 (ACalls Try.prog 86 #[(.string s5)] M7 (fun v18 M19 =>
  exI (some v18) .u32 fun n20 =>
  K (.int .u32 n20) M19) Kp)) :
  ACalls Try.prog 50 ([.slice B0 m0 c0] : List Value).toArray M K Kp :=
  acalls_vc (C := Cx) good [(2000000, .loop [(3, .c .str), (8, .c (.int .i64))])] Try.func50 (by kernel_rfl) (by kernel_rfl) h

theorem vc_leb_Put {x0 : Int} {M : Mem} {K : Value → Mem → Prop} {Kp : List PanicEntry → Mem → Prop} (h :
∃ I1 : Nat → List Value → Mem → Prop, (∃ k2 : Nat, I1 k2 [(.int .u64 x0), (.slice none 0 0)] M) ∧
∀ k3 : Nat, ∀ junk4 : Nat → Value, ∀ n5 : Int, ∀ A6 : Option Addr, ∀ k7 : Nat, ∀ k8 : Nat, ∀ M9 : Mem, (I1 k3 [(.int .u64 n5), (.slice A6 k7 k8)] M9) → bsp (decide ((n5 : Int) ≥ 128))
 (nwc M9 (.cells #[(.int .u8 (IntKind.wrap .u8 (((Nat.bitwise or (BitVec.ofInt IntKind.u8.bits (IntKind.u8.wrap n5)).toNat (BitVec.ofInt IntKind.u8.bits 128).toNat) : Nat) : Int)))] 5 (0, 0)) fun k10 M11 =>
  semK Try.prog (Go.Builtin.append_ #[151, 151] 151 #[(.slice A6 k7 k8), (.slice (some ⟨k10, 0, none⟩) 1 1)]) M11 (fun v12 M13 =>
  exSl (some v12) fun A14 k15 k16 =>
  ∃ k17 : Nat, (k17 < k3) ∧
  I1 k17 [(.int .u64 (Int.fdiv n5 128)), (.slice A14 k15 k16)] M13) Kp)
 (nwc M9 (.cells #[(.int .u8 (IntKind.wrap .u8 n5))] 5 (0, 0)) fun k18 M19 =>
  semK Try.prog (Go.Builtin.append_ #[151, 151] 151 #[(.slice A6 k7 k8), (.slice (some ⟨k18, 0, none⟩) 1 1)]) M19 (fun v20 M21 =>
  exSl (some v20) fun A22 k23 k24 =>
  semK Try.prog (Go.convert 151 9 (.slice A22 k23 k24)) M21 (fun v25 M26 =>
  exS (some v25) fun s27 =>
  K (.string s27) M26) Kp) Kp)) :
  ACalls Try.prog 81 ([.int .u64 x0] : List Value).toArray M K Kp :=
  acalls_vc (C := Cx) good [(2000000, .loop [(0, .c (.int .u64)), (3, .c .sl)])] Try.func81 (by kernel_rfl) (by kernel_rfl) h

theorem vc_leb_Zig {x0 : Int} {M : Mem} {K : Value → Mem → Prop} {Kp : List PanicEntry → Mem → Prop} (h :
K (.int .u64 (IntKind.wrap .u64 (((Nat.bitwise bne
  (BitVec.ofInt IntKind.u64.bits
      (IntKind.u64.wrap (IntKind.i64.wrap (x0 * 2 ^ min (Int.toNat 1) IntKind.i64.bits)))).toNat
  (BitVec.ofInt IntKind.u64.bits (IntKind.u64.wrap (x0.fdiv (2 ^ min (Int.toNat 63) IntKind.i64.bits)))).toNat) : Nat) : Int))) M) :
  ACalls Try.prog 82 ([.int .i64 x0] : List Value).toArray M K Kp :=
  acalls_vc (C := Cx) good [] Try.func82 (by kernel_rfl) (by kernel_rfl) h

theorem vc_crc_Of {B0 : Option Addr} {m0 c0 : Nat} {M : Mem} {K : Value → Mem → Prop} {Kp : List PanicEntry → Mem → Prop} (h :
nwc M (.cells #[(.int .u32 0)] 188 (0, 0)) fun k1 M2 =>
∃ I3 : Nat → List Value → Mem → Prop, (∃ k4 : Nat, I3 k4 [(.int .i64 0)] M2) ∧
∀ k5 : Nat, ∀ junk6 : Nat → Value, ∀ n7 : Int, ∀ M8 : Mem, (I3 k5 [(.int .i64 n7)] M8) → bsp (decide ((n7 : Int) < ((m0 : Nat) : Int)))
 (((0 : Int) ≤ n7) ∧
  ((n7 : Int) < ((m0 : Nat) : Int)) ∧
  nilc B0 fun k9 k10 =>
  exS (Mem.ld M8 ⟨k9, (k10 + (Int.toNat n7)), none⟩) fun s11 =>
  exI (Mem.ld M8 ⟨k1, 0, none⟩) .u32 fun n12 =>
  ACalls Try.prog 106 #[(.agg #[(.int .u32 n12)]), (.string s11)] M8 (fun v13 M14 =>
  ∃ n15 : Int, (v13 = (.agg #[(.int .u32 n15)])) ∧
  stc M14 ⟨k1, 0, none⟩ (.int .u32 n15) fun M16 =>
  ∃ k17 : Nat, (k17 < k5) ∧
  I3 k17 [(.int .i64 (IntKind.wrap .i64 (n7 + 1)))] M16) Kp)
 (exI (Mem.ld M8 ⟨k1, 0, none⟩) .u32 fun n18 =>
  ACalls Try.prog 107 #[(.agg #[(.int .u32 n18)])] M8 (fun v19 M20 =>
  exI (some v19) .u32 fun n21 =>
  K (.int .u32 n21) M20) Kp)) :
  ACalls Try.prog 83 ([.slice B0 m0 c0] : List Value).toArray M K Kp :=
  acalls_vc (C := Cx) good [(2000000, .loop [(8, .c (.int .i64))])] Try.func83 (by kernel_rfl) (by kernel_rfl) h

theorem vc_shunterref01_Put {x0 : Int} {M : Mem} {K : Value → Mem → Prop} {Kp : List PanicEntry → Mem → Prop} (h :
bsp (decide ((x0 : Int) < 128))
 (nwc M (.cells #[(.int .u8 (IntKind.wrap .u8 x0))] 5 (0, 0)) fun k1 M2 =>
  semK Try.prog (Go.convert 151 9 (.slice (some ⟨k1, 0, none⟩) 1 1)) M2 (fun v3 M4 =>
  exS (some v3) fun s5 =>
  K (.string s5) M4) Kp)
 (∃ J6 : List Value → Mem → Prop, (((128 : Int) ≠ 0) ∧
   ((128 : Int) ≠ 0) ∧
   (nwc M (.cells #[(.int .u8 (IntKind.wrap .u8 ((IntKind.wrap .u8 (Int.tmod x0 128)) + 128)))] 5 (0, 0)) fun k7 M8 =>
    (semK Try.prog (Go.convert 151 9 (.slice (some ⟨k7, 0, none⟩) 1 1)) M8 (fun v9 M10 =>
     exS (some v9) fun s11 =>
     ACalls Try.prog 84 #[(.int .u64 (IntKind.wrap .u64 (Int.tdiv x0 128)))] M10 (fun v12 M13 =>
     exS (some v12) fun s14 =>
     (((ByteArray.size s11) + (ByteArray.size s14)) ≤ 9223372036854775807) ∧
     J6 [(.string (s11 ++ s14))] M13) Kp) Kp) ∧
    (ACalls Try.prog 84 #[(.int .u64 (IntKind.wrap .u64 (Int.tdiv x0 128)))] M8 (fun v15 M16 =>
     exS (some v15) fun s17 =>
     semK Try.prog (Go.convert 151 9 (.slice (some ⟨k7, 0, none⟩) 1 1)) M16 (fun v18 M19 =>
     exS (some v18) fun s20 =>
     (((ByteArray.size s20) + (ByteArray.size s17)) ≤ 9223372036854775807) ∧
     J6 [(.string (s20 ++ s17))] M19) Kp) Kp) ∧
    True) ∧
   (ACalls Try.prog 84 #[(.int .u64 (IntKind.wrap .u64 (Int.tdiv x0 128)))] M (fun v21 M22 =>
    exS (some v21) fun s23 =>
    nwc M22 (.cells #[(.int .u8 (IntKind.wrap .u8 ((IntKind.wrap .u8 (Int.tmod x0 128)) + 128)))] 5 (0, 0)) fun k24 M25 =>
    semK Try.prog (Go.convert 151 9 (.slice (some ⟨k24, 0, none⟩) 1 1)) M25 (fun v26 M27 =>
    exS (some v26) fun s28 =>
    (((ByteArray.size s28) + (ByteArray.size s23)) ≤ 9223372036854775807) ∧
    J6 [(.string (s28 ++ s23))] M27) Kp) Kp) ∧
   True) ∧
  ∀ junk29 : Nat → Value, ∀ s30 : ByteArray, ∀ M31 : Mem, (J6 [(.string s30)] M31) → K (.string s30) M31)) :
  ACalls Try.prog 84 ([.int .u64 x0] : List Value).toArray M K Kp :=
  acalls_vc (C := Cx) good [(3, .regc [0, 1, 3, 7, 15, 31, 0, 64, 192, 511, 1023] (.step 0 (.step 1 (.step 2 (.step 3 (.step 6 (.step 7 (.fork 4 (.fork 5 (.step 8 (.step 9 (.step 10 .done))) (.fork 8 (.step 5 (.step 9 (.step 10 .done))) .dead)) (.fork 8 (.step 4 (.step 5 (.step 9 (.step 10 .done)))) .dead)))))))) [(2, .c .str)])] Try.func84 (by kernel_rfl) (by kernel_rfl) h

theorem vc_shunterref01_Zig {x0 : Int} {M : Mem} {K : Value → Mem → Prop} {Kp : List PanicEntry → Mem → Prop} (h :
bsp (decide ((x0 : Int) ≥ 0))
 (K (.int .u64 (IntKind.wrap .u64 (2 * (IntKind.wrap .u64 x0)))) M)
 (K (.int .u64 (IntKind.wrap .u64 ((IntKind.wrap .u64 (2 * (IntKind.wrap .u64 (IntKind.wrap .i64 (0 - (IntKind.wrap .i64 (x0 + 1))))))) + 1))) M)) :
  ACalls Try.prog 85 ([.int .i64 x0] : List Value).toArray M K Kp :=
  acalls_vc (C := Cx) good [] Try.func85 (by kernel_rfl) (by kernel_rfl) h

theorem vc_shunterref03_Sum {r0 : ByteArray} {M : Mem} {K : Value → Mem → Prop} {Kp : List PanicEntry → Mem → Prop} (h :
∃ I1 : Nat → List Value → Mem → Prop, (∃ k2 : Nat, I1 k2 [(.int .u32 4294967295), (.int .i64 0)] M) ∧
∀ k3 : Nat, ∀ junk4 : Nat → Value, ∀ n5 : Int, ∀ n6 : Int, ∀ M7 : Mem, (I1 k3 [(.int .u32 n5), (.int .i64 n6)] M7) → bsp (decide ((n6 : Int) < (((ByteArray.size r0) : Nat) : Int)))
 (((0 : Int) ≤ n6) ∧
  ((n6 : Int) < (((ByteArray.size r0) : Nat) : Int)) ∧
  ∃ I8 : Nat → List Value → Mem → Prop, (∃ k9 : Nat, I8 k9 [(.int .u32 n5), (.int .u32 (IntKind.wrap .u32 (strAt r0 (Int.toNat n6)))), (.int .i64 0)] M7) ∧
  ∀ k10 : Nat, ∀ junk11 : Nat → Value, ∀ n12 : Int, ∀ n13 : Int, ∀ n14 : Int, ∀ M15 : Mem, (I8 k10 [(.int .u32 n12), (.int .u32 n13), (.int .i64 n14)] M15) → bsp (decide ((n14 : Int) < 8))
   (((2 : Int) ≠ 0) ∧
    ((2 : Int) ≠ 0) ∧
    ((2 : Int) ≠ 0) ∧
    bsp ((Int.tmod (IntKind.wrap .u32 (n12 + n13)) 2) == 1)
     (∃ k16 : Nat, (k16 < k10) ∧
      I8 k16 [(.int .u32 (IntKind.wrap .u32 (((Nat.bitwise bne
  (BitVec.ofInt IntKind.u32.bits
      (match BinOp.quo with
      | BinOp.quo => IntKind.u32.wrap (n12.tdiv 2)
      | x => n12.tmod 2)).toNat
  (BitVec.ofInt IntKind.u32.bits 3988292384).toNat) : Nat) : Int))), (.int .u32 (IntKind.wrap .u32 (Int.tdiv n13 2))), (.int .i64 (IntKind.wrap .i64 (n14 + 1)))] M15)
     (∃ k17 : Nat, (k17 < k10) ∧
      I8 k17 [(.int .u32 (IntKind.wrap .u32 (Int.tdiv n12 2))), (.int .u32 (IntKind.wrap .u32 (Int.tdiv n13 2))), (.int .i64 (IntKind.wrap .i64 (n14 + 1)))] M15))
   (∃ k18 : Nat, (k18 < k3) ∧
    I1 k18 [(.int .u32 n12), (.int .i64 (IntKind.wrap .i64 (n6 + 1)))] M15))
 (K (.int .u32 (IntKind.wrap .u32 (4294967295 - n5))) M7)) :
  ACalls Try.prog 86 ([.string r0] : List Value).toArray M K Kp :=
  acalls_vc (C := Cx) good [(2000000, .loop [(3, .c (.int .u32)), (4, .c (.int .i64))]), (2000002, .loop [(3, .c (.int .u32)), (5, .c (.int .u32)), (6, .c (.int .i64))])] Try.func86 (by kernel_rfl) (by kernel_rfl) h

theorem vc_crc_State_Add {x0_0 : Int} {r1 : ByteArray} {M : Mem} {K : Value → Mem → Prop} {Kp : List PanicEntry → Mem → Prop} (h :
nwc M (.cells #[(.int .u32 x0_0)] 188 (0, 0)) fun k1 M2 =>
nwc M2 (.cells #[(.int .u32 0)] 188 (0, 0)) fun k3 M4 =>
ACalls Try.prog 111 #[] M4 (fun v5 M6 =>
∃ l7 : List Value, ((l7.length) = 256) ∧
(v5 = (.agg ({ toList := l7 }))) ∧
nwc M6 (.cells #[(.int .u32 0), (.int .u32 0), (.int .u32 0), (.int .u32 0), (.int .u32 0), (.int .u32 0), (.int .u32 0), (.int .u32 0), (.int .u32 0), (.int .u32 0), (.int .u32 0), (.int .u32 0), (.int .u32 0), (.int .u32 0), (.int .u32 0), (.int .u32 0), (.int .u32 0), (.int .u32 0), (.int .u32 0), (.int .u32 0), (.int .u32 0), (.int .u32 0), (.int .u32 0), (.int .u32 0), (.int .u32 0), (.int .u32 0), (.int .u32 0), (.int .u32 0), (.int .u32 0), (.int .u32 0), (.int .u32 0), (.int .u32 0), (.int .u32 0), (.int .u32 0), (.int .u32 0), (.int .u32 0), (.int .u32 0), (.int .u32 0), (.int .u32 0), (.int .u32 0), (.int .u32 0), (.int .u32 0), (.int .u32 0), (.int .u32 0), (.int .u32 0), (.int .u32 0), (.int .u32 0), (.int .u32 0), (.int .u32 0), (.int .u32 0), (.int .u32 0), (.int .u32 0), (.int .u32 0), (.int .u32 0), (.int .u32 0), (.int .u32 0), (.int .u32 0), (.int .u32 0), (.int .u32 0), (.int .u32 0), (.int .u32 0), (.int .u32 0), (.int .u32 0), (.int .u32 0), (.int .u32 0), (.int .u32 0), (.int .u32 0), (.int .u32 0), (.int .u32 0), (.int .u32 0), (.int .u32 0), (.int .u32 0), (.int .u32 0), (.int .u32 0), (.int .u32 0), (.int .u32 0), (.int .u32 0), (.int .u32 0), (.int .u32 0), (.int .u32 0), (.int .u32 0), (.int .u32 0), (.int .u32 0), (.int .u32 0), (.int .u32 0), (.int .u32 0), (.int .u32 0), (.int .u32 0), (.int .u32 0), (.int .u32 0), (.int .u32 0), (.int .u32 0), (.int .u32 0), (.int .u32 0), (.int .u32 0), (.int .u32 0), (.int .u32 0), (.int .u32 0), (.int .u32 0), (.int .u32 0), (.int .u32 0), (.int .u32 0), (.int .u32 0), (.int .u32 0), (.int .u32 0), (.int .u32 0), (.int .u32 0), (.int .u32 0), (.int .u32 0), (.int .u32 0), (.int .u32 0), (.int .u32 0), (.int .u32 0), (.int .u32 0), (.int .u32 0), (.int .u32 0), (.int .u32 0), (.int .u32 0), (.int .u32 0), (.int .u32 0), (.int .u32 0), (.int .u32 0), (.int .u32 0), (.int .u32 0), (.int .u32 0), (.int .u32 0), (.int .u32 0), (.int .u32 0), (.int .u32 0), (.int .u32 0), (.int .u32 0), (.int .u32 0), (.int .u32 0), (.int .u32 0), (.int .u32 0), (.int .u32 0), (.int .u32 0), (.int .u32 0), (.int .u32 0), (.int .u32 0), (.int .u32 0), (.int .u32 0), (.int .u32 0), (.int .u32 0), (.int .u32 0), (.int .u32 0), (.int .u32 0), (.int .u32 0), (.int .u32 0), (.int .u32 0), (.int .u32 0), (.int .u32 0), (.int .u32 0), (.int .u32 0), (.int .u32 0), (.int .u32 0), (.int .u32 0), (.int .u32 0), (.int .u32 0), (.int .u32 0), (.int .u32 0), (.int .u32 0), (.int .u32 0), (.int .u32 0), (.int .u32 0), (.int .u32 0), (.int .u32 0), (.int .u32 0), (.int .u32 0), (.int .u32 0), (.int .u32 0), (.int .u32 0), (.int .u32 0), (.int .u32 0), (.int .u32 0), (.int .u32 0), (.int .u32 0), (.int .u32 0), (.int .u32 0), (.int .u32 0), (.int .u32 0), (.int .u32 0), (.int .u32 0), (.int .u32 0), (.int .u32 0), (.int .u32 0), (.int .u32 0), (.int .u32 0), (.int .u32 0), (.int .u32 0), (.int .u32 0), (.int .u32 0), (.int .u32 0), (.int .u32 0), (.int .u32 0), (.int .u32 0), (.int .u32 0), (.int .u32 0), (.int .u32 0), (.int .u32 0), (.int .u32 0), (.int .u32 0), (.int .u32 0), (.int .u32 0), (.int .u32 0), (.int .u32 0), (.int .u32 0), (.int .u32 0), (.int .u32 0), (.int .u32 0), (.int .u32 0), (.int .u32 0), (.int .u32 0), (.int .u32 0), (.int .u32 0), (.int .u32 0), (.int .u32 0), (.int .u32 0), (.int .u32 0), (.int .u32 0), (.int .u32 0), (.int .u32 0), (.int .u32 0), (.int .u32 0), (.int .u32 0), (.int .u32 0), (.int .u32 0), (.int .u32 0), (.int .u32 0), (.int .u32 0), (.int .u32 0), (.int .u32 0), (.int .u32 0), (.int .u32 0), (.int .u32 0), (.int .u32 0), (.int .u32 0), (.int .u32 0), (.int .u32 0), (.int .u32 0), (.int .u32 0), (.int .u32 0), (.int .u32 0), (.int .u32 0), (.int .u32 0), (.int .u32 0), (.int .u32 0), (.int .u32 0), (.int .u32 0), (.int .u32 0), (.int .u32 0), (.int .u32 0), (.int .u32 0), (.int .u32 0), (.int .u32 0), (.int .u32 0)] 194 (0, 0)) fun k8 M9 =>
stL M9 k8 0 l7.toArray.toList 256 fun M10 =>
exI (Mem.ld M10 ⟨k1, 0, none⟩) .u32 fun n11 =>
semK Try.prog (Go.convert 9 151 (.string r1)) M10 (fun v12 M13 =>
exSl (some v12) fun A14 k15 k16 =>
∃ I17 : Nat → List Value → Mem → Prop, (∃ k18 : Nat, I17 k18 [(.int .u32 (IntKind.wrap .u32 (((Nat.bitwise bne (BitVec.ofInt IntKind.u32.bits (if IntKind.u32.signed = true then -1 else IntKind.u32.max)).toNat
  (BitVec.ofInt IntKind.u32.bits n11).toNat) : Nat) : Int))), (.int .i64 0)] M13) ∧
∀ k19 : Nat, ∀ junk20 : Nat → Value, ∀ n21 : Int, ∀ n22 : Int, ∀ M23 : Mem, (I17 k19 [(.int .u32 n21), (.int .i64 n22)] M23) → bsp (decide ((n22 : Int) < ((k15 : Nat) : Int)))
 (((0 : Int) ≤ n22) ∧
  ((n22 : Int) < ((k15 : Nat) : Int)) ∧
  nilc A14 fun k24 k25 =>
  exI (Mem.ld M23 ⟨k24, (k25 + (Int.toNat n22)), none⟩) .u8 fun n26 =>
  ((0 : Int) ≤ (IntKind.wrap .u8 (((Nat.bitwise bne (BitVec.ofInt IntKind.u8.bits (IntKind.u8.wrap n21)).toNat (BitVec.ofInt IntKind.u8.bits n26).toNat) : Nat) : Int))) ∧
  (((IntKind.wrap .u8 (((Nat.bitwise bne (BitVec.ofInt IntKind.u8.bits (IntKind.u8.wrap n21)).toNat (BitVec.ofInt IntKind.u8.bits n26).toNat) : Nat) : Int)) : Int) < 256) ∧
  exI (Mem.ld M23 ⟨k8, (0 + (Int.toNat (IntKind.wrap .u8 (((Nat.bitwise bne (BitVec.ofInt IntKind.u8.bits (IntKind.u8.wrap n21)).toNat (BitVec.ofInt IntKind.u8.bits n26).toNat) : Nat) : Int)))), none⟩) .u32 fun n27 =>
  ∃ k28 : Nat, (k28 < k19) ∧
  I17 k28 [(.int .u32 (IntKind.wrap .u32 (((Nat.bitwise bne (BitVec.ofInt IntKind.u32.bits (n21.fdiv (2 ^ min (Int.toNat 8) IntKind.u32.bits))).toNat
  (BitVec.ofInt IntKind.u32.bits n27).toNat) : Nat) : Int))), (.int .i64 (IntKind.wrap .i64 (n22 + 1)))] M23)
 (stc M23 ⟨k3, 0, none⟩ (.int .u32 (IntKind.wrap .u32 (((Nat.bitwise bne (BitVec.ofInt IntKind.u32.bits (if IntKind.u32.signed = true then -1 else IntKind.u32.max)).toNat
  (BitVec.ofInt IntKind.u32.bits n21).toNat) : Nat) : Int))) fun M29 =>
  exI (Mem.ld M29 ⟨k3, 0, none⟩) .u32 fun n30 =>
  K (.agg #[(.int .u32 n30)]) M29)) Kp) Kp) :
  ACalls Try.prog 106 ([.agg #[.int .u32 x0_0], .string r1] : List Value).toArray M K Kp :=
  acalls_vc (C := Cx) good [(2000000, .loop [(6, .c (.int .u32)), (16, .c (.int .i64))])] Try.func106 (by kernel_rfl) (by kernel_rfl) h

theorem vc_crc_State_Sum {x0_0 : Int} {M : Mem} {K : Value → Mem → Prop} {Kp : List PanicEntry → Mem → Prop} (h :
nwc M (.cells #[(.int .u32 x0_0)] 188 (0, 0)) fun k1 M2 =>
exI (Mem.ld M2 ⟨k1, 0, none⟩) .u32 fun n3 =>
K (.int .u32 n3) M2) :
  ACalls Try.prog 107 ([.agg #[.int .u32 x0_0]] : List Value).toArray M K Kp :=
  acalls_vc (C := Cx) good [] Try.func107 (by kernel_rfl) (by kernel_rfl) h

theorem vc_crc_table  {M : Mem} {K : Value → Mem → Prop} {Kp : List PanicEntry → Mem → Prop} (h :
nwc M (.cells #[(.int .u32 0), (.int .u32 0), (.int .u32 0), (.int .u32 0), (.int .u32 0), (.int .u32 0), (.int .u32 0), (.int .u32 0), (.int .u32 0), (.int .u32 0), (.int .u32 0), (.int .u32 0), (.int .u32 0), (.int .u32 0), (.int .u32 0), (.int .u32 0), (.int .u32 0), (.int .u32 0), (.int .u32 0), (.int .u32 0), (.int .u32 0), (.int .u32 0), (.int .u32 0), (.int .u32 0), (.int .u32 0), (.int .u32 0), (.int .u32 0), (.int .u32 0), (.int .u32 0), (.int .u32 0), (.int .u32 0), (.int .u32 0), (.int .u32 0), (.int .u32 0), (.int .u32 0), (.int .u32 0), (.int .u32 0), (.int .u32 0), (.int .u32 0), (.int .u32 0), (.int .u32 0), (.int .u32 0), (.int .u32 0), (.int .u32 0), (.int .u32 0), (.int .u32 0), (.int .u32 0), (.int .u32 0), (.int .u32 0), (.int .u32 0), (.int .u32 0), (.int .u32 0), (.int .u32 0), (.int .u32 0), (.int .u32 0), (.int .u32 0), (.int .u32 0), (.int .u32 0), (.int .u32 0), (.int .u32 0), (.int .u32 0), (.int .u32 0), (.int .u32 0), (.int .u32 0), (.int .u32 0), (.int .u32 0), (.int .u32 0), (.int .u32 0), (.int .u32 0), (.int .u32 0), (.int .u32 0), (.int .u32 0), (.int .u32 0), (.int .u32 0), (.int .u32 0), (.int .u32 0), (.int .u32 0), (.int .u32 0), (.int .u32 0), (.int .u32 0), (.int .u32 0), (.int .u32 0), (.int .u32 0), (.int .u32 0), (.int .u32 0), (.int .u32 0), (.int .u32 0), (.int .u32 0), (.int .u32 0), (.int .u32 0), (.int .u32 0), (.int .u32 0), (.int .u32 0), (.int .u32 0), (.int .u32 0), (.int .u32 0), (.int .u32 0), (.int .u32 0), (.int .u32 0), (.int .u32 0), (.int .u32 0), (.int .u32 0), (.int .u32 0), (.int .u32 0), (.int .u32 0), (.int .u32 0), (.int .u32 0), (.int .u32 0), (.int .u32 0), (.int .u32 0), (.int .u32 0), (.int .u32 0), (.int .u32 0), (.int .u32 0), (.int .u32 0), (.int .u32 0), (.int .u32 0), (.int .u32 0), (.int .u32 0), (.int .u32 0), (.int .u32 0), (.int .u32 0), (.int .u32 0), (.int .u32 0), (.int .u32 0), (.int .u32 0), (.int .u32 0), (.int .u32 0), (.int .u32 0), (.int .u32 0), (.int .u32 0), (.int .u32 0), (.int .u32 0), (.int .u32 0), (.int .u32 0), (.int .u32 0), (.int .u32 0), (.int .u32 0), (.int .u32 0), (.int .u32 0), (.int .u32 0), (.int .u32 0), (.int .u32 0), (.int .u32 0), (.int .u32 0), (.int .u32 0), (.int .u32 0), (.int .u32 0), (.int .u32 0), (.int .u32 0), (.int .u32 0), (.int .u32 0), (.int .u32 0), (.int .u32 0), (.int .u32 0), (.int .u32 0), (.int .u32 0), (.int .u32 0), (.int .u32 0), (.int .u32 0), (.int .u32 0), (.int .u32 0), (.int .u32 0), (.int .u32 0), (.int .u32 0), (.int .u32 0), (.int .u32 0), (.int .u32 0), (.int .u32 0), (.int .u32 0), (.int .u32 0), (.int .u32 0), (.int .u32 0), (.int .u32 0), (.int .u32 0), (.int .u32 0), (.int .u32 0), (.int .u32 0), (.int .u32 0), (.int .u32 0), (.int .u32 0), (.int .u32 0), (.int .u32 0), (.int .u32 0), (.int .u32 0), (.int .u32 0), (.int .u32 0), (.int .u32 0), (.int .u32 0), (.int .u32 0), (.int .u32 0), (.int .u32 0), (.int .u32 0), (.int .u32 0), (.int .u32 0), (.int .u32 0), (.int .u32 0), (.int .u32 0), (.int .u32 0), (.int .u32 0), (.int .u32 0), (.int .u32 0), (.int .u32 0), (.int .u32 0), (.int .u32 0), (.int .u32 0), (.int .u32 0), (.int .u32 0), (.int .u32 0), (.int .u32 0), (.int .u32 0), (.int .u32 0), (.int .u32 0), (.int .u32 0), (.int .u32 0), (.int .u32 0), (.int .u32 0), (.int .u32 0), (.int .u32 0), (.int .u32 0), (.int .u32 0), (.int .u32 0), (.int .u32 0), (.int .u32 0), (.int .u32 0), (.int .u32 0), (.int .u32 0), (.int .u32 0), (.int .u32 0), (.int .u32 0), (.int .u32 0), (.int .u32 0), (.int .u32 0), (.int .u32 0), (.int .u32 0), (.int .u32 0), (.int .u32 0), (.int .u32 0), (.int .u32 0), (.int .u32 0), (.int .u32 0), (.int .u32 0), (.int .u32 0), (.int .u32 0), (.int .u32 0), (.int .u32 0), (.int .u32 0), (.int .u32 0), (.int .u32 0), (.int .u32 0), (.int .u32 0), (.int .u32 0), (.int .u32 0), (.int .u32 0), (.int .u32 0), (.int .u32 0)] 194 (0, 0)) fun k1 M2 =>
nwc M2 (.cells #[(.int .u32 0), (.int .u32 0), (.int .u32 0), (.int .u32 0), (.int .u32 0), (.int .u32 0), (.int .u32 0), (.int .u32 0), (.int .u32 0), (.int .u32 0), (.int .u32 0), (.int .u32 0), (.int .u32 0), (.int .u32 0), (.int .u32 0), (.int .u32 0), (.int .u32 0), (.int .u32 0), (.int .u32 0), (.int .u32 0), (.int .u32 0), (.int .u32 0), (.int .u32 0), (.int .u32 0), (.int .u32 0), (.int .u32 0), (.int .u32 0), (.int .u32 0), (.int .u32 0), (.int .u32 0), (.int .u32 0), (.int .u32 0), (.int .u32 0), (.int .u32 0), (.int .u32 0), (.int .u32 0), (.int .u32 0), (.int .u32 0), (.int .u32 0), (.int .u32 0), (.int .u32 0), (.int .u32 0), (.int .u32 0), (.int .u32 0), (.int .u32 0), (.int .u32 0), (.int .u32 0), (.int .u32 0), (.int .u32 0), (.int .u32 0), (.int .u32 0), (.int .u32 0), (.int .u32 0), (.int .u32 0), (.int .u32 0), (.int .u32 0), (.int .u32 0), (.int .u32 0), (.int .u32 0), (.int .u32 0), (.int .u32 0), (.int .u32 0), (.int .u32 0), (.int .u32 0), (.int .u32 0), (.int .u32 0), (.int .u32 0), (.int .u32 0), (.int .u32 0), (.int .u32 0), (.int .u32 0), (.int .u32 0), (.int .u32 0), (.int .u32 0), (.int .u32 0), (.int .u32 0), (.int .u32 0), (.int .u32 0), (.int .u32 0), (.int .u32 0), (.int .u32 0), (.int .u32 0), (.int .u32 0), (.int .u32 0), (.int .u32 0), (.int .u32 0), (.int .u32 0), (.int .u32 0), (.int .u32 0), (.int .u32 0), (.int .u32 0), (.int .u32 0), (.int .u32 0), (.int .u32 0), (.int .u32 0), (.int .u32 0), (.int .u32 0), (.int .u32 0), (.int .u32 0), (.int .u32 0), (.int .u32 0), (.int .u32 0), (.int .u32 0), (.int .u32 0), (.int .u32 0), (.int .u32 0), (.int .u32 0), (.int .u32 0), (.int .u32 0), (.int .u32 0), (.int .u32 0), (.int .u32 0), (.int .u32 0), (.int .u32 0), (.int .u32 0), (.int .u32 0), (.int .u32 0), (.int .u32 0), (.int .u32 0), (.int .u32 0), (.int .u32 0), (.int .u32 0), (.int .u32 0), (.int .u32 0), (.int .u32 0), (.int .u32 0), (.int .u32 0), (.int .u32 0), (.int .u32 0), (.int .u32 0), (.int .u32 0), (.int .u32 0), (.int .u32 0), (.int .u32 0), (.int .u32 0), (.int .u32 0), (.int .u32 0), (.int .u32 0), (.int .u32 0), (.int .u32 0), (.int .u32 0), (.int .u32 0), (.int .u32 0), (.int .u32 0), (.int .u32 0), (.int .u32 0), (.int .u32 0), (.int .u32 0), (.int .u32 0), (.int .u32 0), (.int .u32 0), (.int .u32 0), (.int .u32 0), (.int .u32 0), (.int .u32 0), (.int .u32 0), (.int .u32 0), (.int .u32 0), (.int .u32 0), (.int .u32 0), (.int .u32 0), (.int .u32 0), (.int .u32 0), (.int .u32 0), (.int .u32 0), (.int .u32 0), (.int .u32 0), (.int .u32 0), (.int .u32 0), (.int .u32 0), (.int .u32 0), (.int .u32 0), (.int .u32 0), (.int .u32 0), (.int .u32 0), (.int .u32 0), (.int .u32 0), (.int .u32 0), (.int .u32 0), (.int .u32 0), (.int .u32 0), (.int .u32 0), (.int .u32 0), (.int .u32 0), (.int .u32 0), (.int .u32 0), (.int .u32 0), (.int .u32 0), (.int .u32 0), (.int .u32 0), (.int .u32 0), (.int .u32 0), (.int .u32 0), (.int .u32 0), (.int .u32 0), (.int .u32 0), (.int .u32 0), (.int .u32 0), (.int .u32 0), (.int .u32 0), (.int .u32 0), (.int .u32 0), (.int .u32 0), (.int .u32 0), (.int .u32 0), (.int .u32 0), (.int .u32 0), (.int .u32 0), (.int .u32 0), (.int .u32 0), (.int .u32 0), (.int .u32 0), (.int .u32 0), (.int .u32 0), (.int .u32 0), (.int .u32 0), (.int .u32 0), (.int .u32 0), (.int .u32 0), (.int .u32 0), (.int .u32 0), (.int .u32 0), (.int .u32 0), (.int .u32 0), (.int .u32 0), (.int .u32 0), (.int .u32 0), (.int .u32 0), (.int .u32 0), (.int .u32 0), (.int .u32 0), (.int .u32 0), (.int .u32 0), (.int .u32 0), (.int .u32 0), (.int .u32 0), (.int .u32 0), (.int .u32 0), (.int .u32 0), (.int .u32 0), (.int .u32 0), (.int .u32 0), (.int .u32 0), (.int .u32 0), (.int .u32 0), (.int .u32 0), (.int .u32 0), (.int .u32 0), (.int .u32 0), (.int .u32 0), (.int .u32 0), (.int .u32 0), (.int .u32 0), (.int .u32 0), (.int .u32 0), (.int .u32 0)] 194 (0, 0)) fun k3 M4 =>
∃ I5 : Nat → List Value → Mem → Prop, (∃ k6 : Nat, I5 k6 [(.int .i64 0)] M4) ∧
∀ k7 : Nat, ∀ junk8 : Nat → Value, ∀ n9 : Int, ∀ M10 : Mem, (I5 k7 [(.int .i64 n9)] M10) → bsp (decide ((n9 : Int) < 256))
 (∃ I11 : Nat → List Value → Mem → Prop, (∃ k12 : Nat, I11 k12 [(.int .u32 (IntKind.wrap .u32 n9)), (.int .i64 0)] M10) ∧
  ∀ k13 : Nat, ∀ junk14 : Nat → Value, ∀ n15 : Int, ∀ n16 : Int, ∀ M17 : Mem, (I11 k13 [(.int .u32 n15), (.int .i64 n16)] M17) → bsp (decide ((n16 : Int) < 8))
   (bsp ((IntKind.wrap .u32 (((Nat.bitwise and (BitVec.ofInt IntKind.u32.bits n15).toNat (BitVec.ofInt IntKind.u32.bits 1).toNat) : Nat) : Int)) == 1)
     (∃ k18 : Nat, (k18 < k13) ∧
      I11 k18 [(.int .u32 (IntKind.wrap .u32 (((Nat.bitwise bne (BitVec.ofInt IntKind.u32.bits (n15.fdiv (2 ^ min (Int.toNat 1) IntKind.u32.bits))).toNat
  (BitVec.ofInt IntKind.u32.bits 3988292384).toNat) : Nat) : Int))), (.int .i64 (IntKind.wrap .i64 (n16 + 1)))] M17)
     (∃ k19 : Nat, (k19 < k13) ∧
      I11 k19 [(.int .u32 (Int.fdiv n15 2)), (.int .i64 (IntKind.wrap .i64 (n16 + 1)))] M17))
   (((0 : Int) ≤ n9) ∧
    ((n9 : Int) < 256) ∧
    stc M17 ⟨k3, (0 + (Int.toNat n9)), none⟩ (.int .u32 n15) fun M20 =>
    ∃ k21 : Nat, (k21 < k7) ∧
    I5 k21 [(.int .i64 (IntKind.wrap .i64 (n9 + 1)))] M20))
 (exL (Mem.lds M10 ⟨k3, 0, none⟩ 0 256) fun l22 =>
  stL M10 k1 0 l22.toArray.toList 256 fun M23 =>
  exL (Mem.lds M23 ⟨k1, 0, none⟩ 0 256) fun l24 =>
  K (.agg ({ toList := l24 })) M23)) :
  ACalls Try.prog 111 ([] : List Value).toArray M K Kp :=
  acalls_vc (C := Cx) good [(2000000, .loop [(4, .c (.int .i64))]), (2000002, .loop [(3, .c (.int .u32)), (9, .c (.int .i64))])] Try.func111 (by kernel_rfl) (by kernel_rfl) h

end Go.Proofs
