/- A part of proofs about functions of one program: a condition over a partial memory that is enough for a call, and what calls answer by it. No condition of its own. -/
import Derived.Scope
import Derived.Test.YtfjgcljdnhkmaaaGreatProg
import Derived.WalkKit
import Derived.Test.YtfjgcljdnhkmaaaGreatZSchedStealsBase
import Derived.Test.YtfjgcljdnhkmaaaGreatZSchedStealsOps
import Derived.Test.YtfjgcljdnhkmaaaGreatZSchedStealsOpsB
import Derived.Test.YtfjgcljdnhkmaaaGreatZSchedStealsOpC
import Derived.Test.YtfjgcljdnhkmaaaGreatZSchedStealsFrame
import Derived.Test.YtfjgcljdnhkmaaaGreatZSchedStealsReg
import Derived.Test.YtfjgcljdnhkmaaaGreatZSchedStealsRegB
import Derived.Test.YtfjgcljdnhkmaaaGreatZSchedStealsRegL
import Derived.Test.YtfjgcljdnhkmaaaGreatZSchedStealsRegC
import Derived.Test.YtfjgcljdnhkmaaaGreatZSchedStealsExec
import Derived.Test.YtfjgcljdnhkmaaaGreatZSchedStealsSound
import Derived.Test.YtfjgcljdnhkmaaaGreatZSchedStealsSoundB
import Derived.Test.YtfjgcljdnhkmaaaGreatZSchedStealsLib
import Derived.Test.YtfjgcljdnhkmaaaGreatZSchedStealsHp
import Derived.Test.YtfjgcljdnhkmaaaGreatZSchedStealsRow
import Derived.Test.YtfjgcljdnhkmaaaGreatZSchedStealsMod
import Derived.Test.YtfjgcljdnhkmaaaGreatZSchedSteals0

namespace Go.Proofs
open Go.AF
set_option linter.unusedVariables false
set_option maxRecDepth 100000
theorem vc_local_New {x0 : Int} {M : Mem} {K : Value → Mem → Prop} {Kp : List PanicEntry → Mem → Prop} (h :
ACalls Tryz.prog 103 #[(.int .i64 x0)] M (fun v1 M2 =>
exP (some v1) fun A3 =>
nwc M2 (.cells #[(.int .i64 (-1)), (.pointer A3)] 224 (0, 0)) fun k4 M5 =>
K (.pointer (some ⟨k4, 0, none⟩)) M5) Kp) :
  ACalls Tryz.prog 52 ([.int .i64 x0] : List Value).toArray M K Kp :=
  acalls_vc (C := Cx) good [] Tryz.func52 (by kernel_rfl) (by kernel_rfl) h

theorem vc_local_Global_Put {b0 o0 : Nat} {B1 : Option Addr} {m1 c1 : Nat} {M : Mem} {K : Value → Mem → Prop} {Kp : List PanicEntry → Mem → Prop} (h :
exSl (Mem.ld M ⟨b0, o0, none⟩) fun A1 k2 k3 =>
semK Tryz.prog (Go.Builtin.append_ #[38, 38] 38 #[(.slice A1 k2 k3), (.slice B1 m1 c1)]) M (fun v4 M5 =>
exSl (some v4) fun A6 k7 k8 =>
stc M5 ⟨b0, o0, none⟩ (.slice A6 k7 k8) fun M9 =>
K (.tuple #[]) M9) Kp) :
  ACalls Tryz.prog 53 ([.pointer (some ⟨b0, o0, none⟩), .slice B1 m1 c1] : List Value).toArray M K Kp :=
  acalls_vc (C := Cx) good [] Tryz.func53 (by kernel_rfl) (by kernel_rfl) h

theorem vc_local_Local_Next {b0 o0 : Nat} {M : Mem} {K : Value → Mem → Prop} {Kp : List PanicEntry → Mem → Prop} (h :
exI (Mem.ld M ⟨b0, o0, none⟩) .i64 fun n1 =>
K (.int .i64 n1) M) :
  ACalls Tryz.prog 58 ([.pointer (some ⟨b0, o0, none⟩)] : List Value).toArray M K Kp :=
  acalls_vc (C := Cx) good [] Tryz.func58 (by kernel_rfl) (by kernel_rfl) h

theorem vc_local_Local_List {b0 o0 : Nat} {M : Mem} {K : Value → Mem → Prop} {Kp : List PanicEntry → Mem → Prop} (h :
exP (Mem.ld M ⟨b0, (o0 + 1), none⟩) fun A1 =>
ACalls Tryz.prog 105 #[(.pointer A1)] M (fun v2 M3 =>
exSl (some v2) fun A4 k5 k6 =>
K (.slice A4 k5 k6) M3) Kp) :
  ACalls Tryz.prog 59 ([.pointer (some ⟨b0, o0, none⟩)] : List Value).toArray M K Kp :=
  acalls_vc (C := Cx) good [] Tryz.func59 (by kernel_rfl) (by kernel_rfl) h

theorem vc_ring_New {x0 : Int} {M : Mem} {K : Value → Mem → Prop} {Kp : List PanicEntry → Mem → Prop} (h :
semK Tryz.prog (Go.Instr.makeSlice 38 (.int .i64 (if (1024 : Int) < (if (1 : Int) > x0 then 1 else x0) then 1024 else (if (1 : Int) > x0 then 1 else x0))) (.int .i64 (if (1024 : Int) < (if (1 : Int) > x0 then 1 else x0) then 1024 else (if (1 : Int) > x0 then 1 else x0)))) M (fun v1 M2 =>
exSl (some v1) fun A3 k4 k5 =>
nwc M2 (.cells #[(.slice A3 k4 k5), (.int .i64 0), (.int .i64 0)] 280 (0, 0)) fun k6 M7 =>
K (.pointer (some ⟨k6, 0, none⟩)) M7) Kp) :
  ACalls Tryz.prog 103 ([.int .i64 x0] : List Value).toArray M K Kp :=
  acalls_vc (C := Cx) good [] Tryz.func103 (by kernel_rfl) (by kernel_rfl) h

theorem vc_ring_Ring_List {b0 o0 : Nat} {M : Mem} {K : Value → Mem → Prop} {Kp : List PanicEntry → Mem → Prop} (h :
exI (Mem.ld M ⟨b0, (o0 + 2), none⟩) .i64 fun n1 =>
∃ I2 : Nat → List Value → Mem → Prop, (∃ k3 : Nat, I2 k3 [(.slice none 0 0), (.int .i64 0)] M) ∧
∀ k4 : Nat, ∀ junk5 : Nat → Value, ∀ A6 : Option Addr, ∀ k7 : Nat, ∀ k8 : Nat, ∀ n9 : Int, ∀ M10 : Mem, (I2 k4 [(.slice A6 k7 k8), (.int .i64 n9)] M10) → bsp (decide ((n9 : Int) < n1))
 (exSl (Mem.ld M10 ⟨b0, o0, none⟩) fun A11 k12 k13 =>
  exI (Mem.ld M10 ⟨b0, (o0 + 1), none⟩) .i64 fun n14 =>
  exSl (Mem.ld M10 ⟨b0, o0, none⟩) fun A15 k16 k17 =>
  ((((k16 : Nat) : Int) : Int) ≠ 0) ∧
  ((0 : Int) ≤ (Int.tmod (IntKind.wrap .i64 (n14 + n9)) ((k16 : Nat) : Int))) ∧
  (((Int.tmod (IntKind.wrap .i64 (n14 + n9)) ((k16 : Nat) : Int)) : Int) < ((k12 : Nat) : Int)) ∧
  nilc A11 fun k18 k19 =>
  exI (Mem.ld M10 ⟨k18, (k19 + (Int.toNat (Int.tmod (IntKind.wrap .i64 (n14 + n9)) ((k16 : Nat) : Int)))), none⟩) .i64 fun n20 =>
  nwc M10 (.cells #[(.int .i64 n20)] 3 (0, 0)) fun k21 M22 =>
  semK Tryz.prog (Go.Builtin.append_ #[38, 38] 38 #[(.slice A6 k7 k8), (.slice (some ⟨k21, 0, none⟩) 1 1)]) M22 (fun v23 M24 =>
  exSl (some v23) fun A25 k26 k27 =>
  ∃ k28 : Nat, (k28 < k4) ∧
  I2 k28 [(.slice A25 k26 k27), (.int .i64 (IntKind.wrap .i64 (n9 + 1)))] M24) Kp)
 (K (.slice A6 k7 k8) M10)) :
  ACalls Tryz.prog 105 ([.pointer (some ⟨b0, o0, none⟩)] : List Value).toArray M K Kp :=
  acalls_vc (C := Cx) good [(2000000, .loop [(3, .c .sl), (9, .c (.int .i64))]), (5, .reg [0, 0, 2, 6, 14, 0, 32, 96, 224, 0, 992, 0, 2048, 6144, 14336, 30720, 65504, 131070, 262142, 524286, 1048575, 2097151] (.step 0 (.step 1 (.step 2 (.step 3 (.step 5 (.step 6 (.step 7 (.step 9 (.step 11 (.step 12 (.step 13 (.step 4 (.step 8 (.step 10 (.step 14 (.step 15 (.step 16 (.step 17 (.step 18 (.step 19 (.step 20 (.step 21 .done)))))))))))))))))))))))] Tryz.func105 (by kernel_rfl) (by kernel_rfl) h

theorem vc_local_Local_Get {b0 o0 : Nat} {M : Mem} {K : Value → Mem → Prop} {Kp : List PanicEntry → Mem → Prop} (h :
exI (Mem.ld M ⟨b0, o0, none⟩) .i64 fun n1 =>
bsp (n1 != (-1))
 (stc M ⟨b0, o0, none⟩ (.int .i64 (-1)) fun M2 =>
  K (.tuple #[(.int .i64 n1), (.bool true)]) M2)
 (exP (Mem.ld M ⟨b0, (o0 + 1), none⟩) fun A3 =>
  ACalls Tryz.prog 176 #[(.pointer A3)] M (fun v4 M5 =>
  ∃ n6 : Int, ∃ t7 : Bool, (v4 = (.tuple #[(.int .i64 n6), (.bool t7)])) ∧
  bsp (!t7)
   (K (.tuple #[(.int .i64 (-1)), (.bool false)]) M5)
   (K (.tuple #[(.int .i64 n6), (.bool true)]) M5)) Kp)) :
  ACalls Tryz.prog 131 ([.pointer (some ⟨b0, o0, none⟩)] : List Value).toArray M K Kp :=
  acalls_vc (C := Cx) good [] Tryz.func131 (by kernel_rfl) (by kernel_rfl) h

theorem vc_local_Local_Steal {b0 o0 : Nat} {b1 o1 : Nat} {M : Mem} {K : Value → Mem → Prop} {Kp : List PanicEntry → Mem → Prop} (h :
Go.AF.ptrEq M (some ⟨b0, o0, none⟩) (some ⟨b1, o1, none⟩) fun t1 =>
bsp t1
 (K (.tuple #[(.int .i64 (-1)), (.bool false)]) M)
 (exP (Mem.ld M ⟨b1, (o1 + 1), none⟩) fun A2 =>
  ACalls Tryz.prog 180 #[(.pointer A2)] M (fun v3 M4 =>
  exI (some v3) .i64 fun n5 =>
  bsp (n5 == 0)
   (exI (Mem.ld M4 ⟨b1, o1, none⟩) .i64 fun n6 =>
    stc M4 ⟨b1, o1, none⟩ (.int .i64 (-1)) fun M7 =>
    K (.tuple #[(.int .i64 n6), (.bool (n6 != (-1)))]) M7)
   (((2 : Int) ≠ 0) ∧
    exP (Mem.ld M4 ⟨b0, (o0 + 1), none⟩) fun A8 =>
    exP (Mem.ld M4 ⟨b1, (o1 + 1), none⟩) fun A9 =>
    exP (Mem.ld M4 ⟨b0, (o0 + 1), none⟩) fun A10 =>
    ACalls Tryz.prog 182 #[(.pointer A8)] M4 (fun v11 M12 =>
    exI (some v11) .i64 fun n13 =>
    ((Mem.ld M12 ⟨b0, (o0 + 1), none⟩) = (some (.pointer A10))) ∧
    ((Mem.ld M12 ⟨b1, (o1 + 1), none⟩) = (some (.pointer A9))) ∧
    ACalls Tryz.prog 180 #[(.pointer A10)] M12 (fun v14 M15 =>
    exI (some v14) .i64 fun n16 =>
    ((Mem.ld M15 ⟨b0, (o0 + 1), none⟩) = (some (.pointer A10))) ∧
    ((Mem.ld M15 ⟨b1, (o1 + 1), none⟩) = (some (.pointer A9))) ∧
    ACalls Tryz.prog 181 #[(.pointer A9), (.int .i64 (if ((IntKind.wrap .i64 ((IntKind.wrap .i64 (n13 - n16)) + 1)) : Int) < (IntKind.wrap .i64 (n5 - (IntKind.wrap .i64 (Int.tdiv n5 2)))) then (IntKind.wrap .i64 ((IntKind.wrap .i64 (n13 - n16)) + 1)) else (IntKind.wrap .i64 (n5 - (IntKind.wrap .i64 (Int.tdiv n5 2))))))] M15 (fun v17 M18 =>
    exSl (some v17) fun A19 k20 k21 =>
    ((Mem.ld M18 ⟨b0, (o0 + 1), none⟩) = (some (.pointer A10))) ∧
    ((Mem.ld M18 ⟨b1, (o1 + 1), none⟩) = (some (.pointer A9))) ∧
    ((0 : Int) ≤ ((k21 : Nat) : Int)) ∧
    ((((k21 : Nat) : Int) : Int) ≤ ((k21 : Nat) : Int)) ∧
    ((0 : Int) ≤ ((k20 : Nat) : Int)) ∧
    ((((k20 : Nat) : Int) : Int) ≤ ((k21 : Nat) : Int)) ∧
    ((0 : Int) ≤ 1) ∧
    ((1 : Int) ≤ ((k20 : Nat) : Int)) ∧
    ∃ I22 : Nat → List Value → Mem → Prop, (∃ k23 : Nat, I22 k23 [(.int .i64 0)] M18) ∧
    ∀ k24 : Nat, ∀ junk25 : Nat → Value, ∀ n26 : Int, ∀ M27 : Mem, (I22 k24 [(.int .i64 n26)] M27) → bsp (decide ((n26 : Int) < ((((Int.toNat ((k20 : Nat) : Int)) - 1) : Nat) : Int)))
     (((0 : Int) ≤ n26) ∧
      ((n26 : Int) < ((((Int.toNat ((k20 : Nat) : Int)) - 1) : Nat) : Int)) ∧
      nilc (slA A19 1 (Int.toNat ((k21 : Nat) : Int)) 1) fun k28 k29 =>
      exI (Mem.ld M27 ⟨k28, (k29 + (Int.toNat n26)), none⟩) .i64 fun n30 =>
      exP (Mem.ld M27 ⟨b0, (o0 + 1), none⟩) fun A31 =>
      ACalls Tryz.prog 183 #[(.pointer A31), (.int .i64 n30)] M27 (fun v32 M33 =>
      exB (some v32) fun t34 =>
      ∃ k35 : Nat, (k35 < k24) ∧
      I22 k35 [(.int .i64 (IntKind.wrap .i64 (n26 + 1)))] M33) Kp)
     (((0 : Int) ≤ 0) ∧
      ((0 : Int) < ((k20 : Nat) : Int)) ∧
      nilc A19 fun k36 k37 =>
      exI (Mem.ld M27 ⟨k36, (k37 + 0), none⟩) .i64 fun n38 =>
      K (.tuple #[(.int .i64 n38), (.bool true)]) M27)) Kp) Kp) Kp)) Kp)) :
  ACalls Tryz.prog 133 ([.pointer (some ⟨b0, o0, none⟩), .pointer (some ⟨b1, o1, none⟩)] : List Value).toArray M K Kp :=
  acalls_vc (C := Cx) good [(8, .reg [0, 1, 3, 7, 0, 0, 32, 112, 0, 256, 768, 1792, 3840, 0, 8192, 24576, 57344, 130816, 261888, 524032, 1048560, 2097151, 4194303] (.step 0 (.step 1 (.step 2 (.step 4 (.step 5 (.step 6 (.step 7 (.step 8 (.step 9 (.step 10 (.step 13 (.step 14 (.step 15 (.step 11 (.prom 3 (.prom 16 (.step 12 (.step 17 (.step 18 (.step 19 (.step 20 (.step 21 (.step 22 .done)))))))))))))))))))))))), (2000000, .loop [(56, .c (.int .i64))])] Tryz.func133 (by kernel_rfl) (by kernel_rfl) h

theorem vc_local_Local_Ready {b0 o0 : Nat} {x1 : Int} {b2 o2 : Nat} {M : Mem} {K : Value → Mem → Prop} {Kp : List PanicEntry → Mem → Prop} (h :
exI (Mem.ld M ⟨b0, o0, none⟩) .i64 fun n1 =>
stc M ⟨b0, o0, none⟩ (.int .i64 x1) fun M2 =>
bsp (n1 == (-1))
 (K (.int .i64 0) M2)
 (ACalls Tryz.prog 184 #[(.pointer (some ⟨b0, o0, none⟩)), (.int .i64 n1), (.pointer (some ⟨b2, o2, none⟩))] M2 (fun v3 M4 =>
  exI (some v3) .i64 fun n5 =>
  K (.int .i64 n5) M4) Kp)) :
  ACalls Tryz.prog 134 ([.pointer (some ⟨b0, o0, none⟩), .int .i64 x1, .pointer (some ⟨b2, o2, none⟩)] : List Value).toArray M K Kp :=
  acalls_vc (C := Cx) good [] Tryz.func134 (by kernel_rfl) (by kernel_rfl) h

theorem vc_ring_Ring_Pop {b0 o0 : Nat} {M : Mem} {K : Value → Mem → Prop} {Kp : List PanicEntry → Mem → Prop} (h :
exI (Mem.ld M ⟨b0, (o0 + 2), none⟩) .i64 fun n1 =>
bsp (n1 == 0)
 (K (.tuple #[(.int .i64 0), (.bool false)]) M)
 (exSl (Mem.ld M ⟨b0, o0, none⟩) fun A2 k3 k4 =>
  exI (Mem.ld M ⟨b0, (o0 + 1), none⟩) .i64 fun n5 =>
  ((0 : Int) ≤ n5) ∧
  ((n5 : Int) < ((k3 : Nat) : Int)) ∧
  nilc A2 fun k6 k7 =>
  exI (Mem.ld M ⟨k6, (k7 + (Int.toNat n5)), none⟩) .i64 fun n8 =>
  exI (Mem.ld M ⟨b0, (o0 + 1), none⟩) .i64 fun n9 =>
  exSl (Mem.ld M ⟨b0, o0, none⟩) fun A10 k11 k12 =>
  ((((k11 : Nat) : Int) : Int) ≠ 0) ∧
  stc M ⟨b0, (o0 + 1), none⟩ (.int .i64 (Int.tmod (IntKind.wrap .i64 (n9 + 1)) ((k11 : Nat) : Int))) fun M13 =>
  exI (Mem.ld M13 ⟨b0, (o0 + 2), none⟩) .i64 fun n14 =>
  stc M13 ⟨b0, (o0 + 2), none⟩ (.int .i64 (IntKind.wrap .i64 (n14 - 1))) fun M15 =>
  K (.tuple #[(.int .i64 n8), (.bool true)]) M15)) :
  ACalls Tryz.prog 176 ([.pointer (some ⟨b0, o0, none⟩)] : List Value).toArray M K Kp :=
  acalls_vc (C := Cx) good [(3, .reg [0, 1, 3, 7, 0, 16, 48, 112, 255, 511, 1023] (.step 0 (.step 1 (.step 2 (.step 4 (.step 5 (.step 6 (.step 3 (.step 7 (.step 8 (.step 9 (.step 10 .done)))))))))))), (4, .reg [0, 0, 2, 6, 14, 30, 0, 64, 192, 448, 960, 2046, 4095, 8191, 16383] (.step 0 (.step 1 (.step 2 (.step 3 (.step 6 (.step 7 (.step 8 (.step 4 (.step 5 (.step 9 (.step 10 (.step 11 (.step 12 (.step 13 (.step 14 .done))))))))))))))))] Tryz.func176 (by kernel_rfl) (by kernel_rfl) h

theorem vc_local_Local_Turn {b0 o0 : Nat} {b1 o1 : Nat} {M : Mem} {K : Value → Mem → Prop} {Kp : List PanicEntry → Mem → Prop} (h :
exI (Mem.ld M ⟨b0, o0, none⟩) .i64 fun n1 =>
bsp (n1 == (-1))
 (K (.int .i64 0) M)
 (stc M ⟨b0, o0, none⟩ (.int .i64 (-1)) fun M2 =>
  ACalls Tryz.prog 184 #[(.pointer (some ⟨b0, o0, none⟩)), (.int .i64 n1), (.pointer (some ⟨b1, o1, none⟩))] M2 (fun v3 M4 =>
  exI (some v3) .i64 fun n5 =>
  K (.int .i64 n5) M4) Kp)) :
  ACalls Tryz.prog 177 ([.pointer (some ⟨b0, o0, none⟩), .pointer (some ⟨b1, o1, none⟩)] : List Value).toArray M K Kp :=
  acalls_vc (C := Cx) good [] Tryz.func177 (by kernel_rfl) (by kernel_rfl) h

theorem vc_local_Global_Take {b0 o0 : Nat} {x1 : Int} {M : Mem} {K : Value → Mem → Prop} {Kp : List PanicEntry → Mem → Prop} (h :
exSl (Mem.ld M ⟨b0, o0, none⟩) fun A1 k2 k3 =>
nwc M (.cells #[] 3 (0, 0)) fun k4 M5 =>
exSl (Mem.ld M5 ⟨b0, o0, none⟩) fun A6 k7 k8 =>
((0 : Int) ≤ ((k8 : Nat) : Int)) ∧
((((k8 : Nat) : Int) : Int) ≤ ((k8 : Nat) : Int)) ∧
((0 : Int) ≤ (if (((k2 : Nat) : Int) : Int) < (if (0 : Int) > x1 then 0 else x1) then ((k2 : Nat) : Int) else (if (0 : Int) > x1 then 0 else x1))) ∧
(((if (((k2 : Nat) : Int) : Int) < (if (0 : Int) > x1 then 0 else x1) then ((k2 : Nat) : Int) else (if (0 : Int) > x1 then 0 else x1)) : Int) ≤ ((k8 : Nat) : Int)) ∧
((0 : Int) ≤ 0) ∧
((0 : Int) ≤ (if (((k2 : Nat) : Int) : Int) < (if (0 : Int) > x1 then 0 else x1) then ((k2 : Nat) : Int) else (if (0 : Int) > x1 then 0 else x1))) ∧
semK Tryz.prog (Go.Builtin.append_ #[38, 38] 38 #[(.slice (some ⟨k4, 0, none⟩) 0 0), (.slice (slA A6 0 (Int.toNat ((k8 : Nat) : Int)) 1) ((Int.toNat (if (((k2 : Nat) : Int) : Int) < (if (0 : Int) > x1 then 0 else x1) then ((k2 : Nat) : Int) else (if (0 : Int) > x1 then 0 else x1))) - 0) ((Int.toNat ((k8 : Nat) : Int)) - 0))]) M5 (fun v9 M10 =>
exSl (some v9) fun A11 k12 k13 =>
nwc M10 (.cells #[] 3 (0, 0)) fun k14 M15 =>
exSl (Mem.ld M15 ⟨b0, o0, none⟩) fun A16 k17 k18 =>
((0 : Int) ≤ ((k18 : Nat) : Int)) ∧
((((k18 : Nat) : Int) : Int) ≤ ((k18 : Nat) : Int)) ∧
((0 : Int) ≤ ((k17 : Nat) : Int)) ∧
((((k17 : Nat) : Int) : Int) ≤ ((k18 : Nat) : Int)) ∧
((0 : Int) ≤ (if (((k2 : Nat) : Int) : Int) < (if (0 : Int) > x1 then 0 else x1) then ((k2 : Nat) : Int) else (if (0 : Int) > x1 then 0 else x1))) ∧
(((if (((k2 : Nat) : Int) : Int) < (if (0 : Int) > x1 then 0 else x1) then ((k2 : Nat) : Int) else (if (0 : Int) > x1 then 0 else x1)) : Int) ≤ ((k17 : Nat) : Int)) ∧
semK Tryz.prog (Go.Builtin.append_ #[38, 38] 38 #[(.slice (some ⟨k14, 0, none⟩) 0 0), (.slice (slA A16 (Int.toNat (if (((k2 : Nat) : Int) : Int) < (if (0 : Int) > x1 then 0 else x1) then ((k2 : Nat) : Int) else (if (0 : Int) > x1 then 0 else x1))) (Int.toNat ((k18 : Nat) : Int)) 1) ((Int.toNat ((k17 : Nat) : Int)) - (Int.toNat (if (((k2 : Nat) : Int) : Int) < (if (0 : Int) > x1 then 0 else x1) then ((k2 : Nat) : Int) else (if (0 : Int) > x1 then 0 else x1)))) ((Int.toNat ((k18 : Nat) : Int)) - (Int.toNat (if (((k2 : Nat) : Int) : Int) < (if (0 : Int) > x1 then 0 else x1) then ((k2 : Nat) : Int) else (if (0 : Int) > x1 then 0 else x1)))))]) M15 (fun v19 M20 =>
exSl (some v19) fun A21 k22 k23 =>
stc M20 ⟨b0, o0, none⟩ (.slice A21 k22 k23) fun M24 =>
K (.slice A11 k12 k13) M24) Kp) Kp) :
  ACalls Tryz.prog 178 ([.pointer (some ⟨b0, o0, none⟩), .int .i64 x1] : List Value).toArray M K Kp :=
  acalls_vc (C := Cx) good [] Tryz.func178 (by kernel_rfl) (by kernel_rfl) h

theorem vc_local_Local_Fetch {b0 o0 : Nat} {b1 o1 : Nat} {x2 : Int} {M : Mem} {K : Value → Mem → Prop} {Kp : List PanicEntry → Mem → Prop} (h :
exP (Mem.ld M ⟨b0, (o0 + 1), none⟩) fun A1 =>
exP (Mem.ld M ⟨b0, (o0 + 1), none⟩) fun A2 =>
ACalls Tryz.prog 217 #[(.pointer (some ⟨b1, o1, none⟩))] M (fun v3 M4 =>
exI (some v3) .i64 fun n5 =>
((Mem.ld M4 ⟨b0, (o0 + 1), none⟩) = (some (.pointer A2))) ∧
((Mem.ld M4 ⟨b0, (o0 + 1), none⟩) = (some (.pointer A1))) ∧
(((if (1 : Int) > x2 then 1 else x2) : Int) ≠ 0) ∧
ACalls Tryz.prog 182 #[(.pointer A1)] M4 (fun v6 M7 =>
exI (some v6) .i64 fun n8 =>
((Mem.ld M7 ⟨b0, (o0 + 1), none⟩) = (some (.pointer A2))) ∧
((Mem.ld M7 ⟨b0, (o0 + 1), none⟩) = (some (.pointer A1))) ∧
ACalls Tryz.prog 180 #[(.pointer A2)] M7 (fun v9 M10 =>
exI (some v9) .i64 fun n11 =>
((Mem.ld M10 ⟨b0, (o0 + 1), none⟩) = (some (.pointer A2))) ∧
((Mem.ld M10 ⟨b0, (o0 + 1), none⟩) = (some (.pointer A1))) ∧
bsp (decide ((x2 : Int) < 1))
 (ACalls Tryz.prog 178 #[(.pointer (some ⟨b1, o1, none⟩)), (.int .i64 1)] M10 (fun v12 M13 =>
  exSl (some v12) fun A14 k15 k16 =>
  bsp (((k15 : Nat) : Int) == 0)
   (K (.tuple #[(.int .i64 (-1)), (.bool false)]) M13)
   (((0 : Int) ≤ ((k16 : Nat) : Int)) ∧
    ((((k16 : Nat) : Int) : Int) ≤ ((k16 : Nat) : Int)) ∧
    ((0 : Int) ≤ ((k15 : Nat) : Int)) ∧
    ((((k15 : Nat) : Int) : Int) ≤ ((k16 : Nat) : Int)) ∧
    ((0 : Int) ≤ 1) ∧
    ((1 : Int) ≤ ((k15 : Nat) : Int)) ∧
    ∃ I17 : Nat → List Value → Mem → Prop, (∃ k18 : Nat, I17 k18 [(.int .i64 0)] M13) ∧
    ∀ k19 : Nat, ∀ junk20 : Nat → Value, ∀ n21 : Int, ∀ M22 : Mem, (I17 k19 [(.int .i64 n21)] M22) → bsp (decide ((n21 : Int) < ((((Int.toNat ((k15 : Nat) : Int)) - 1) : Nat) : Int)))
     (((0 : Int) ≤ n21) ∧
      ((n21 : Int) < ((((Int.toNat ((k15 : Nat) : Int)) - 1) : Nat) : Int)) ∧
      nilc (slA A14 1 (Int.toNat ((k16 : Nat) : Int)) 1) fun k23 k24 =>
      exI (Mem.ld M22 ⟨k23, (k24 + (Int.toNat n21)), none⟩) .i64 fun n25 =>
      exP (Mem.ld M22 ⟨b0, (o0 + 1), none⟩) fun A26 =>
      ACalls Tryz.prog 183 #[(.pointer A26), (.int .i64 n25)] M22 (fun v27 M28 =>
      exB (some v27) fun t29 =>
      ∃ k30 : Nat, (k30 < k19) ∧
      I17 k30 [(.int .i64 (IntKind.wrap .i64 (n21 + 1)))] M28) Kp)
     (((0 : Int) ≤ 0) ∧
      ((0 : Int) < ((k15 : Nat) : Int)) ∧
      nilc A14 fun k31 k32 =>
      exI (Mem.ld M22 ⟨k31, (k32 + 0), none⟩) .i64 fun n33 =>
      K (.tuple #[(.int .i64 n33), (.bool true)]) M22))) Kp)
 (ACalls Tryz.prog 178 #[(.pointer (some ⟨b1, o1, none⟩)), (.int .i64 (if ((IntKind.wrap .i64 ((IntKind.wrap .i64 (n8 - n11)) + 1)) : Int) < (IntKind.wrap .i64 ((IntKind.wrap .i64 (Int.tdiv n5 (if (1 : Int) > x2 then 1 else x2))) + 1)) then (IntKind.wrap .i64 ((IntKind.wrap .i64 (n8 - n11)) + 1)) else (IntKind.wrap .i64 ((IntKind.wrap .i64 (Int.tdiv n5 (if (1 : Int) > x2 then 1 else x2))) + 1))))] M10 (fun v34 M35 =>
  exSl (some v34) fun A36 k37 k38 =>
  bsp (((k37 : Nat) : Int) == 0)
   (K (.tuple #[(.int .i64 (-1)), (.bool false)]) M35)
   (((0 : Int) ≤ ((k38 : Nat) : Int)) ∧
    ((((k38 : Nat) : Int) : Int) ≤ ((k38 : Nat) : Int)) ∧
    ((0 : Int) ≤ ((k37 : Nat) : Int)) ∧
    ((((k37 : Nat) : Int) : Int) ≤ ((k38 : Nat) : Int)) ∧
    ((0 : Int) ≤ 1) ∧
    ((1 : Int) ≤ ((k37 : Nat) : Int)) ∧
    ∃ I39 : Nat → List Value → Mem → Prop, (∃ k40 : Nat, I39 k40 [(.int .i64 0)] M35) ∧
    ∀ k41 : Nat, ∀ junk42 : Nat → Value, ∀ n43 : Int, ∀ M44 : Mem, (I39 k41 [(.int .i64 n43)] M44) → bsp (decide ((n43 : Int) < ((((Int.toNat ((k37 : Nat) : Int)) - 1) : Nat) : Int)))
     (((0 : Int) ≤ n43) ∧
      ((n43 : Int) < ((((Int.toNat ((k37 : Nat) : Int)) - 1) : Nat) : Int)) ∧
      nilc (slA A36 1 (Int.toNat ((k38 : Nat) : Int)) 1) fun k45 k46 =>
      exI (Mem.ld M44 ⟨k45, (k46 + (Int.toNat n43)), none⟩) .i64 fun n47 =>
      exP (Mem.ld M44 ⟨b0, (o0 + 1), none⟩) fun A48 =>
      ACalls Tryz.prog 183 #[(.pointer A48), (.int .i64 n47)] M44 (fun v49 M50 =>
      exB (some v49) fun t51 =>
      ∃ k52 : Nat, (k52 < k41) ∧
      I39 k52 [(.int .i64 (IntKind.wrap .i64 (n43 + 1)))] M50) Kp)
     (((0 : Int) ≤ 0) ∧
      ((0 : Int) < ((k37 : Nat) : Int)) ∧
      nilc A36 fun k53 k54 =>
      exI (Mem.ld M44 ⟨k53, (k54 + 0), none⟩) .i64 fun n55 =>
      K (.tuple #[(.int .i64 n55), (.bool true)]) M44))) Kp)) Kp) Kp) Kp) :
  ACalls Tryz.prog 179 ([.pointer (some ⟨b0, o0, none⟩), .pointer (some ⟨b1, o1, none⟩), .int .i64 x2] : List Value).toArray M K Kp :=
  acalls_vc (C := Cx) good [(1, .reg [0, 1, 0, 4, 15, 31, 0, 64, 192, 448, 963, 0, 2048, 6144, 14336, 32707, 65475, 131011, 262143, 524287] (.step 0 (.step 2 (.step 3 (.step 6 (.step 7 (.step 8 (.step 11 (.step 12 (.step 13 (.prom 9 (.prom 14 (.step 1 (.step 4 (.step 5 (.step 10 (.step 15 (.step 16 (.step 17 (.step 18 (.step 19 .done))))))))))))))))))))), (2000000, .loop [(42, .c (.int .i64))])] Tryz.func179 (by kernel_rfl) (by kernel_rfl) h

theorem vc_ring_Ring_Len {b0 o0 : Nat} {M : Mem} {K : Value → Mem → Prop} {Kp : List PanicEntry → Mem → Prop} (h :
exI (Mem.ld M ⟨b0, (o0 + 2), none⟩) .i64 fun n1 =>
K (.int .i64 n1) M) :
  ACalls Tryz.prog 180 ([.pointer (some ⟨b0, o0, none⟩)] : List Value).toArray M K Kp :=
  acalls_vc (C := Cx) good [] Tryz.func180 (by kernel_rfl) (by kernel_rfl) h

theorem vc_ring_Ring_Take {b0 o0 : Nat} {x1 : Int} {M : Mem} {K : Value → Mem → Prop} {Kp : List PanicEntry → Mem → Prop} (h :
∃ I1 : Nat → List Value → Mem → Prop, (∃ k2 : Nat, I1 k2 [(.slice none 0 0)] M) ∧
∀ k3 : Nat, ∀ junk4 : Nat → Value, ∀ A5 : Option Addr, ∀ k6 : Nat, ∀ k7 : Nat, ∀ M8 : Mem, (I1 k3 [(.slice A5 k6 k7)] M8) → bsp (decide ((((k6 : Nat) : Int) : Int) < x1))
 (ACalls Tryz.prog 176 #[(.pointer (some ⟨b0, o0, none⟩))] M8 (fun v9 M10 =>
  ∃ n11 : Int, ∃ t12 : Bool, (v9 = (.tuple #[(.int .i64 n11), (.bool t12)])) ∧
  bsp (!t12)
   (K (.slice A5 k6 k7) M10)
   (nwc M10 (.cells #[(.int .i64 n11)] 3 (0, 0)) fun k13 M14 =>
    semK Tryz.prog (Go.Builtin.append_ #[38, 38] 38 #[(.slice A5 k6 k7), (.slice (some ⟨k13, 0, none⟩) 1 1)]) M14 (fun v15 M16 =>
    exSl (some v15) fun A17 k18 k19 =>
    ∃ k20 : Nat, (k20 < k3) ∧
    I1 k20 [(.slice A17 k18 k19)] M16) Kp)) Kp)
 (K (.slice A5 k6 k7) M8)) :
  ACalls Tryz.prog 181 ([.pointer (some ⟨b0, o0, none⟩), .int .i64 x1] : List Value).toArray M K Kp :=
  acalls_vc (C := Cx) good [(2000000, .loop [(5, .c .sl)])] Tryz.func181 (by kernel_rfl) (by kernel_rfl) h

theorem vc_ring_Ring_Room {b0 o0 : Nat} {M : Mem} {K : Value → Mem → Prop} {Kp : List PanicEntry → Mem → Prop} (h :
exSl (Mem.ld M ⟨b0, o0, none⟩) fun A1 k2 k3 =>
K (.int .i64 ((k2 : Nat) : Int)) M) :
  ACalls Tryz.prog 182 ([.pointer (some ⟨b0, o0, none⟩)] : List Value).toArray M K Kp :=
  acalls_vc (C := Cx) good [] Tryz.func182 (by kernel_rfl) (by kernel_rfl) h

theorem vc_ring_Ring_Push {b0 o0 : Nat} {x1 : Int} {M : Mem} {K : Value → Mem → Prop} {Kp : List PanicEntry → Mem → Prop} (h :
exI (Mem.ld M ⟨b0, (o0 + 2), none⟩) .i64 fun n1 =>
exSl (Mem.ld M ⟨b0, o0, none⟩) fun A2 k3 k4 =>
bsp (n1 == ((k3 : Nat) : Int))
 (K (.bool false) M)
 (exSl (Mem.ld M ⟨b0, o0, none⟩) fun A5 k6 k7 =>
  exI (Mem.ld M ⟨b0, (o0 + 1), none⟩) .i64 fun n8 =>
  exI (Mem.ld M ⟨b0, (o0 + 2), none⟩) .i64 fun n9 =>
  exSl (Mem.ld M ⟨b0, o0, none⟩) fun A10 k11 k12 =>
  ((((k11 : Nat) : Int) : Int) ≠ 0) ∧
  ((0 : Int) ≤ (Int.tmod (IntKind.wrap .i64 (n8 + n9)) ((k11 : Nat) : Int))) ∧
  (((Int.tmod (IntKind.wrap .i64 (n8 + n9)) ((k11 : Nat) : Int)) : Int) < ((k6 : Nat) : Int)) ∧
  nilc A5 fun k13 k14 =>
  stc M ⟨k13, (k14 + (Int.toNat (Int.tmod (IntKind.wrap .i64 (n8 + n9)) ((k11 : Nat) : Int)))), none⟩ (.int .i64 x1) fun M15 =>
  exI (Mem.ld M15 ⟨b0, (o0 + 2), none⟩) .i64 fun n16 =>
  stc M15 ⟨b0, (o0 + 2), none⟩ (.int .i64 (IntKind.wrap .i64 (n16 + 1))) fun M17 =>
  K (.bool true) M17)) :
  ACalls Tryz.prog 183 ([.pointer (some ⟨b0, o0, none⟩), .int .i64 x1] : List Value).toArray M K Kp :=
  acalls_vc (C := Cx) good [(1, .reg [0, 1, 3, 7, 0, 16, 48, 112, 240, 511] (.step 0 (.step 1 (.step 2 (.step 4 (.step 5 (.step 6 (.step 3 (.step 7 (.step 8 (.step 9 .done))))))))))), (3, .reg [0, 1, 3, 7, 0, 16, 48, 112, 0, 256, 768, 1792, 4080, 0, 8192, 24576, 57344, 122880, 262128, 0, 1048575, 2097151] (.step 0 (.step 1 (.step 2 (.step 4 (.step 5 (.step 6 (.step 8 (.step 9 (.step 10 (.step 13 (.step 14 (.step 15 (.step 19 (.step 3 (.step 7 (.step 11 (.step 12 (.step 16 (.step 17 (.step 18 (.step 20 (.step 21 .done)))))))))))))))))))))))] Tryz.func183 (by kernel_rfl) (by kernel_rfl) h

theorem vc_local_Local_Put {b0 o0 : Nat} {x1 : Int} {b2 o2 : Nat} {M : Mem} {K : Value → Mem → Prop} {Kp : List PanicEntry → Mem → Prop} (h :
exP (Mem.ld M ⟨b0, (o0 + 1), none⟩) fun A1 =>
ACalls Tryz.prog 183 #[(.pointer A1), (.int .i64 x1)] M (fun v2 M3 =>
exB (some v2) fun t4 =>
bsp t4
 (K (.int .i64 0) M3)
 (exP (Mem.ld M3 ⟨b0, (o0 + 1), none⟩) fun A5 =>
  exP (Mem.ld M3 ⟨b0, (o0 + 1), none⟩) fun A6 =>
  (True) ∧
  ACalls Tryz.prog 180 #[(.pointer A5)] M3 (fun v7 M8 =>
  exI (some v7) .i64 fun n9 =>
  ((Mem.ld M8 ⟨b0, (o0 + 1), none⟩) = (some (.pointer A6))) ∧
  ((2 : Int) ≠ 0) ∧
  (True) ∧
  ACalls Tryz.prog 181 #[(.pointer A6), (.int .i64 (IntKind.wrap .i64 (Int.tdiv n9 2)))] M8 (fun v10 M11 =>
  exSl (some v10) fun A12 k13 k14 =>
  ((Mem.ld M11 ⟨b0, (o0 + 1), none⟩) = (some (.pointer A6))) ∧
  nwc M11 (.cells #[(.int .i64 x1)] 3 (0, 0)) fun k15 M16 =>
  semK Tryz.prog (Go.Builtin.append_ #[38, 38] 38 #[(.slice A12 k13 k14), (.slice (some ⟨k15, 0, none⟩) 1 1)]) M16 (fun v17 M18 =>
  exSl (some v17) fun A19 k20 k21 =>
  ((Mem.ld M18 ⟨b0, (o0 + 1), none⟩) = (some (.pointer A6))) ∧
  ACalls Tryz.prog 53 #[(.pointer (some ⟨b2, o2, none⟩)), (.slice A19 k20 k21)] M18 (fun v22 M23 =>
  (v22 = (.tuple #[])) ∧
  K (.int .i64 ((k20 : Nat) : Int)) M23) Kp) Kp) Kp) Kp)) Kp) :
  ACalls Tryz.prog 184 ([.pointer (some ⟨b0, o0, none⟩), .int .i64 x1, .pointer (some ⟨b2, o2, none⟩)] : List Value).toArray M K Kp :=
  acalls_vc (C := Cx) good [(3, .reg [0, 1, 3, 7, 0, 16, 48, 112, 240, 496, 1023, 0, 2048, 8191, 16383] (.step 0 (.step 1 (.step 2 (.step 4 (.step 5 (.step 6 (.step 11 (.step 7 (.prom 3 (.late 8 (.step 9 (.late 10 (.step 12 (.step 13 (.step 14 .done))))))))))))))))] Tryz.func184 (by kernel_rfl) (by kernel_rfl) h

theorem vc_local_Global_Len {b0 o0 : Nat} {M : Mem} {K : Value → Mem → Prop} {Kp : List PanicEntry → Mem → Prop} (h :
exSl (Mem.ld M ⟨b0, o0, none⟩) fun A1 k2 k3 =>
K (.int .i64 ((k2 : Nat) : Int)) M) :
  ACalls Tryz.prog 217 ([.pointer (some ⟨b0, o0, none⟩)] : List Value).toArray M K Kp :=
  acalls_vc (C := Cx) good [] Tryz.func217 (by kernel_rfl) (by kernel_rfl) h

end Go.Proofs

namespace Go.Proofs
open Go.AF
set_option linter.unusedVariables false
set_option maxRecDepth 100000
theorem vc_sched_New {B0_0 : Option Addr} {m0_0 c0_0 : Nat} {B0_1 : Option Addr} {m0_1 c0_1 : Nat} {x0_2 : Int} {B0_3 : Option Addr} {m0_3 c0_3 : Nat} {x1_0 : Int} {x1_1 : Int} {x1_2 : Int} {x1_3 : Int} {b2 o2 : Nat} {M : Mem} {K : Value → Mem → Prop} {Kp : List PanicEntry → Mem → Prop} (h :
nwc M (.cells #[(.slice B0_0 m0_0 c0_0), (.slice B0_1 m0_1 c0_1), (.int .i64 x0_2), (.slice B0_3 m0_3 c0_3)] 41 (0, 0)) fun k1 M2 =>
nwc M2 (.cells #[(.int .i64 x1_0), (.int .i64 x1_1), (.int .i64 x1_2), (.int .i64 x1_3)] 26 (0, 0)) fun k3 M4 =>
exSl (Mem.ld M4 ⟨k1, 0, none⟩) fun A5 k6 k7 =>
exSl (Mem.ld M4 ⟨k1, (0 + 1), none⟩) fun A8 k9 k10 =>
exI (Mem.ld M4 ⟨k1, (0 + 2), none⟩) .i64 fun n11 =>
exSl (Mem.ld M4 ⟨k1, (0 + 3), none⟩) fun A12 k13 k14 =>
exI (Mem.ld M4 ⟨k3, 0, none⟩) .i64 fun n15 =>
exI (Mem.ld M4 ⟨k3, (0 + 1), none⟩) .i64 fun n16 =>
exI (Mem.ld M4 ⟨k3, (0 + 2), none⟩) .i64 fun n17 =>
exI (Mem.ld M4 ⟨k3, (0 + 3), none⟩) .i64 fun n18 =>
ACalls Tryz.prog 36 #[(.agg #[(.slice A5 k6 k7), (.slice A8 k9 k10), (.int .i64 n11), (.slice A12 k13 k14)])] M4 (fun v19 M20 =>
exP (some v19) fun A21 =>
((Mem.lds M20 ⟨k3, 0, none⟩ 0 4) = some [(.int .i64 n15), (.int .i64 n16), (.int .i64 n17), (.int .i64 n18)]) ∧
nwc M20 (.cells #[(.pointer A21), (.int .i64 n15), (.int .i64 n16), (.int .i64 n17), (.int .i64 n18), (.slice none 0 0), (.slice none 0 0), (.slice none 0 0), (.pointer (some ⟨b2, o2, none⟩)), (.int .i64 0)] 137 (0, 0)) fun k22 M23 =>
exI (Mem.ld M23 ⟨k3, 0, none⟩) .i64 fun n24 =>
∃ I25 : Nat → List Value → Mem → Prop, (∃ k26 : Nat, I25 k26 [(.int .i64 0)] M23) ∧
∀ k27 : Nat, ∀ junk28 : Nat → Value, ∀ n29 : Int, ∀ M30 : Mem, (I25 k27 [(.int .i64 n29)] M30) → bsp (decide ((n29 : Int) < n24))
 (∃ J31 : List Value → Mem → Prop, (exI (Mem.ld M30 ⟨k3, (0 + 2), none⟩) .i64 fun n32 =>
   (exSl (Mem.ld M30 ⟨k22, (0 + 5), none⟩) fun A33 k34 k35 =>
    ACalls Tryz.prog 52 #[(.int .i64 n32)] M30 (fun v36 M37 =>
    exP (some v36) fun A38 =>
    nwc M37 (.cells #[(.pointer A38), (.int .i64 0), (.int .i64 (-1))] 141 (0, 0)) fun k39 M40 =>
    semK Tryz.prog (Go.Builtin.append_ #[132, 132] 132 #[(.slice A33 k34 k35), (.slice (some ⟨k39, 0, none⟩) 1 1)]) M40 (fun v41 M42 =>
    exSl (some v41) fun A43 k44 k45 =>
    stc M42 ⟨k22, (0 + 5), none⟩ (.slice A43 k44 k45) fun M46 =>
    J31 [] M46) Kp) Kp) ∧
   (ACalls Tryz.prog 52 #[(.int .i64 n32)] M30 (fun v47 M48 =>
    exP (some v47) fun A49 =>
    exSl (Mem.ld M48 ⟨k22, (0 + 5), none⟩) fun A50 k51 k52 =>
    nwc M48 (.cells #[(.pointer A49), (.int .i64 0), (.int .i64 (-1))] 141 (0, 0)) fun k53 M54 =>
    semK Tryz.prog (Go.Builtin.append_ #[132, 132] 132 #[(.slice A50 k51 k52), (.slice (some ⟨k53, 0, none⟩) 1 1)]) M54 (fun v55 M56 =>
    exSl (some v55) fun A57 k58 k59 =>
    stc M56 ⟨k22, (0 + 5), none⟩ (.slice A57 k58 k59) fun M60 =>
    J31 [] M60) Kp) Kp) ∧
   True) ∧
  ∀ junk61 : Nat → Value, ∀ M62 : Mem, (J31 [] M62) → ∃ k63 : Nat, (k63 < k27) ∧
  I25 k63 [(.int .i64 (IntKind.wrap .i64 (n29 + 1)))] M62)
 (exI (Mem.ld M30 ⟨k3, (0 + 1), none⟩) .i64 fun n64 =>
  ∃ I65 : Nat → List Value → Mem → Prop, (∃ k66 : Nat, I65 k66 [(.int .i64 0)] M30) ∧
  ∀ k67 : Nat, ∀ junk68 : Nat → Value, ∀ n69 : Int, ∀ M70 : Mem, (I65 k67 [(.int .i64 n69)] M70) → bsp (decide ((n69 : Int) < n64))
   (exSl (Mem.ld M70 ⟨k22, (0 + 6), none⟩) fun A71 k72 k73 =>
    nwc M70 (.cells #[(.int .i64 (-1)), (.int .i64 (-1)), (.int .i64 0)] 143 (0, 0)) fun k74 M75 =>
    semK Tryz.prog (Go.Builtin.append_ #[133, 133] 133 #[(.slice A71 k72 k73), (.slice (some ⟨k74, 0, none⟩) 1 1)]) M75 (fun v76 M77 =>
    exSl (some v76) fun A78 k79 k80 =>
    stc M77 ⟨k22, (0 + 6), none⟩ (.slice A78 k79 k80) fun M81 =>
    ∃ k82 : Nat, (k82 < k67) ∧
    I65 k82 [(.int .i64 (IntKind.wrap .i64 (n69 + 1)))] M81) Kp)
   (nwc M70 (.cells #[(.int .i64 0)] 3 (0, 0)) fun k83 M84 =>
    ACalls Tryz.prog 53 #[(.pointer (some ⟨k22, (0 + 7), none⟩)), (.slice (some ⟨k83, 0, none⟩) 1 1)] M84 (fun v85 M86 =>
    (v85 = (.tuple #[])) ∧
    K (.pointer (some ⟨k22, 0, none⟩)) M86) Kp))) Kp) :
  ACalls Tryz.prog 16 ([.agg #[.slice B0_0 m0_0 c0_0, .slice B0_1 m0_1 c0_1, .int .i64 x0_2, .slice B0_3 m0_3 c0_3], .agg #[.int .i64 x1_0, .int .i64 x1_1, .int .i64 x1_2, .int .i64 x1_3], .pointer (some ⟨b2, o2, none⟩)] : List Value).toArray M K Kp :=
  acalls_vc (C := Cx) good [(1, .reg [0, 1, 0, 0, 15, 31, 63] (.step 3 (.step 0 (.prom 2 (.step 1 (.step 4 (.step 5 (.step 6 .done)))))))), (2000000, .loop [(16, .c (.int .i64))]), (4, .regc [0, 0, 2, 6, 14, 0, 32, 96, 224, 480, 1022, 2047, 4095, 8191] (.step 0 (.step 1 (.step 2 (.step 3 (.step 5 (.step 6 (.fork 4 (.step 7 (.step 8 (.step 9 (.step 10 (.step 11 (.step 12 (.step 13 .done))))))) (.fork 7 (.step 8 (.step 4 (.step 9 (.step 10 (.step 11 (.step 12 (.step 13 .done))))))) .dead)))))))) []), (2000002, .loop [(34, .c (.int .i64))])] Tryz.func16 (by kernel_rfl) (by kernel_rfl) h

theorem vc_sched_Sched_Processors {b0 o0 : Nat} {M : Mem} {K : Value → Mem → Prop} {Kp : List PanicEntry → Mem → Prop} (h :
exSl (Mem.ld M ⟨b0, (o0 + 5), none⟩) fun A1 k2 k3 =>
∃ I4 : Nat → List Value → Mem → Prop, (∃ k5 : Nat, I4 k5 [(.slice none 0 0), (.int .i64 0)] M) ∧
∀ k6 : Nat, ∀ junk7 : Nat → Value, ∀ A8 : Option Addr, ∀ k9 : Nat, ∀ k10 : Nat, ∀ n11 : Int, ∀ M12 : Mem, (I4 k6 [(.slice A8 k9 k10), (.int .i64 n11)] M12) → bsp (decide ((n11 : Int) < ((k2 : Nat) : Int)))
 (((0 : Int) ≤ n11) ∧
  ((n11 : Int) < ((k2 : Nat) : Int)) ∧
  nilc A1 fun k13 k14 =>
  exP (Mem.ld M12 ⟨k13, (k14 + ((Int.toNat n11) * 3)), none⟩) fun A15 =>
  exI (Mem.ld M12 ⟨k13, ((k14 + ((Int.toNat n11) * 3)) + 1), none⟩) .i64 fun n16 =>
  exI (Mem.ld M12 ⟨k13, ((k14 + ((Int.toNat n11) * 3)) + 2), none⟩) .i64 fun n17 =>
  nwc M12 (.cells #[(.pointer none), (.int .i64 0), (.int .i64 0)] 141 (0, 0)) fun k18 M19 =>
  stc M19 ⟨k18, 0, none⟩ (.pointer A15) fun M20 =>
  stc M20 ⟨k18, (0 + 1), none⟩ (.int .i64 n16) fun M21 =>
  stc M21 ⟨k18, (0 + 2), none⟩ (.int .i64 n17) fun M22 =>
  exP (Mem.ld M22 ⟨k18, 0, none⟩) fun A23 =>
  exP (Mem.ld M22 ⟨k18, 0, none⟩) fun A24 =>
  exI (Mem.ld M22 ⟨k18, (0 + 1), none⟩) .i64 fun n25 =>
  exI (Mem.ld M22 ⟨k18, (0 + 2), none⟩) .i64 fun n26 =>
  ACalls Tryz.prog 58 #[(.pointer A23)] M22 (fun v27 M28 =>
  exI (some v27) .i64 fun n29 =>
  ((Mem.ld M28 ⟨k18, (0 + 2), none⟩) = (some (.int .i64 n26))) ∧
  ((Mem.ld M28 ⟨k18, (0 + 1), none⟩) = (some (.int .i64 n25))) ∧
  ((Mem.ld M28 ⟨k18, 0, none⟩) = (some (.pointer A24))) ∧
  ACalls Tryz.prog 59 #[(.pointer A24)] M28 (fun v30 M31 =>
  exSl (some v30) fun A32 k33 k34 =>
  ((Mem.ld M31 ⟨k18, (0 + 2), none⟩) = (some (.int .i64 n26))) ∧
  ((Mem.ld M31 ⟨k18, (0 + 1), none⟩) = (some (.int .i64 n25))) ∧
  ((Mem.ld M31 ⟨k18, 0, none⟩) = (some (.pointer A24))) ∧
  nwc M31 (.cells #[(.int .i64 n29), (.slice A32 k33 k34), (.int .i64 n25), (.int .i64 n26)] 53 (0, 0)) fun k35 M36 =>
  semK Tryz.prog (Go.Builtin.append_ #[50, 50] 50 #[(.slice A8 k9 k10), (.slice (some ⟨k35, 0, none⟩) 1 1)]) M36 (fun v37 M38 =>
  exSl (some v37) fun A39 k40 k41 =>
  ((Mem.ld M38 ⟨k18, (0 + 2), none⟩) = (some (.int .i64 n26))) ∧
  ((Mem.ld M38 ⟨k18, (0 + 1), none⟩) = (some (.int .i64 n25))) ∧
  ((Mem.ld M38 ⟨k18, 0, none⟩) = (some (.pointer A24))) ∧
  ∃ k42 : Nat, (k42 < k6) ∧
  I4 k42 [(.slice A39 k40 k41), (.int .i64 (IntKind.wrap .i64 (n11 + 1)))] M38) Kp) Kp) Kp)
 (K (.slice A8 k9 k10) M12)) :
  ACalls Tryz.prog 19 ([.pointer (some ⟨b0, o0, none⟩)] : List Value).toArray M K Kp :=
  acalls_vc (C := Cx) good [(2000000, .loop [(3, .c .sl), (11, .c (.int .i64))]), (5, .reg [0, 0, 2, 6, 0, 16, 62, 0, 128, 0, 512, 2046, 4094, 8191, 16383] (.step 0 (.step 1 (.step 4 (.step 7 (.step 9 (.step 2 (.prom 5 (.prom 8 (.prom 10 (.step 3 (.step 6 (.step 11 (.step 12 (.step 13 (.step 14 .done))))))))))))))))] Tryz.func19 (by kernel_rfl) (by kernel_rfl) h

theorem vc_sched_Sched_Machines {b0 o0 : Nat} {M : Mem} {K : Value → Mem → Prop} {Kp : List PanicEntry → Mem → Prop} (h :
exSl (Mem.ld M ⟨b0, (o0 + 6), none⟩) fun A1 k2 k3 =>
∃ I4 : Nat → List Value → Mem → Prop, (∃ k5 : Nat, I4 k5 [(.slice none 0 0), (.int .i64 0)] M) ∧
∀ k6 : Nat, ∀ junk7 : Nat → Value, ∀ A8 : Option Addr, ∀ k9 : Nat, ∀ k10 : Nat, ∀ n11 : Int, ∀ M12 : Mem, (I4 k6 [(.slice A8 k9 k10), (.int .i64 n11)] M12) → bsp (decide ((n11 : Int) < ((k2 : Nat) : Int)))
 (((0 : Int) ≤ n11) ∧
  ((n11 : Int) < ((k2 : Nat) : Int)) ∧
  nilc A1 fun k13 k14 =>
  exI (Mem.ld M12 ⟨k13, (k14 + ((Int.toNat n11) * 3)), none⟩) .i64 fun n15 =>
  exI (Mem.ld M12 ⟨k13, ((k14 + ((Int.toNat n11) * 3)) + 1), none⟩) .i64 fun n16 =>
  exI (Mem.ld M12 ⟨k13, ((k14 + ((Int.toNat n11) * 3)) + 2), none⟩) .i64 fun n17 =>
  nwc M12 (.cells #[(.int .i64 0), (.int .i64 0), (.int .i64 0)] 143 (0, 0)) fun k18 M19 =>
  stc M19 ⟨k18, 0, none⟩ (.int .i64 n15) fun M20 =>
  stc M20 ⟨k18, (0 + 1), none⟩ (.int .i64 n16) fun M21 =>
  stc M21 ⟨k18, (0 + 2), none⟩ (.int .i64 n17) fun M22 =>
  exI (Mem.ld M22 ⟨k18, 0, none⟩) .i64 fun n23 =>
  exI (Mem.ld M22 ⟨k18, (0 + 1), none⟩) .i64 fun n24 =>
  exI (Mem.ld M22 ⟨k18, (0 + 2), none⟩) .i64 fun n25 =>
  nwc M22 (.cells #[(.int .i64 n23), (.int .i64 n24), (.int .i64 n25)] 55 (0, 0)) fun k26 M27 =>
  semK Tryz.prog (Go.Builtin.append_ #[56, 56] 56 #[(.slice A8 k9 k10), (.slice (some ⟨k26, 0, none⟩) 1 1)]) M27 (fun v28 M29 =>
  exSl (some v28) fun A30 k31 k32 =>
  ∃ k33 : Nat, (k33 < k6) ∧
  I4 k33 [(.slice A30 k31 k32), (.int .i64 (IntKind.wrap .i64 (n11 + 1)))] M29) Kp)
 (K (.slice A8 k9 k10) M12)) :
  ACalls Tryz.prog 20 ([.pointer (some ⟨b0, o0, none⟩)] : List Value).toArray M K Kp :=
  acalls_vc (C := Cx) good [(2000000, .loop [(3, .c .sl), (11, .c (.int .i64))])] Tryz.func20 (by kernel_rfl) (by kernel_rfl) h

theorem vc_sched_Sched_Status {b0 o0 : Nat} {M : Mem} {K : Value → Mem → Prop} {Kp : List PanicEntry → Mem → Prop} (h :
exP (Mem.ld M ⟨b0, o0, none⟩) fun A1 =>
ACalls Tryz.prog 60 #[(.pointer A1)] M (fun v2 M3 =>
∃ n4 : Int, ∃ n5 : Int, (v2 = (.tuple #[(.int .i64 n4), (.int .i64 n5)])) ∧
bsp (n4 == 1)
 (K (.int .i64 1) M3)
 (bsp (n4 == 2)
   (K (.int .i64 2) M3)
   (exP (Mem.ld M3 ⟨b0, o0, none⟩) fun A6 =>
    ACalls Tryz.prog 44 #[(.pointer A6)] M3 (fun v7 M8 =>
    exB (some v7) fun t9 =>
    bsp t9
     (K (.int .i64 3) M8)
     (K (.int .i64 0) M8)) Kp))) Kp) :
  ACalls Tryz.prog 23 ([.pointer (some ⟨b0, o0, none⟩)] : List Value).toArray M K Kp :=
  acalls_vc (C := Cx) good [] Tryz.func23 (by kernel_rfl) (by kernel_rfl) h

theorem vc_sched_Sched_Steps {b0 o0 : Nat} {M : Mem} {K : Value → Mem → Prop} {Kp : List PanicEntry → Mem → Prop} (h :
exI (Mem.ld M ⟨b0, (o0 + 9), none⟩) .i64 fun n1 =>
K (.int .i64 n1) M) :
  ACalls Tryz.prog 33 ([.pointer (some ⟨b0, o0, none⟩)] : List Value).toArray M K Kp :=
  acalls_vc (C := Cx) good [] Tryz.func33 (by kernel_rfl) (by kernel_rfl) h

theorem vc_sched_Sched_Step {b0 o0 : Nat} {M : Mem} {K : Value → Mem → Prop} {Kp : List PanicEntry → Mem → Prop} (h :
nwc M (.cells #[(.int .i64 0), (.int .i64 0), (.int .i64 0), (.slice none 0 0)] 47 (0, 0)) fun k1 M2 =>
ACalls Tryz.prog 23 #[(.pointer (some ⟨b0, o0, none⟩))] M2 (fun v3 M4 =>
exI (some v3) .i64 fun n5 =>
bsp (n5 != 0)
 (stc M4 ⟨k1, 0, none⟩ (.int .i64 0) fun M6 =>
  stc M6 ⟨k1, (0 + 1), none⟩ (.int .i64 0) fun M7 =>
  stc M7 ⟨k1, (0 + 2), none⟩ (.int .i64 0) fun M8 =>
  stc M8 ⟨k1, (0 + 3), none⟩ (.slice none 0 0) fun M9 =>
  exI (Mem.ld M9 ⟨k1, 0, none⟩) .i64 fun n10 =>
  exI (Mem.ld M9 ⟨k1, (0 + 1), none⟩) .i64 fun n11 =>
  exI (Mem.ld M9 ⟨k1, (0 + 2), none⟩) .i64 fun n12 =>
  exSl (Mem.ld M9 ⟨k1, (0 + 3), none⟩) fun A13 k14 k15 =>
  K (.agg #[(.int .i64 n10), (.int .i64 n11), (.int .i64 n12), (.slice A13 k14 k15)]) M9)
 (exP (Mem.ld M4 ⟨b0, (o0 + 8), none⟩) fun A16 =>
  exI (Mem.ld M4 ⟨b0, ((o0 + 1) + 1), none⟩) .i64 fun n17 =>
  ACalls Tryz.prog 98 #[(.pointer A16), (.int .i64 1), (.int .i64 (IntKind.wrap .i64 (n17 + 1)))] M4 (fun v18 M19 =>
  exI (some v18) .i64 fun n20 =>
  nwc M19 (.cells #[(.int .i64 0), (.int .i64 0), (.int .i64 0), (.slice none 0 0)] 47 (0, 0)) fun k21 M22 =>
  exI (Mem.ld M22 ⟨b0, ((o0 + 1) + 1), none⟩) .i64 fun n23 =>
  bsp (n20 == n23)
   (ACalls Tryz.prog 99 #[(.pointer (some ⟨b0, o0, none⟩))] M22 (fun v24 M25 =>
    ∃ n26 : Int, ∃ n27 : Int, ∃ n28 : Int, ∃ A29 : Option Addr, ∃ k30 : Nat, ∃ k31 : Nat, (v24 = (.agg #[(.int .i64 n26), (.int .i64 n27), (.int .i64 n28), (.slice A29 k30 k31)])) ∧
    stc M25 ⟨k21, 0, none⟩ (.int .i64 n26) fun M32 =>
    stc M32 ⟨k21, (0 + 1), none⟩ (.int .i64 n27) fun M33 =>
    stc M33 ⟨k21, (0 + 2), none⟩ (.int .i64 n28) fun M34 =>
    stc M34 ⟨k21, (0 + 3), none⟩ (.slice A29 k30 k31) fun M35 =>
    exI (Mem.ld M35 ⟨b0, (o0 + 9), none⟩) .i64 fun n36 =>
    stc M35 ⟨b0, (o0 + 9), none⟩ (.int .i64 (IntKind.wrap .i64 (n36 + 1))) fun M37 =>
    exI (Mem.ld M37 ⟨k21, 0, none⟩) .i64 fun n38 =>
    exI (Mem.ld M37 ⟨k21, (0 + 1), none⟩) .i64 fun n39 =>
    exI (Mem.ld M37 ⟨k21, (0 + 2), none⟩) .i64 fun n40 =>
    exSl (Mem.ld M37 ⟨k21, (0 + 3), none⟩) fun A41 k42 k43 =>
    stc M37 ⟨k1, 0, none⟩ (.int .i64 n38) fun M44 =>
    stc M44 ⟨k1, (0 + 1), none⟩ (.int .i64 n39) fun M45 =>
    stc M45 ⟨k1, (0 + 2), none⟩ (.int .i64 n40) fun M46 =>
    stc M46 ⟨k1, (0 + 3), none⟩ (.slice A41 k42 k43) fun M47 =>
    exI (Mem.ld M47 ⟨k1, 0, none⟩) .i64 fun n48 =>
    exI (Mem.ld M47 ⟨k1, (0 + 1), none⟩) .i64 fun n49 =>
    exI (Mem.ld M47 ⟨k1, (0 + 2), none⟩) .i64 fun n50 =>
    exSl (Mem.ld M47 ⟨k1, (0 + 3), none⟩) fun A51 k52 k53 =>
    K (.agg #[(.int .i64 n48), (.int .i64 n49), (.int .i64 n50), (.slice A51 k52 k53)]) M47) Kp)
   (exSl (Mem.ld M22 ⟨b0, (o0 + 6), none⟩) fun A54 k55 k56 =>
    ((0 : Int) ≤ n20) ∧
    ((n20 : Int) < ((k55 : Nat) : Int)) ∧
    nilc A54 fun k57 k58 =>
    exI (Mem.ld M22 ⟨k57, (k58 + ((Int.toNat n20) * 3)), none⟩) .i64 fun n59 =>
    bsp (n59 == (-1))
     (ACalls Tryz.prog 100 #[(.pointer (some ⟨b0, o0, none⟩)), (.int .i64 n20)] M22 (fun v60 M61 =>
      ∃ n62 : Int, ∃ n63 : Int, ∃ n64 : Int, ∃ A65 : Option Addr, ∃ k66 : Nat, ∃ k67 : Nat, (v60 = (.agg #[(.int .i64 n62), (.int .i64 n63), (.int .i64 n64), (.slice A65 k66 k67)])) ∧
      stc M61 ⟨k21, 0, none⟩ (.int .i64 n62) fun M68 =>
      stc M68 ⟨k21, (0 + 1), none⟩ (.int .i64 n63) fun M69 =>
      stc M69 ⟨k21, (0 + 2), none⟩ (.int .i64 n64) fun M70 =>
      stc M70 ⟨k21, (0 + 3), none⟩ (.slice A65 k66 k67) fun M71 =>
      exI (Mem.ld M71 ⟨b0, (o0 + 9), none⟩) .i64 fun n72 =>
      stc M71 ⟨b0, (o0 + 9), none⟩ (.int .i64 (IntKind.wrap .i64 (n72 + 1))) fun M73 =>
      exI (Mem.ld M73 ⟨k21, 0, none⟩) .i64 fun n74 =>
      exI (Mem.ld M73 ⟨k21, (0 + 1), none⟩) .i64 fun n75 =>
      exI (Mem.ld M73 ⟨k21, (0 + 2), none⟩) .i64 fun n76 =>
      exSl (Mem.ld M73 ⟨k21, (0 + 3), none⟩) fun A77 k78 k79 =>
      stc M73 ⟨k1, 0, none⟩ (.int .i64 n74) fun M80 =>
      stc M80 ⟨k1, (0 + 1), none⟩ (.int .i64 n75) fun M81 =>
      stc M81 ⟨k1, (0 + 2), none⟩ (.int .i64 n76) fun M82 =>
      stc M82 ⟨k1, (0 + 3), none⟩ (.slice A77 k78 k79) fun M83 =>
      exI (Mem.ld M83 ⟨k1, 0, none⟩) .i64 fun n84 =>
      exI (Mem.ld M83 ⟨k1, (0 + 1), none⟩) .i64 fun n85 =>
      exI (Mem.ld M83 ⟨k1, (0 + 2), none⟩) .i64 fun n86 =>
      exSl (Mem.ld M83 ⟨k1, (0 + 3), none⟩) fun A87 k88 k89 =>
      K (.agg #[(.int .i64 n84), (.int .i64 n85), (.int .i64 n86), (.slice A87 k88 k89)]) M83) Kp)
     (exSl (Mem.ld M22 ⟨b0, (o0 + 6), none⟩) fun A90 k91 k92 =>
      ((0 : Int) ≤ n20) ∧
      ((n20 : Int) < ((k91 : Nat) : Int)) ∧
      nilc A90 fun k93 k94 =>
      exI (Mem.ld M22 ⟨k93, ((k94 + ((Int.toNat n20) * 3)) + 1), none⟩) .i64 fun n95 =>
      bsp (n95 == (-1))
       (ACalls Tryz.prog 101 #[(.pointer (some ⟨b0, o0, none⟩)), (.int .i64 n20)] M22 (fun v96 M97 =>
        ∃ n98 : Int, ∃ n99 : Int, ∃ n100 : Int, ∃ A101 : Option Addr, ∃ k102 : Nat, ∃ k103 : Nat, (v96 = (.agg #[(.int .i64 n98), (.int .i64 n99), (.int .i64 n100), (.slice A101 k102 k103)])) ∧
        stc M97 ⟨k21, 0, none⟩ (.int .i64 n98) fun M104 =>
        stc M104 ⟨k21, (0 + 1), none⟩ (.int .i64 n99) fun M105 =>
        stc M105 ⟨k21, (0 + 2), none⟩ (.int .i64 n100) fun M106 =>
        stc M106 ⟨k21, (0 + 3), none⟩ (.slice A101 k102 k103) fun M107 =>
        exI (Mem.ld M107 ⟨b0, (o0 + 9), none⟩) .i64 fun n108 =>
        stc M107 ⟨b0, (o0 + 9), none⟩ (.int .i64 (IntKind.wrap .i64 (n108 + 1))) fun M109 =>
        exI (Mem.ld M109 ⟨k21, 0, none⟩) .i64 fun n110 =>
        exI (Mem.ld M109 ⟨k21, (0 + 1), none⟩) .i64 fun n111 =>
        exI (Mem.ld M109 ⟨k21, (0 + 2), none⟩) .i64 fun n112 =>
        exSl (Mem.ld M109 ⟨k21, (0 + 3), none⟩) fun A113 k114 k115 =>
        stc M109 ⟨k1, 0, none⟩ (.int .i64 n110) fun M116 =>
        stc M116 ⟨k1, (0 + 1), none⟩ (.int .i64 n111) fun M117 =>
        stc M117 ⟨k1, (0 + 2), none⟩ (.int .i64 n112) fun M118 =>
        stc M118 ⟨k1, (0 + 3), none⟩ (.slice A113 k114 k115) fun M119 =>
        exI (Mem.ld M119 ⟨k1, 0, none⟩) .i64 fun n120 =>
        exI (Mem.ld M119 ⟨k1, (0 + 1), none⟩) .i64 fun n121 =>
        exI (Mem.ld M119 ⟨k1, (0 + 2), none⟩) .i64 fun n122 =>
        exSl (Mem.ld M119 ⟨k1, (0 + 3), none⟩) fun A123 k124 k125 =>
        K (.agg #[(.int .i64 n120), (.int .i64 n121), (.int .i64 n122), (.slice A123 k124 k125)]) M119) Kp)
       (ACalls Tryz.prog 102 #[(.pointer (some ⟨b0, o0, none⟩)), (.int .i64 n20)] M22 (fun v126 M127 =>
        ∃ n128 : Int, ∃ n129 : Int, ∃ n130 : Int, ∃ A131 : Option Addr, ∃ k132 : Nat, ∃ k133 : Nat, (v126 = (.agg #[(.int .i64 n128), (.int .i64 n129), (.int .i64 n130), (.slice A131 k132 k133)])) ∧
        stc M127 ⟨k21, 0, none⟩ (.int .i64 n128) fun M134 =>
        stc M134 ⟨k21, (0 + 1), none⟩ (.int .i64 n129) fun M135 =>
        stc M135 ⟨k21, (0 + 2), none⟩ (.int .i64 n130) fun M136 =>
        stc M136 ⟨k21, (0 + 3), none⟩ (.slice A131 k132 k133) fun M137 =>
        exI (Mem.ld M137 ⟨b0, (o0 + 9), none⟩) .i64 fun n138 =>
        stc M137 ⟨b0, (o0 + 9), none⟩ (.int .i64 (IntKind.wrap .i64 (n138 + 1))) fun M139 =>
        exI (Mem.ld M139 ⟨k21, 0, none⟩) .i64 fun n140 =>
        exI (Mem.ld M139 ⟨k21, (0 + 1), none⟩) .i64 fun n141 =>
        exI (Mem.ld M139 ⟨k21, (0 + 2), none⟩) .i64 fun n142 =>
        exSl (Mem.ld M139 ⟨k21, (0 + 3), none⟩) fun A143 k144 k145 =>
        stc M139 ⟨k1, 0, none⟩ (.int .i64 n140) fun M146 =>
        stc M146 ⟨k1, (0 + 1), none⟩ (.int .i64 n141) fun M147 =>
        stc M147 ⟨k1, (0 + 2), none⟩ (.int .i64 n142) fun M148 =>
        stc M148 ⟨k1, (0 + 3), none⟩ (.slice A143 k144 k145) fun M149 =>
        exI (Mem.ld M149 ⟨k1, 0, none⟩) .i64 fun n150 =>
        exI (Mem.ld M149 ⟨k1, (0 + 1), none⟩) .i64 fun n151 =>
        exI (Mem.ld M149 ⟨k1, (0 + 2), none⟩) .i64 fun n152 =>
        exSl (Mem.ld M149 ⟨k1, (0 + 3), none⟩) fun A153 k154 k155 =>
        K (.agg #[(.int .i64 n150), (.int .i64 n151), (.int .i64 n152), (.slice A153 k154 k155)]) M149) Kp)))) Kp)) Kp) :
  ACalls Tryz.prog 50 ([.pointer (some ⟨b0, o0, none⟩)] : List Value).toArray M K Kp :=
  acalls_vc (C := Cx) good [(3, .reg [0, 1, 3, 7, 0, 16, 48, 112, 240, 496, 1023, 2047] (.step 0 (.step 1 (.step 2 (.step 4 (.step 5 (.step 6 (.step 7 (.step 3 (.step 8 (.step 9 (.step 10 (.step 11 .done)))))))))))))] Tryz.func50 (by kernel_rfl) (by kernel_rfl) h

theorem vc_sched_Sched_tick {b0 o0 : Nat} {M : Mem} {K : Value → Mem → Prop} {Kp : List PanicEntry → Mem → Prop} (h :
nwc M (.cells #[(.int .i64 0), (.int .i64 0), (.int .i64 0), (.slice none 0 0)] 47 (0, 0)) fun k1 M2 =>
exP (Mem.ld M2 ⟨b0, o0, none⟩) fun A3 =>
ACalls Tryz.prog 43 #[(.pointer A3)] M2 (fun v4 M5 =>
exSl (some v4) fun A6 k7 k8 =>
ACalls Tryz.prog 53 #[(.pointer (some ⟨b0, (o0 + 7), none⟩)), (.slice A6 k7 k8)] M5 (fun v9 M10 =>
(v9 = (.tuple #[])) ∧
stc M10 ⟨k1, 0, none⟩ (.int .i64 1) fun M11 =>
stc M11 ⟨k1, (0 + 1), none⟩ (.int .i64 (-1)) fun M12 =>
stc M12 ⟨k1, (0 + 2), none⟩ (.int .i64 (-1)) fun M13 =>
stc M13 ⟨k1, (0 + 3), none⟩ (.slice A6 k7 k8) fun M14 =>
exI (Mem.ld M14 ⟨k1, 0, none⟩) .i64 fun n15 =>
exI (Mem.ld M14 ⟨k1, (0 + 1), none⟩) .i64 fun n16 =>
exI (Mem.ld M14 ⟨k1, (0 + 2), none⟩) .i64 fun n17 =>
exSl (Mem.ld M14 ⟨k1, (0 + 3), none⟩) fun A18 k19 k20 =>
K (.agg #[(.int .i64 n15), (.int .i64 n16), (.int .i64 n17), (.slice A18 k19 k20)]) M14) Kp) Kp) :
  ACalls Tryz.prog 99 ([.pointer (some ⟨b0, o0, none⟩)] : List Value).toArray M K Kp :=
  acalls_vc (C := Cx) good [] Tryz.func99 (by kernel_rfl) (by kernel_rfl) h

theorem vc_sched_Sched_hold {b0 o0 : Nat} {x1 : Int} {M : Mem} {K : Value → Mem → Prop} {Kp : List PanicEntry → Mem → Prop} (h :
nwc M (.cells #[(.int .i64 0), (.int .i64 0), (.int .i64 0), (.slice none 0 0)] 47 (0, 0)) fun k1 M2 =>
exSl (Mem.ld M2 ⟨b0, (o0 + 5), none⟩) fun A3 k4 k5 =>
∃ I6 : Nat → List Value → Mem → Prop, (∃ k7 : Nat, I6 k7 [(.int .i64 0)] M2) ∧
∀ k8 : Nat, ∀ junk9 : Nat → Value, ∀ n10 : Int, ∀ M11 : Mem, (I6 k8 [(.int .i64 n10)] M11) → bsp (decide ((n10 : Int) < ((k4 : Nat) : Int)))
 (exSl (Mem.ld M11 ⟨b0, (o0 + 5), none⟩) fun A12 k13 k14 =>
  ((0 : Int) ≤ n10) ∧
  ((n10 : Int) < ((k13 : Nat) : Int)) ∧
  nilc A12 fun k15 k16 =>
  exI (Mem.ld M11 ⟨k15, ((k16 + ((Int.toNat n10) * 3)) + 2), none⟩) .i64 fun n17 =>
  bsp (n17 == (-1))
   (exSl (Mem.ld M11 ⟨b0, (o0 + 5), none⟩) fun A18 k19 k20 =>
    exSl (Mem.ld M11 ⟨b0, (o0 + 6), none⟩) fun A21 k22 k23 =>
    ((0 : Int) ≤ n10) ∧
    ((n10 : Int) < ((k19 : Nat) : Int)) ∧
    nilc A18 fun k24 k25 =>
    stc M11 ⟨k24, ((k25 + ((Int.toNat n10) * 3)) + 2), none⟩ (.int .i64 x1) fun M26 =>
    ((0 : Int) ≤ x1) ∧
    ((x1 : Int) < ((k22 : Nat) : Int)) ∧
    nilc A21 fun k27 k28 =>
    stc M26 ⟨k27, (k28 + ((Int.toNat x1) * 3)), none⟩ (.int .i64 n10) fun M29 =>
    stc M29 ⟨k1, 0, none⟩ (.int .i64 2) fun M30 =>
    stc M30 ⟨k1, (0 + 1), none⟩ (.int .i64 x1) fun M31 =>
    stc M31 ⟨k1, (0 + 2), none⟩ (.int .i64 (-1)) fun M32 =>
    stc M32 ⟨k1, (0 + 3), none⟩ (.slice none 0 0) fun M33 =>
    exI (Mem.ld M33 ⟨k1, 0, none⟩) .i64 fun n34 =>
    exI (Mem.ld M33 ⟨k1, (0 + 1), none⟩) .i64 fun n35 =>
    exI (Mem.ld M33 ⟨k1, (0 + 2), none⟩) .i64 fun n36 =>
    exSl (Mem.ld M33 ⟨k1, (0 + 3), none⟩) fun A37 k38 k39 =>
    K (.agg #[(.int .i64 n34), (.int .i64 n35), (.int .i64 n36), (.slice A37 k38 k39)]) M33)
   (∃ k40 : Nat, (k40 < k8) ∧
    I6 k40 [(.int .i64 (IntKind.wrap .i64 (n10 + 1)))] M11))
 (stc M11 ⟨k1, 0, none⟩ (.int .i64 3) fun M41 =>
  stc M41 ⟨k1, (0 + 1), none⟩ (.int .i64 x1) fun M42 =>
  stc M42 ⟨k1, (0 + 2), none⟩ (.int .i64 (-1)) fun M43 =>
  stc M43 ⟨k1, (0 + 3), none⟩ (.slice none 0 0) fun M44 =>
  exI (Mem.ld M44 ⟨k1, 0, none⟩) .i64 fun n45 =>
  exI (Mem.ld M44 ⟨k1, (0 + 1), none⟩) .i64 fun n46 =>
  exI (Mem.ld M44 ⟨k1, (0 + 2), none⟩) .i64 fun n47 =>
  exSl (Mem.ld M44 ⟨k1, (0 + 3), none⟩) fun A48 k49 k50 =>
  K (.agg #[(.int .i64 n45), (.int .i64 n46), (.int .i64 n47), (.slice A48 k49 k50)]) M44)) :
  ACalls Tryz.prog 100 ([.pointer (some ⟨b0, o0, none⟩), .int .i64 x1] : List Value).toArray M K Kp :=
  acalls_vc (C := Cx) good [(2000000, .loop [(11, .c (.int .i64))]), (5, .reg [0, 1, 3, 7, 0, 0, 32, 96, 224, 0, 0, 0, 1535, 5631, 13823, 32767, 65535, 131071] (.step 0 (.step 1 (.step 2 (.step 4 (.step 5 (.step 6 (.step 7 (.step 9 (.step 10 (.step 11 (.step 3 (.step 8 (.step 12 (.step 13 (.step 14 (.step 15 (.step 16 (.step 17 .done)))))))))))))))))))] Tryz.func100 (by kernel_rfl) (by kernel_rfl) h

theorem vc_sched_Sched_find {b0 o0 : Nat} {x1 : Int} {M : Mem} {K : Value → Mem → Prop} {Kp : List PanicEntry → Mem → Prop} (h :
nwc M (.cells #[(.int .i64 0), (.int .i64 0), (.int .i64 0), (.slice none 0 0)] 47 (0, 0)) fun k1 M2 =>
exSl (Mem.ld M2 ⟨b0, (o0 + 5), none⟩) fun A3 k4 k5 =>
exSl (Mem.ld M2 ⟨b0, (o0 + 6), none⟩) fun A6 k7 k8 =>
((0 : Int) ≤ x1) ∧
((x1 : Int) < ((k7 : Nat) : Int)) ∧
nilc A6 fun k9 k10 =>
exI (Mem.ld M2 ⟨k9, (k10 + ((Int.toNat x1) * 3)), none⟩) .i64 fun n11 =>
((0 : Int) ≤ n11) ∧
((n11 : Int) < ((k4 : Nat) : Int)) ∧
nilc A3 fun k12 k13 =>
exSl (Mem.ld M2 ⟨b0, (o0 + 6), none⟩) fun A14 k15 k16 =>
((0 : Int) ≤ x1) ∧
((x1 : Int) < ((k15 : Nat) : Int)) ∧
nilc A14 fun k17 k18 =>
exI (Mem.ld M2 ⟨k17, ((k18 + ((Int.toNat x1) * 3)) + 2), none⟩) .i64 fun n19 =>
bsp (decide ((n19 : Int) > 0))
 (exP (Mem.ld M2 ⟨k12, (k13 + ((Int.toNat n11) * 3)), none⟩) fun A20 =>
  ACalls Tryz.prog 58 #[(.pointer A20)] M2 (fun v21 M22 =>
  exI (some v21) .i64 fun n23 =>
  ∃ J24 : List Value → Mem → Prop, (bsp (n23 != (-1))
    (exP (Mem.ld M22 ⟨k12, (k13 + ((Int.toNat n11) * 3)), none⟩) fun A25 =>
     exSl (Mem.ld M22 ⟨b0, (o0 + 6), none⟩) fun A26 k27 k28 =>
     ACalls Tryz.prog 131 #[(.pointer A25)] M22 (fun v29 M30 =>
     ∃ n31 : Int, ∃ t32 : Bool, (v29 = (.tuple #[(.int .i64 n31), (.bool t32)])) ∧
     ((Mem.ld M30 ⟨b0, (o0 + 6), none⟩) = (some (.slice A26 k27 k28))) ∧
     ((0 : Int) ≤ x1) ∧
     ((x1 : Int) < ((k27 : Nat) : Int)) ∧
     nilc A26 fun k33 k34 =>
     stc M30 ⟨k33, ((k34 + ((Int.toNat x1) * 3)) + 1), none⟩ (.int .i64 n31) fun M35 =>
     ((Mem.ld M35 ⟨b0, (o0 + 6), none⟩) = (some (.slice A26 k27 k28))) ∧
     exSl (Mem.ld M35 ⟨b0, (o0 + 6), none⟩) fun A36 k37 k38 =>
     ((0 : Int) ≤ x1) ∧
     ((x1 : Int) < ((k37 : Nat) : Int)) ∧
     nilc A36 fun k39 k40 =>
     exI (Mem.ld M35 ⟨k39, ((k40 + ((Int.toNat x1) * 3)) + 1), none⟩) .i64 fun n41 =>
     stc M35 ⟨k1, 0, none⟩ (.int .i64 4) fun M42 =>
     stc M42 ⟨k1, (0 + 1), none⟩ (.int .i64 x1) fun M43 =>
     stc M43 ⟨k1, (0 + 2), none⟩ (.int .i64 n41) fun M44 =>
     stc M44 ⟨k1, (0 + 3), none⟩ (.slice none 0 0) fun M45 =>
     exI (Mem.ld M45 ⟨k1, 0, none⟩) .i64 fun n46 =>
     exI (Mem.ld M45 ⟨k1, (0 + 1), none⟩) .i64 fun n47 =>
     exI (Mem.ld M45 ⟨k1, (0 + 2), none⟩) .i64 fun n48 =>
     exSl (Mem.ld M45 ⟨k1, (0 + 3), none⟩) fun A49 k50 k51 =>
     K (.agg #[(.int .i64 n46), (.int .i64 n47), (.int .i64 n48), (.slice A49 k50 k51)]) M45) Kp)
    (J24 [] M22)) ∧
  ∀ junk52 : Nat → Value, ∀ M53 : Mem, (J24 [] M53) → ACalls Tryz.prog 132 #[(.pointer (some ⟨b0, o0, none⟩)), (.pointer (some ⟨k12, (k13 + ((Int.toNat n11) * 3)), none⟩))] M53 (fun v54 M55 =>
  ∃ n56 : Int, ∃ t57 : Bool, (v54 = (.tuple #[(.int .i64 n56), (.bool t57)])) ∧
  bsp (!t57)
   (exI (Mem.ld M55 ⟨b0, (o0 + 1), none⟩) .i64 fun n58 =>
    ∃ J59 : List Value → Mem → Prop, (bsp (decide ((n58 : Int) > 1))
      (exP (Mem.ld M55 ⟨b0, (o0 + 8), none⟩) fun A60 =>
       exI (Mem.ld M55 ⟨b0, (o0 + 1), none⟩) .i64 fun n61 =>
       ACalls Tryz.prog 98 #[(.pointer A60), (.int .i64 2), (.int .i64 n61)] M55 (fun v62 M63 =>
       exI (some v62) .i64 fun n64 =>
       exP (Mem.ld M63 ⟨k12, (k13 + ((Int.toNat n11) * 3)), none⟩) fun A65 =>
       exSl (Mem.ld M63 ⟨b0, (o0 + 5), none⟩) fun A66 k67 k68 =>
       ((0 : Int) ≤ n64) ∧
       ((n64 : Int) < ((k67 : Nat) : Int)) ∧
       nilc A66 fun k69 k70 =>
       exP (Mem.ld M63 ⟨k69, (k70 + ((Int.toNat n64) * 3)), none⟩) fun A71 =>
       ACalls Tryz.prog 133 #[(.pointer A65), (.pointer A71)] M63 (fun v72 M73 =>
       ∃ n74 : Int, ∃ t75 : Bool, (v72 = (.tuple #[(.int .i64 n74), (.bool t75)])) ∧
       J59 [(.int .i64 5), (.int .i64 n74), (.bool t75)] M73) Kp) Kp)
      (J59 [(.int .i64 4), (.int .i64 n56), (.bool t57)] M55)) ∧
    ∀ junk76 : Nat → Value, ∀ n77 : Int, ∀ n78 : Int, ∀ t79 : Bool, ∀ M80 : Mem, (J59 [(.int .i64 n77), (.int .i64 n78), (.bool t79)] M80) → bsp (!t79)
     (exSl (Mem.ld M80 ⟨b0, (o0 + 6), none⟩) fun A81 k82 k83 =>
      stc M80 ⟨k12, ((k13 + ((Int.toNat n11) * 3)) + 2), none⟩ (.int .i64 (-1)) fun M84 =>
      ((0 : Int) ≤ x1) ∧
      ((x1 : Int) < ((k82 : Nat) : Int)) ∧
      nilc A81 fun k85 k86 =>
      stc M84 ⟨k85, (k86 + ((Int.toNat x1) * 3)), none⟩ (.int .i64 (-1)) fun M87 =>
      stc M87 ⟨k85, ((k86 + ((Int.toNat x1) * 3)) + 1), none⟩ (.int .i64 (-1)) fun M88 =>
      stc M88 ⟨k85, ((k86 + ((Int.toNat x1) * 3)) + 2), none⟩ (.int .i64 0) fun M89 =>
      stc M89 ⟨k1, 0, none⟩ (.int .i64 6) fun M90 =>
      stc M90 ⟨k1, (0 + 1), none⟩ (.int .i64 x1) fun M91 =>
      stc M91 ⟨k1, (0 + 2), none⟩ (.int .i64 (-1)) fun M92 =>
      stc M92 ⟨k1, (0 + 3), none⟩ (.slice none 0 0) fun M93 =>
      exI (Mem.ld M93 ⟨k1, 0, none⟩) .i64 fun n94 =>
      exI (Mem.ld M93 ⟨k1, (0 + 1), none⟩) .i64 fun n95 =>
      exI (Mem.ld M93 ⟨k1, (0 + 2), none⟩) .i64 fun n96 =>
      exSl (Mem.ld M93 ⟨k1, (0 + 3), none⟩) fun A97 k98 k99 =>
      K (.agg #[(.int .i64 n94), (.int .i64 n95), (.int .i64 n96), (.slice A97 k98 k99)]) M93)
     (exI (Mem.ld M80 ⟨k12, ((k13 + ((Int.toNat n11) * 3)) + 1), none⟩) .i64 fun n100 =>
      stc M80 ⟨k12, ((k13 + ((Int.toNat n11) * 3)) + 1), none⟩ (.int .i64 (IntKind.wrap .i64 (n100 + 1))) fun M101 =>
      exSl (Mem.ld M101 ⟨b0, (o0 + 6), none⟩) fun A102 k103 k104 =>
      exSl (Mem.ld M101 ⟨b0, (o0 + 6), none⟩) fun A105 k106 k107 =>
      exI (Mem.ld M101 ⟨b0, ((o0 + 1) + 3), none⟩) .i64 fun n108 =>
      ((0 : Int) ≤ x1) ∧
      ((x1 : Int) < ((k103 : Nat) : Int)) ∧
      nilc A102 fun k109 k110 =>
      stc M101 ⟨k109, ((k110 + ((Int.toNat x1) * 3)) + 1), none⟩ (.int .i64 n78) fun M111 =>
      ((0 : Int) ≤ x1) ∧
      ((x1 : Int) < ((k106 : Nat) : Int)) ∧
      nilc A105 fun k112 k113 =>
      stc M111 ⟨k112, ((k113 + ((Int.toNat x1) * 3)) + 2), none⟩ (.int .i64 n108) fun M114 =>
      stc M114 ⟨k1, 0, none⟩ (.int .i64 n77) fun M115 =>
      stc M115 ⟨k1, (0 + 1), none⟩ (.int .i64 x1) fun M116 =>
      stc M116 ⟨k1, (0 + 2), none⟩ (.int .i64 n78) fun M117 =>
      stc M117 ⟨k1, (0 + 3), none⟩ (.slice none 0 0) fun M118 =>
      exI (Mem.ld M118 ⟨k1, 0, none⟩) .i64 fun n119 =>
      exI (Mem.ld M118 ⟨k1, (0 + 1), none⟩) .i64 fun n120 =>
      exI (Mem.ld M118 ⟨k1, (0 + 2), none⟩) .i64 fun n121 =>
      exSl (Mem.ld M118 ⟨k1, (0 + 3), none⟩) fun A122 k123 k124 =>
      K (.agg #[(.int .i64 n119), (.int .i64 n120), (.int .i64 n121), (.slice A122 k123 k124)]) M118))
   (∃ J125 : List Value → Mem → Prop, (J125 [(.int .i64 4), (.int .i64 n56), (.bool t57)] M55) ∧
    ∀ junk126 : Nat → Value, ∀ n127 : Int, ∀ n128 : Int, ∀ t129 : Bool, ∀ M130 : Mem, (J125 [(.int .i64 n127), (.int .i64 n128), (.bool t129)] M130) → bsp (!t129)
     (exSl (Mem.ld M130 ⟨b0, (o0 + 6), none⟩) fun A131 k132 k133 =>
      stc M130 ⟨k12, ((k13 + ((Int.toNat n11) * 3)) + 2), none⟩ (.int .i64 (-1)) fun M134 =>
      ((0 : Int) ≤ x1) ∧
      ((x1 : Int) < ((k132 : Nat) : Int)) ∧
      nilc A131 fun k135 k136 =>
      stc M134 ⟨k135, (k136 + ((Int.toNat x1) * 3)), none⟩ (.int .i64 (-1)) fun M137 =>
      stc M137 ⟨k135, ((k136 + ((Int.toNat x1) * 3)) + 1), none⟩ (.int .i64 (-1)) fun M138 =>
      stc M138 ⟨k135, ((k136 + ((Int.toNat x1) * 3)) + 2), none⟩ (.int .i64 0) fun M139 =>
      stc M139 ⟨k1, 0, none⟩ (.int .i64 6) fun M140 =>
      stc M140 ⟨k1, (0 + 1), none⟩ (.int .i64 x1) fun M141 =>
      stc M141 ⟨k1, (0 + 2), none⟩ (.int .i64 (-1)) fun M142 =>
      stc M142 ⟨k1, (0 + 3), none⟩ (.slice none 0 0) fun M143 =>
      exI (Mem.ld M143 ⟨k1, 0, none⟩) .i64 fun n144 =>
      exI (Mem.ld M143 ⟨k1, (0 + 1), none⟩) .i64 fun n145 =>
      exI (Mem.ld M143 ⟨k1, (0 + 2), none⟩) .i64 fun n146 =>
      exSl (Mem.ld M143 ⟨k1, (0 + 3), none⟩) fun A147 k148 k149 =>
      K (.agg #[(.int .i64 n144), (.int .i64 n145), (.int .i64 n146), (.slice A147 k148 k149)]) M143)
     (exI (Mem.ld M130 ⟨k12, ((k13 + ((Int.toNat n11) * 3)) + 1), none⟩) .i64 fun n150 =>
      stc M130 ⟨k12, ((k13 + ((Int.toNat n11) * 3)) + 1), none⟩ (.int .i64 (IntKind.wrap .i64 (n150 + 1))) fun M151 =>
      exSl (Mem.ld M151 ⟨b0, (o0 + 6), none⟩) fun A152 k153 k154 =>
      exSl (Mem.ld M151 ⟨b0, (o0 + 6), none⟩) fun A155 k156 k157 =>
      exI (Mem.ld M151 ⟨b0, ((o0 + 1) + 3), none⟩) .i64 fun n158 =>
      ((0 : Int) ≤ x1) ∧
      ((x1 : Int) < ((k153 : Nat) : Int)) ∧
      nilc A152 fun k159 k160 =>
      stc M151 ⟨k159, ((k160 + ((Int.toNat x1) * 3)) + 1), none⟩ (.int .i64 n128) fun M161 =>
      ((0 : Int) ≤ x1) ∧
      ((x1 : Int) < ((k156 : Nat) : Int)) ∧
      nilc A155 fun k162 k163 =>
      stc M161 ⟨k162, ((k163 + ((Int.toNat x1) * 3)) + 2), none⟩ (.int .i64 n158) fun M164 =>
      stc M164 ⟨k1, 0, none⟩ (.int .i64 n127) fun M165 =>
      stc M165 ⟨k1, (0 + 1), none⟩ (.int .i64 x1) fun M166 =>
      stc M166 ⟨k1, (0 + 2), none⟩ (.int .i64 n128) fun M167 =>
      stc M167 ⟨k1, (0 + 3), none⟩ (.slice none 0 0) fun M168 =>
      exI (Mem.ld M168 ⟨k1, 0, none⟩) .i64 fun n169 =>
      exI (Mem.ld M168 ⟨k1, (0 + 1), none⟩) .i64 fun n170 =>
      exI (Mem.ld M168 ⟨k1, (0 + 2), none⟩) .i64 fun n171 =>
      exSl (Mem.ld M168 ⟨k1, (0 + 3), none⟩) fun A172 k173 k174 =>
      K (.agg #[(.int .i64 n169), (.int .i64 n170), (.int .i64 n171), (.slice A172 k173 k174)]) M168))) Kp) Kp)
 (∃ J175 : List Value → Mem → Prop, (J175 [] M2) ∧
  ∀ junk176 : Nat → Value, ∀ M177 : Mem, (J175 [] M177) → ACalls Tryz.prog 132 #[(.pointer (some ⟨b0, o0, none⟩)), (.pointer (some ⟨k12, (k13 + ((Int.toNat n11) * 3)), none⟩))] M177 (fun v178 M179 =>
  ∃ n180 : Int, ∃ t181 : Bool, (v178 = (.tuple #[(.int .i64 n180), (.bool t181)])) ∧
  bsp (!t181)
   (exI (Mem.ld M179 ⟨b0, (o0 + 1), none⟩) .i64 fun n182 =>
    ∃ J183 : List Value → Mem → Prop, (bsp (decide ((n182 : Int) > 1))
      (exP (Mem.ld M179 ⟨b0, (o0 + 8), none⟩) fun A184 =>
       exI (Mem.ld M179 ⟨b0, (o0 + 1), none⟩) .i64 fun n185 =>
       ACalls Tryz.prog 98 #[(.pointer A184), (.int .i64 2), (.int .i64 n185)] M179 (fun v186 M187 =>
       exI (some v186) .i64 fun n188 =>
       exP (Mem.ld M187 ⟨k12, (k13 + ((Int.toNat n11) * 3)), none⟩) fun A189 =>
       exSl (Mem.ld M187 ⟨b0, (o0 + 5), none⟩) fun A190 k191 k192 =>
       ((0 : Int) ≤ n188) ∧
       ((n188 : Int) < ((k191 : Nat) : Int)) ∧
       nilc A190 fun k193 k194 =>
       exP (Mem.ld M187 ⟨k193, (k194 + ((Int.toNat n188) * 3)), none⟩) fun A195 =>
       ACalls Tryz.prog 133 #[(.pointer A189), (.pointer A195)] M187 (fun v196 M197 =>
       ∃ n198 : Int, ∃ t199 : Bool, (v196 = (.tuple #[(.int .i64 n198), (.bool t199)])) ∧
       J183 [(.int .i64 5), (.int .i64 n198), (.bool t199)] M197) Kp) Kp)
      (J183 [(.int .i64 4), (.int .i64 n180), (.bool t181)] M179)) ∧
    ∀ junk200 : Nat → Value, ∀ n201 : Int, ∀ n202 : Int, ∀ t203 : Bool, ∀ M204 : Mem, (J183 [(.int .i64 n201), (.int .i64 n202), (.bool t203)] M204) → bsp (!t203)
     (exSl (Mem.ld M204 ⟨b0, (o0 + 6), none⟩) fun A205 k206 k207 =>
      stc M204 ⟨k12, ((k13 + ((Int.toNat n11) * 3)) + 2), none⟩ (.int .i64 (-1)) fun M208 =>
      ((0 : Int) ≤ x1) ∧
      ((x1 : Int) < ((k206 : Nat) : Int)) ∧
      nilc A205 fun k209 k210 =>
      stc M208 ⟨k209, (k210 + ((Int.toNat x1) * 3)), none⟩ (.int .i64 (-1)) fun M211 =>
      stc M211 ⟨k209, ((k210 + ((Int.toNat x1) * 3)) + 1), none⟩ (.int .i64 (-1)) fun M212 =>
      stc M212 ⟨k209, ((k210 + ((Int.toNat x1) * 3)) + 2), none⟩ (.int .i64 0) fun M213 =>
      stc M213 ⟨k1, 0, none⟩ (.int .i64 6) fun M214 =>
      stc M214 ⟨k1, (0 + 1), none⟩ (.int .i64 x1) fun M215 =>
      stc M215 ⟨k1, (0 + 2), none⟩ (.int .i64 (-1)) fun M216 =>
      stc M216 ⟨k1, (0 + 3), none⟩ (.slice none 0 0) fun M217 =>
      exI (Mem.ld M217 ⟨k1, 0, none⟩) .i64 fun n218 =>
      exI (Mem.ld M217 ⟨k1, (0 + 1), none⟩) .i64 fun n219 =>
      exI (Mem.ld M217 ⟨k1, (0 + 2), none⟩) .i64 fun n220 =>
      exSl (Mem.ld M217 ⟨k1, (0 + 3), none⟩) fun A221 k222 k223 =>
      K (.agg #[(.int .i64 n218), (.int .i64 n219), (.int .i64 n220), (.slice A221 k222 k223)]) M217)
     (exI (Mem.ld M204 ⟨k12, ((k13 + ((Int.toNat n11) * 3)) + 1), none⟩) .i64 fun n224 =>
      stc M204 ⟨k12, ((k13 + ((Int.toNat n11) * 3)) + 1), none⟩ (.int .i64 (IntKind.wrap .i64 (n224 + 1))) fun M225 =>
      exSl (Mem.ld M225 ⟨b0, (o0 + 6), none⟩) fun A226 k227 k228 =>
      exSl (Mem.ld M225 ⟨b0, (o0 + 6), none⟩) fun A229 k230 k231 =>
      exI (Mem.ld M225 ⟨b0, ((o0 + 1) + 3), none⟩) .i64 fun n232 =>
      ((0 : Int) ≤ x1) ∧
      ((x1 : Int) < ((k227 : Nat) : Int)) ∧
      nilc A226 fun k233 k234 =>
      stc M225 ⟨k233, ((k234 + ((Int.toNat x1) * 3)) + 1), none⟩ (.int .i64 n202) fun M235 =>
      ((0 : Int) ≤ x1) ∧
      ((x1 : Int) < ((k230 : Nat) : Int)) ∧
      nilc A229 fun k236 k237 =>
      stc M235 ⟨k236, ((k237 + ((Int.toNat x1) * 3)) + 2), none⟩ (.int .i64 n232) fun M238 =>
      stc M238 ⟨k1, 0, none⟩ (.int .i64 n201) fun M239 =>
      stc M239 ⟨k1, (0 + 1), none⟩ (.int .i64 x1) fun M240 =>
      stc M240 ⟨k1, (0 + 2), none⟩ (.int .i64 n202) fun M241 =>
      stc M241 ⟨k1, (0 + 3), none⟩ (.slice none 0 0) fun M242 =>
      exI (Mem.ld M242 ⟨k1, 0, none⟩) .i64 fun n243 =>
      exI (Mem.ld M242 ⟨k1, (0 + 1), none⟩) .i64 fun n244 =>
      exI (Mem.ld M242 ⟨k1, (0 + 2), none⟩) .i64 fun n245 =>
      exSl (Mem.ld M242 ⟨k1, (0 + 3), none⟩) fun A246 k247 k248 =>
      K (.agg #[(.int .i64 n243), (.int .i64 n244), (.int .i64 n245), (.slice A246 k247 k248)]) M242))
   (∃ J249 : List Value → Mem → Prop, (J249 [(.int .i64 4), (.int .i64 n180), (.bool t181)] M179) ∧
    ∀ junk250 : Nat → Value, ∀ n251 : Int, ∀ n252 : Int, ∀ t253 : Bool, ∀ M254 : Mem, (J249 [(.int .i64 n251), (.int .i64 n252), (.bool t253)] M254) → bsp (!t253)
     (exSl (Mem.ld M254 ⟨b0, (o0 + 6), none⟩) fun A255 k256 k257 =>
      stc M254 ⟨k12, ((k13 + ((Int.toNat n11) * 3)) + 2), none⟩ (.int .i64 (-1)) fun M258 =>
      ((0 : Int) ≤ x1) ∧
      ((x1 : Int) < ((k256 : Nat) : Int)) ∧
      nilc A255 fun k259 k260 =>
      stc M258 ⟨k259, (k260 + ((Int.toNat x1) * 3)), none⟩ (.int .i64 (-1)) fun M261 =>
      stc M261 ⟨k259, ((k260 + ((Int.toNat x1) * 3)) + 1), none⟩ (.int .i64 (-1)) fun M262 =>
      stc M262 ⟨k259, ((k260 + ((Int.toNat x1) * 3)) + 2), none⟩ (.int .i64 0) fun M263 =>
      stc M263 ⟨k1, 0, none⟩ (.int .i64 6) fun M264 =>
      stc M264 ⟨k1, (0 + 1), none⟩ (.int .i64 x1) fun M265 =>
      stc M265 ⟨k1, (0 + 2), none⟩ (.int .i64 (-1)) fun M266 =>
      stc M266 ⟨k1, (0 + 3), none⟩ (.slice none 0 0) fun M267 =>
      exI (Mem.ld M267 ⟨k1, 0, none⟩) .i64 fun n268 =>
      exI (Mem.ld M267 ⟨k1, (0 + 1), none⟩) .i64 fun n269 =>
      exI (Mem.ld M267 ⟨k1, (0 + 2), none⟩) .i64 fun n270 =>
      exSl (Mem.ld M267 ⟨k1, (0 + 3), none⟩) fun A271 k272 k273 =>
      K (.agg #[(.int .i64 n268), (.int .i64 n269), (.int .i64 n270), (.slice A271 k272 k273)]) M267)
     (exI (Mem.ld M254 ⟨k12, ((k13 + ((Int.toNat n11) * 3)) + 1), none⟩) .i64 fun n274 =>
      stc M254 ⟨k12, ((k13 + ((Int.toNat n11) * 3)) + 1), none⟩ (.int .i64 (IntKind.wrap .i64 (n274 + 1))) fun M275 =>
      exSl (Mem.ld M275 ⟨b0, (o0 + 6), none⟩) fun A276 k277 k278 =>
      exSl (Mem.ld M275 ⟨b0, (o0 + 6), none⟩) fun A279 k280 k281 =>
      exI (Mem.ld M275 ⟨b0, ((o0 + 1) + 3), none⟩) .i64 fun n282 =>
      ((0 : Int) ≤ x1) ∧
      ((x1 : Int) < ((k277 : Nat) : Int)) ∧
      nilc A276 fun k283 k284 =>
      stc M275 ⟨k283, ((k284 + ((Int.toNat x1) * 3)) + 1), none⟩ (.int .i64 n252) fun M285 =>
      ((0 : Int) ≤ x1) ∧
      ((x1 : Int) < ((k280 : Nat) : Int)) ∧
      nilc A279 fun k286 k287 =>
      stc M285 ⟨k286, ((k287 + ((Int.toNat x1) * 3)) + 2), none⟩ (.int .i64 n282) fun M288 =>
      stc M288 ⟨k1, 0, none⟩ (.int .i64 n251) fun M289 =>
      stc M289 ⟨k1, (0 + 1), none⟩ (.int .i64 x1) fun M290 =>
      stc M290 ⟨k1, (0 + 2), none⟩ (.int .i64 n252) fun M291 =>
      stc M291 ⟨k1, (0 + 3), none⟩ (.slice none 0 0) fun M292 =>
      exI (Mem.ld M292 ⟨k1, 0, none⟩) .i64 fun n293 =>
      exI (Mem.ld M292 ⟨k1, (0 + 1), none⟩) .i64 fun n294 =>
      exI (Mem.ld M292 ⟨k1, (0 + 2), none⟩) .i64 fun n295 =>
      exSl (Mem.ld M292 ⟨k1, (0 + 3), none⟩) fun A296 k297 k298 =>
      K (.agg #[(.int .i64 n293), (.int .i64 n294), (.int .i64 n295), (.slice A296 k297 k298)]) M292))) Kp)) :
  ACalls Tryz.prog 101 ([.pointer (some ⟨b0, o0, none⟩), .int .i64 x1] : List Value).toArray M K Kp :=
  acalls_vc (C := Cx) good [(1, .reg [0, 1, 3, 7, 0, 16, 48, 112, 0, 496, 1008, 2032, 4095, 8191] (.step 0 (.step 1 (.step 2 (.step 4 (.step 5 (.step 6 (.step 8 (.step 3 (.step 7 (.step 9 (.step 10 (.step 11 (.step 12 (.step 13 .done))))))))))))))), (3000039, .cut []), (3, .reg [0, 1, 3, 7, 0, 0, 32, 96, 224, 480, 992, 2016, 2016, 4095, 12287, 28671] (.step 0 (.step 1 (.step 2 (.step 4 (.step 5 (.step 6 (.step 7 (.step 8 (.prom 3 (.step 9 (.step 10 (.step 11 (.step 12 (.step 13 (.step 14 (.step 15 .done))))))))))))))))), (3000080, .cut [(6, .c (.int .i64)), (7, .c (.int .i64)), (8, .c .bool)]), (8, .reg [0, 1, 3, 7, 0, 16, 48, 112, 240, 511, 1023] (.step 0 (.step 1 (.step 2 (.step 4 (.step 5 (.step 6 (.step 7 (.step 3 (.step 8 (.step 9 (.step 10 .done)))))))))))), (10, .reg [0, 1, 3, 7, 0, 16, 48, 112, 0, 496, 1008, 2032, 4095, 8191, 16383, 16383, 32767, 131071] (.step 0 (.step 1 (.step 2 (.step 4 (.step 5 (.step 6 (.step 8 (.step 3 (.step 7 (.step 9 (.step 10 (.step 11 (.step 12 (.step 13 (.step 14 (.step 15 (.step 16 (.step 17 .done))))))))))))))))))), (15, .reg [0, 1, 3, 7, 0, 0, 32, 96, 224, 0, 0, 0, 2048, 6144, 14336, 30720, 65023, 130559, 261631, 524287, 1048575, 2097151] (.step 0 (.step 1 (.step 2 (.step 4 (.step 5 (.step 6 (.step 7 (.step 9 (.step 10 (.step 11 (.step 12 (.step 13 (.step 14 (.step 3 (.step 8 (.step 15 (.step 16 (.step 17 (.step 18 (.step 19 (.step 20 (.step 21 .done)))))))))))))))))))))))] Tryz.func101 (by kernel_rfl) (by kernel_rfl) h

theorem vc_sched_Sched_run {b0 o0 : Nat} {x1 : Int} {M : Mem} {K : Value → Mem → Prop} {Kp : List PanicEntry → Mem → Prop} (h :
nwc M (.cells #[(.int .i64 0), (.int .i64 0), (.int .i64 0), (.slice none 0 0)] 47 (0, 0)) fun k1 M2 =>
exSl (Mem.ld M2 ⟨b0, (o0 + 6), none⟩) fun A3 k4 k5 =>
((0 : Int) ≤ x1) ∧
((x1 : Int) < ((k4 : Nat) : Int)) ∧
nilc A3 fun k6 k7 =>
exI (Mem.ld M2 ⟨k6, ((k7 + ((Int.toNat x1) * 3)) + 1), none⟩) .i64 fun n8 =>
exP (Mem.ld M2 ⟨b0, o0, none⟩) fun A9 =>
exP (Mem.ld M2 ⟨b0, (o0 + 8), none⟩) fun A10 =>
(True) ∧
ACalls Tryz.prog 41 #[(.pointer A9), (.int .i64 n8), (.func (.func 98) #[(.pointer A10)] #[])] M2 (fun v11 M12 =>
∃ t13 : Bool, ∃ A14 : Option Addr, ∃ k15 : Nat, ∃ k16 : Nat, (v11 = (.agg #[(.bool t13), (.slice A14 k15 k16)])) ∧
nwc M12 (.cells #[(.bool false), (.slice none 0 0)] 120 (0, 0)) fun k17 M18 =>
stc M18 ⟨k17, 0, none⟩ (.bool t13) fun M19 =>
stc M19 ⟨k17, (0 + 1), none⟩ (.slice A14 k15 k16) fun M20 =>
exSl (Mem.ld M20 ⟨k17, (0 + 1), none⟩) fun A21 k22 k23 =>
∃ I24 : Nat → List Value → Mem → Prop, (∃ k25 : Nat, I24 k25 [(.int .i64 0)] M20) ∧
∀ k26 : Nat, ∀ junk27 : Nat → Value, ∀ n28 : Int, ∀ M29 : Mem, (I24 k26 [(.int .i64 n28)] M29) → bsp (decide ((n28 : Int) < ((k22 : Nat) : Int)))
 (((0 : Int) ≤ n28) ∧
  ((n28 : Int) < ((k22 : Nat) : Int)) ∧
  nilc A21 fun k30 k31 =>
  exI (Mem.ld M29 ⟨k30, (k31 + (Int.toNat n28)), none⟩) .i64 fun n32 =>
  exSl (Mem.ld M29 ⟨b0, (o0 + 5), none⟩) fun A33 k34 k35 =>
  exI (Mem.ld M29 ⟨k6, (k7 + ((Int.toNat x1) * 3)), none⟩) .i64 fun n36 =>
  ((0 : Int) ≤ n36) ∧
  ((n36 : Int) < ((k34 : Nat) : Int)) ∧
  nilc A33 fun k37 k38 =>
  exP (Mem.ld M29 ⟨k37, (k38 + ((Int.toNat n36) * 3)), none⟩) fun A39 =>
  ACalls Tryz.prog 134 #[(.pointer A39), (.int .i64 n32), (.pointer (some ⟨b0, (o0 + 7), none⟩))] M29 (fun v40 M41 =>
  exI (some v40) .i64 fun n42 =>
  ∃ k43 : Nat, (k43 < k26) ∧
  I24 k43 [(.int .i64 (IntKind.wrap .i64 (n28 + 1)))] M41) Kp)
 (exI (Mem.ld M29 ⟨k6, ((k7 + ((Int.toNat x1) * 3)) + 2), none⟩) .i64 fun n44 =>
  stc M29 ⟨k6, ((k7 + ((Int.toNat x1) * 3)) + 2), none⟩ (.int .i64 (IntKind.wrap .i64 (n44 - 1))) fun M45 =>
  exB (Mem.ld M45 ⟨k17, 0, none⟩) fun t46 =>
  bsp (!t46)
   (stc M45 ⟨k6, ((k7 + ((Int.toNat x1) * 3)) + 1), none⟩ (.int .i64 (-1)) fun M47 =>
    exP (Mem.ld M47 ⟨b0, o0, none⟩) fun A48 =>
    ACalls Tryz.prog 65 #[(.pointer A48), (.int .i64 n8)] M47 (fun v49 M50 =>
    exI (some v49) .i64 fun n51 =>
    bsp (n51 == 1)
     (nwc M50 (.cells #[(.int .i64 n8)] 3 (0, 0)) fun k52 M53 =>
      ACalls Tryz.prog 53 #[(.pointer (some ⟨b0, (o0 + 7), none⟩)), (.slice (some ⟨k52, 0, none⟩) 1 1)] M53 (fun v54 M55 =>
      (v54 = (.tuple #[])) ∧
      exSl (Mem.ld M55 ⟨k17, (0 + 1), none⟩) fun A56 k57 k58 =>
      stc M55 ⟨k1, 0, none⟩ (.int .i64 7) fun M59 =>
      stc M59 ⟨k1, (0 + 1), none⟩ (.int .i64 x1) fun M60 =>
      stc M60 ⟨k1, (0 + 2), none⟩ (.int .i64 n8) fun M61 =>
      stc M61 ⟨k1, (0 + 3), none⟩ (.slice A56 k57 k58) fun M62 =>
      exI (Mem.ld M62 ⟨k1, 0, none⟩) .i64 fun n63 =>
      exI (Mem.ld M62 ⟨k1, (0 + 1), none⟩) .i64 fun n64 =>
      exI (Mem.ld M62 ⟨k1, (0 + 2), none⟩) .i64 fun n65 =>
      exSl (Mem.ld M62 ⟨k1, (0 + 3), none⟩) fun A66 k67 k68 =>
      K (.agg #[(.int .i64 n63), (.int .i64 n64), (.int .i64 n65), (.slice A66 k67 k68)]) M62) Kp)
     (exSl (Mem.ld M50 ⟨k17, (0 + 1), none⟩) fun A69 k70 k71 =>
      stc M50 ⟨k1, 0, none⟩ (.int .i64 7) fun M72 =>
      stc M72 ⟨k1, (0 + 1), none⟩ (.int .i64 x1) fun M73 =>
      stc M73 ⟨k1, (0 + 2), none⟩ (.int .i64 n8) fun M74 =>
      stc M74 ⟨k1, (0 + 3), none⟩ (.slice A69 k70 k71) fun M75 =>
      exI (Mem.ld M75 ⟨k1, 0, none⟩) .i64 fun n76 =>
      exI (Mem.ld M75 ⟨k1, (0 + 1), none⟩) .i64 fun n77 =>
      exI (Mem.ld M75 ⟨k1, (0 + 2), none⟩) .i64 fun n78 =>
      exSl (Mem.ld M75 ⟨k1, (0 + 3), none⟩) fun A79 k80 k81 =>
      K (.agg #[(.int .i64 n76), (.int .i64 n77), (.int .i64 n78), (.slice A79 k80 k81)]) M75)) Kp)
   (exI (Mem.ld M45 ⟨k6, ((k7 + ((Int.toNat x1) * 3)) + 2), none⟩) .i64 fun n82 =>
    bsp (n82 == 0)
     (stc M45 ⟨k6, ((k7 + ((Int.toNat x1) * 3)) + 1), none⟩ (.int .i64 (-1)) fun M83 =>
      exP (Mem.ld M83 ⟨b0, o0, none⟩) fun A84 =>
      ACalls Tryz.prog 65 #[(.pointer A84), (.int .i64 n8)] M83 (fun v85 M86 =>
      exI (some v85) .i64 fun n87 =>
      bsp (n87 == 1)
       (nwc M86 (.cells #[(.int .i64 n8)] 3 (0, 0)) fun k88 M89 =>
        ACalls Tryz.prog 53 #[(.pointer (some ⟨b0, (o0 + 7), none⟩)), (.slice (some ⟨k88, 0, none⟩) 1 1)] M89 (fun v90 M91 =>
        (v90 = (.tuple #[])) ∧
        exSl (Mem.ld M91 ⟨k17, (0 + 1), none⟩) fun A92 k93 k94 =>
        stc M91 ⟨k1, 0, none⟩ (.int .i64 7) fun M95 =>
        stc M95 ⟨k1, (0 + 1), none⟩ (.int .i64 x1) fun M96 =>
        stc M96 ⟨k1, (0 + 2), none⟩ (.int .i64 n8) fun M97 =>
        stc M97 ⟨k1, (0 + 3), none⟩ (.slice A92 k93 k94) fun M98 =>
        exI (Mem.ld M98 ⟨k1, 0, none⟩) .i64 fun n99 =>
        exI (Mem.ld M98 ⟨k1, (0 + 1), none⟩) .i64 fun n100 =>
        exI (Mem.ld M98 ⟨k1, (0 + 2), none⟩) .i64 fun n101 =>
        exSl (Mem.ld M98 ⟨k1, (0 + 3), none⟩) fun A102 k103 k104 =>
        K (.agg #[(.int .i64 n99), (.int .i64 n100), (.int .i64 n101), (.slice A102 k103 k104)]) M98) Kp)
       (exSl (Mem.ld M86 ⟨k17, (0 + 1), none⟩) fun A105 k106 k107 =>
        stc M86 ⟨k1, 0, none⟩ (.int .i64 7) fun M108 =>
        stc M108 ⟨k1, (0 + 1), none⟩ (.int .i64 x1) fun M109 =>
        stc M109 ⟨k1, (0 + 2), none⟩ (.int .i64 n8) fun M110 =>
        stc M110 ⟨k1, (0 + 3), none⟩ (.slice A105 k106 k107) fun M111 =>
        exI (Mem.ld M111 ⟨k1, 0, none⟩) .i64 fun n112 =>
        exI (Mem.ld M111 ⟨k1, (0 + 1), none⟩) .i64 fun n113 =>
        exI (Mem.ld M111 ⟨k1, (0 + 2), none⟩) .i64 fun n114 =>
        exSl (Mem.ld M111 ⟨k1, (0 + 3), none⟩) fun A115 k116 k117 =>
        K (.agg #[(.int .i64 n112), (.int .i64 n113), (.int .i64 n114), (.slice A115 k116 k117)]) M111)) Kp)
     (exSl (Mem.ld M45 ⟨k17, (0 + 1), none⟩) fun A118 k119 k120 =>
      stc M45 ⟨k1, 0, none⟩ (.int .i64 7) fun M121 =>
      stc M121 ⟨k1, (0 + 1), none⟩ (.int .i64 x1) fun M122 =>
      stc M122 ⟨k1, (0 + 2), none⟩ (.int .i64 n8) fun M123 =>
      stc M123 ⟨k1, (0 + 3), none⟩ (.slice A118 k119 k120) fun M124 =>
      exI (Mem.ld M124 ⟨k1, 0, none⟩) .i64 fun n125 =>
      exI (Mem.ld M124 ⟨k1, (0 + 1), none⟩) .i64 fun n126 =>
      exI (Mem.ld M124 ⟨k1, (0 + 2), none⟩) .i64 fun n127 =>
      exSl (Mem.ld M124 ⟨k1, (0 + 3), none⟩) fun A128 k129 k130 =>
      K (.agg #[(.int .i64 n125), (.int .i64 n126), (.int .i64 n127), (.slice A128 k129 k130)]) M124)))) Kp) :
  ACalls Tryz.prog 102 ([.pointer (some ⟨b0, o0, none⟩), .int .i64 x1] : List Value).toArray M K Kp :=
  acalls_vc (C := Cx) good [(3, .reg [0, 1, 3, 7, 0, 0, 32, 96, 224, 480, 1023, 0, 4095] (.step 0 (.step 1 (.step 2 (.step 4 (.step 5 (.step 6 (.step 7 (.step 3 (.step 8 (.step 9 (.late 10 (.step 11 (.step 12 .done)))))))))))))), (2000000, .loop [(34, .c (.int .i64))]), (7, .reg [0, 1, 3, 7, 0, 16, 48, 112, 255, 511, 1023, 0, 0, 4096, 12288, 32767] (.step 0 (.step 1 (.step 2 (.step 4 (.step 5 (.step 6 (.step 11 (.step 12 (.step 13 (.step 14 (.step 3 (.step 7 (.step 8 (.step 9 (.step 10 (.step 15 .done)))))))))))))))))] Tryz.func102 (by kernel_rfl) (by kernel_rfl) h

theorem vc_sched_Sched_own {b0 o0 : Nat} {b1 o1 : Nat} {M : Mem} {K : Value → Mem → Prop} {Kp : List PanicEntry → Mem → Prop} (h :
exP (Mem.ld M ⟨b1, o1, none⟩) fun A1 =>
ACalls Tryz.prog 177 #[(.pointer A1), (.pointer (some ⟨b0, (o0 + 7), none⟩))] M (fun v2 M3 =>
exI (some v2) .i64 fun n4 =>
exI (Mem.ld M3 ⟨b1, (o1 + 1), none⟩) .i64 fun n5 =>
((7 : Int) ≠ 0) ∧
bsp ((Int.tmod n5 7) == 6)
 (ACalls Tryz.prog 178 #[(.pointer (some ⟨b0, (o0 + 7), none⟩)), (.int .i64 1)] M3 (fun v6 M7 =>
  exSl (some v6) fun A8 k9 k10 =>
  bsp (((k9 : Nat) : Int) == 1)
   (((0 : Int) ≤ 0) ∧
    ((0 : Int) < ((k9 : Nat) : Int)) ∧
    nilc A8 fun k11 k12 =>
    exI (Mem.ld M7 ⟨k11, (k12 + 0), none⟩) .i64 fun n13 =>
    K (.tuple #[(.int .i64 n13), (.bool true)]) M7)
   (exP (Mem.ld M7 ⟨b1, o1, none⟩) fun A14 =>
    ACalls Tryz.prog 131 #[(.pointer A14)] M7 (fun v15 M16 =>
    ∃ n17 : Int, ∃ t18 : Bool, (v15 = (.tuple #[(.int .i64 n17), (.bool t18)])) ∧
    bsp t18
     (K (.tuple #[(.int .i64 n17), (.bool true)]) M16)
     (exP (Mem.ld M16 ⟨b1, o1, none⟩) fun A19 =>
      ACalls Tryz.prog 179 #[(.pointer A19), (.pointer (some ⟨b0, (o0 + 7), none⟩)), (.int .i64 0)] M16 (fun v20 M21 =>
      ∃ n22 : Int, ∃ t23 : Bool, (v20 = (.tuple #[(.int .i64 n22), (.bool t23)])) ∧
      K (.tuple #[(.int .i64 n22), (.bool t23)]) M21) Kp)) Kp)) Kp)
 (exP (Mem.ld M3 ⟨b1, o1, none⟩) fun A24 =>
  ACalls Tryz.prog 131 #[(.pointer A24)] M3 (fun v25 M26 =>
  ∃ n27 : Int, ∃ t28 : Bool, (v25 = (.tuple #[(.int .i64 n27), (.bool t28)])) ∧
  bsp t28
   (K (.tuple #[(.int .i64 n27), (.bool true)]) M26)
   (exP (Mem.ld M26 ⟨b1, o1, none⟩) fun A29 =>
    ACalls Tryz.prog 179 #[(.pointer A29), (.pointer (some ⟨b0, (o0 + 7), none⟩)), (.int .i64 0)] M26 (fun v30 M31 =>
    ∃ n32 : Int, ∃ t33 : Bool, (v30 = (.tuple #[(.int .i64 n32), (.bool t33)])) ∧
    K (.tuple #[(.int .i64 n32), (.bool t33)]) M31) Kp)) Kp)) Kp) :
  ACalls Tryz.prog 132 ([.pointer (some ⟨b0, o0, none⟩), .pointer (some ⟨b1, o1, none⟩)] : List Value).toArray M K Kp :=
  acalls_vc (C := Cx) good [(1, .reg [0, 1, 3, 7, 0, 16, 48, 127] (.step 0 (.step 1 (.step 2 (.step 4 (.step 5 (.step 6 (.step 3 (.step 7 .done))))))))), (9, .reg [0, 1, 3, 7, 0, 16, 48, 127, 255, 255, 1023, 2047] (.step 0 (.step 1 (.step 2 (.step 4 (.step 5 (.step 6 (.step 3 (.step 7 (.step 8 (.step 9 (.step 10 (.step 11 .done)))))))))))))] Tryz.func132 (by kernel_rfl) (by kernel_rfl) h

end Go.Proofs

set_option linter.unusedVariables false
namespace Go.AF
theorem Pick.two : ∀ (zs : List HP) (i j : Nat), i ≠ j → i < zs.length → j < zs.length → ∃ rest, ∀ P Q, ∃ l1, Pick ((zs.set i P).set j Q) P l1 ∧ Pick l1 Q rest
  | [], _, _, _, h, _ => by simp at h
  | z :: zs, 0, 0, h, _, _ => absurd rfl h
  | z :: zs, 0, j + 1, _, _, hj => ⟨zs.eraseIdx j, fun P Q => ⟨zs.set j Q, by simp only [List.set_cons_zero, List.set_cons_succ]; exact .here, Pick.idx (by simpa using hj)⟩⟩
  | z :: zs, i + 1, 0, _, hi, _ => ⟨zs.eraseIdx i, fun P Q => ⟨Q :: zs.eraseIdx i, by simp only [List.set_cons_zero, List.set_cons_succ]; exact .there (Pick.idx (by simpa using hi)), .here⟩⟩
  | z :: zs, i + 1, j + 1, h, hi, hj => by
    obtain ⟨rest, hr⟩ := Pick.two zs i j (by omega) (by simpa using hi) (by simpa using hj)
    refine ⟨z :: rest, fun P Q => ?_⟩
    obtain ⟨l1, h1, h2⟩ := hr P Q
    exact ⟨z :: l1, by simp only [List.set_cons_succ]; exact .there h1, .there h2⟩
section
variable {α : Type} {r : Rep α} {R : Mem} {L L' L'' : List HP} {M : Mem} {bs : List Nat} {cs : List α} {b b' i j : Nat} {c c' : α}
/-- Two come to the front; they go back. -/
theorem Hp.objs_two (h : Hp R L M) (r : Rep α) {bs : List Nat} {cs : List α} [o : ObjsAt r L bs cs L'] (hij : i ≠ j) (hb : bs[i]? = some b) (hc : cs[i]? = some c) (hb' : bs[j]? = some b') (hc' : cs[j]? = some c') :
    ∃ X : HP, Hp R (objP r b c :: objP r b' c' :: X :: L') M ∧ ∀ {R' : Mem} {L2 : List HP} {M' : Mem} {d d' : α}, Hp R' (objP r b d :: objP r b' d' :: X :: L2) M' → Hp R' (objsP r bs ((cs.set i d).set j d') :: L2) M' := by
  have hi := (List.getElem?_eq_some_iff.1 hb).1
  have hj := (List.getElem?_eq_some_iff.1 hb').1
  have hi2 := (List.getElem?_eq_some_iff.1 hc).1
  have hj2 := (List.getElem?_eq_some_iff.1 hc').1
  have hl : (List.zipWith (objP r) bs cs).length = min bs.length cs.length := List.length_zipWith
  obtain ⟨rest, hr⟩ := Pick.two (List.zipWith (objP r) bs cs) i j hij (by omega) (by omega)
  refine ⟨sep rest, ?_, ?_⟩
  · have h0 : Hp R (sep (List.zipWith (objP r) bs cs) :: L') M := h.pick o.pick
    obtain ⟨l1, p1, p2⟩ := hr (objP r b c) (objP r b' c')
    have e : ((List.zipWith (objP r) bs cs).set i (objP r b c)).set j (objP r b' c') = List.zipWith (objP r) bs cs := by
      rw [zip_set hb, zip_set hb']
      congr 1
      obtain ⟨_, e1⟩ := List.getElem?_eq_some_iff.1 hc
      obtain ⟨_, e2⟩ := List.getElem?_eq_some_iff.1 hc'
      subst e1; subst e2
      rw [List.set_getElem_self, List.set_getElem_self]
    rw [e] at p1
    refine h0.map fun A hs => ?_
    have h1 := Star.pick p1.app (Star.sep_iff.1 hs)
    exact h1.tail fun B hb2 => (Star.pick p2.app hb2).tail fun C hc2 => Star.sep_iff.2 hc2
  · intro R' L2 M' d d' h1
    obtain ⟨l1, p1, p2⟩ := hr (objP r b d) (objP r b' d')
    rw [zip_set hb, zip_set hb'] at p1
    show Hp R' (sep (List.zipWith (objP r) bs ((cs.set i d).set j d')) :: L2) M'
    refine h1.map fun A hs => Star.sep_iff.2 (Star.unpick p1.app ?_)
    exact hs.tail fun B hb2 => Star.unpick p2.app (hb2.tail fun C hc2 => Star.sep_iff.1 hc2)
end
end Go.AF

namespace Go.Proofs
open Go.AF
set_option linter.unusedVariables false
set_option maxRecDepth 100000
theorem vc_shunterlaw18_awake  {M : Mem} {K : Value → Mem → Prop} {Kp : List PanicEntry → Mem → Prop} (h :
nwc M (.cells #[(.int .i64 20), (.int .i64 0), (.int .i64 0), (.int .i64 0), (.int .i64 10), (.int .i64 0), (.int .i64 0), (.int .i64 0)] 34 (0, 0)) fun k1 M2 =>
nwc M2 (.cells #[(.slice (some ⟨k1, 0, none⟩) 2 2)] 31 (0, 0)) fun k3 M4 =>
nwc M4 (.cells #[(.slice none 0 0), (.slice none 0 0), (.int .i64 0), (.slice none 0 0)] 41 (0, 0)) fun k5 M6 =>
stc M6 ⟨k5, 0, none⟩ (.slice (some ⟨k3, 0, none⟩) 1 1) fun M7 =>
stc M7 ⟨k5, (0 + 1), none⟩ (.slice none 0 0) fun M8 =>
stc M8 ⟨k5, (0 + 2), none⟩ (.int .i64 0) fun M9 =>
stc M9 ⟨k5, (0 + 3), none⟩ (.slice none 0 0) fun M10 =>
exSl (Mem.ld M10 ⟨k5, 0, none⟩) fun A11 k12 k13 =>
exSl (Mem.ld M10 ⟨k5, (0 + 1), none⟩) fun A14 k15 k16 =>
exI (Mem.ld M10 ⟨k5, (0 + 2), none⟩) .i64 fun n17 =>
exSl (Mem.ld M10 ⟨k5, (0 + 3), none⟩) fun A18 k19 k20 =>
nwc M10 (.cells #[(.int .u64 0), (.int .u64 0), (.int .u64 0), (.int .u64 0)] 36 (0, 0)) fun k21 M22 =>
ACalls Tryz.prog 17 #[(.slice (some ⟨k21, 0, none⟩) 4 4)] M22 (fun v23 M24 =>
exP (some v23) fun A25 =>
((Mem.lds M24 ⟨k5, 0, none⟩ 0 4) = some [(.slice A11 k12 k13), (.slice A14 k15 k16), (.int .i64 n17), (.slice A18 k19 k20)]) ∧
ACalls Tryz.prog 16 #[(.agg #[(.slice A11 k12 k13), (.slice A14 k15 k16), (.int .i64 n17), (.slice A18 k19 k20)]), (.agg #[(.int .i64 1), (.int .i64 1), (.int .i64 2), (.int .i64 9)]), (.pointer A25)] M24 (fun v26 M27 =>
exP (some v26) fun A28 =>
((Mem.lds M27 ⟨k5, 0, none⟩ 0 4) = some [(.slice A11 k12 k13), (.slice A14 k15 k16), (.int .i64 n17), (.slice A18 k19 k20)]) ∧
bsp (Option.isNone A28)
 (K (.bool false) M27)
 (ACalls Tryz.prog 50 #[(.pointer A28)] M27 (fun v29 M30 =>
  ∃ n31 : Int, ∃ n32 : Int, ∃ n33 : Int, ∃ A34 : Option Addr, ∃ k35 : Nat, ∃ k36 : Nat, (v29 = (.agg #[(.int .i64 n31), (.int .i64 n32), (.int .i64 n33), (.slice A34 k35 k36)])) ∧
  ACalls Tryz.prog 50 #[(.pointer A28)] M30 (fun v37 M38 =>
  ∃ n39 : Int, ∃ n40 : Int, ∃ n41 : Int, ∃ A42 : Option Addr, ∃ k43 : Nat, ∃ k44 : Nat, (v37 = (.agg #[(.int .i64 n39), (.int .i64 n40), (.int .i64 n41), (.slice A42 k43 k44)])) ∧
  ACalls Tryz.prog 50 #[(.pointer A28)] M38 (fun v45 M46 =>
  ∃ n47 : Int, ∃ n48 : Int, ∃ n49 : Int, ∃ A50 : Option Addr, ∃ k51 : Nat, ∃ k52 : Nat, (v45 = (.agg #[(.int .i64 n47), (.int .i64 n48), (.int .i64 n49), (.slice A50 k51 k52)])) ∧
  nwc M46 (.cells #[(.int .i64 0), (.int .i64 0), (.int .i64 0), (.slice none 0 0)] 47 (0, 0)) fun k53 M54 =>
  nwc M54 (.cells #[(.int .i64 0), (.int .i64 0), (.int .i64 0), (.slice none 0 0)] 47 (0, 0)) fun k55 M56 =>
  nwc M56 (.cells #[(.int .i64 0), (.int .i64 0), (.int .i64 0), (.slice none 0 0)] 47 (0, 0)) fun k57 M58 =>
  stc M58 ⟨k53, 0, none⟩ (.int .i64 n31) fun M59 =>
  stc M59 ⟨k53, (0 + 1), none⟩ (.int .i64 n32) fun M60 =>
  stc M60 ⟨k53, (0 + 2), none⟩ (.int .i64 n33) fun M61 =>
  stc M61 ⟨k53, (0 + 3), none⟩ (.slice A34 k35 k36) fun M62 =>
  stc M62 ⟨k55, 0, none⟩ (.int .i64 n39) fun M63 =>
  stc M63 ⟨k55, (0 + 1), none⟩ (.int .i64 n40) fun M64 =>
  stc M64 ⟨k55, (0 + 2), none⟩ (.int .i64 n41) fun M65 =>
  stc M65 ⟨k55, (0 + 3), none⟩ (.slice A42 k43 k44) fun M66 =>
  stc M66 ⟨k57, 0, none⟩ (.int .i64 n47) fun M67 =>
  stc M67 ⟨k57, (0 + 1), none⟩ (.int .i64 n48) fun M68 =>
  stc M68 ⟨k57, (0 + 2), none⟩ (.int .i64 n49) fun M69 =>
  stc M69 ⟨k57, (0 + 3), none⟩ (.slice A50 k51 k52) fun M70 =>
  ACalls Tryz.prog 50 #[(.pointer A28)] M70 (fun v71 M72 =>
  ∃ n73 : Int, ∃ n74 : Int, ∃ n75 : Int, ∃ A76 : Option Addr, ∃ k77 : Nat, ∃ k78 : Nat, (v71 = (.agg #[(.int .i64 n73), (.int .i64 n74), (.int .i64 n75), (.slice A76 k77 k78)])) ∧
  exI (Mem.ld M72 ⟨k53, 0, none⟩) .i64 fun n79 =>
  bsp (n79 == 2)
   (exI (Mem.ld M72 ⟨k55, 0, none⟩) .i64 fun n80 =>
    bsp (n80 == 4)
     (exI (Mem.ld M72 ⟨k55, (0 + 2), none⟩) .i64 fun n81 =>
      bsp (n81 == 0)
       (exI (Mem.ld M72 ⟨k57, 0, none⟩) .i64 fun n82 =>
        bsp (n82 == 7)
         (ACalls Tryz.prog 23 #[(.pointer A28)] M72 (fun v83 M84 =>
          exI (some v83) .i64 fun n85 =>
          bsp (n85 == 1)
           (ACalls Tryz.prog 33 #[(.pointer A28)] M84 (fun v86 M87 =>
            exI (some v86) .i64 fun n88 =>
            K (.bool (n88 == 4)) M87) Kp)
           (K (.bool false) M84)) Kp)
         (K (.bool false) M72))
       (K (.bool false) M72))
     (K (.bool false) M72))
   (K (.bool false) M72)) Kp) Kp) Kp) Kp)) Kp) Kp) :
  ACalls Tryz.prog 12 ([] : List Value).toArray M K Kp :=
  acalls_vc (C := Cx) good [(2, .reg [0, 0, 0, 4, 15, 31] (.step 1 (.prom 0 (.step 2 (.step 3 (.step 4 (.step 5 .done)))))))] Tryz.func12 (by kernel_rfl) (by kernel_rfl) h

end Go.Proofs

namespace Go.Proofs
open Go.AF
set_option linter.unusedVariables false
set_option maxRecDepth 100000
theorem vc_shunterlaw18_Step {b0 o0 : Nat} {M : Mem} {K : Value → Mem → Prop} {Kp : List PanicEntry → Mem → Prop} (h :
nwc M (.cells #[(.pointer (some ⟨b0, o0, none⟩))] 42 (0, 0)) fun k1 M2 =>
nwc M2 (.cells #[(.int .i64 0), (.int .i64 0), (.int .i64 0), (.slice none 0 0)] 47 (0, 0)) fun k3 M4 =>
nwc M4 (.cells #[(.int .i64 0), (.int .i64 0), (.int .i64 0), (.slice none 0 0)] 47 (0, 0)) fun k5 M6 =>
ACalls Tryz.prog 56 #[(.func (.func 57) #[] #[(.pointer (some ⟨k1, 0, none⟩)), (.pointer (some ⟨k5, 0, none⟩))])] M6 (fun v7 M8 =>
∃ n9 : Int, ∃ n10 : Int, ∃ n11 : Int, ∃ n12 : Int, ∃ n13 : Int, ∃ n14 : Int, (v7 = (.tuple #[(.int .i64 n9), (.agg #[(.int .i64 n10), (.int .i64 n11), (.int .i64 n12), (.int .i64 n13), (.int .u64 n14)])])) ∧
nwc M8 (.cells #[(.int .i64 0), (.int .i64 0), (.int .i64 0), (.int .i64 0), (.int .u64 0)] 155 (0, 0)) fun k15 M16 =>
stc M16 ⟨k15, 0, none⟩ (.int .i64 n10) fun M17 =>
stc M17 ⟨k15, (0 + 1), none⟩ (.int .i64 n11) fun M18 =>
stc M18 ⟨k15, (0 + 2), none⟩ (.int .i64 n12) fun M19 =>
stc M19 ⟨k15, (0 + 3), none⟩ (.int .i64 n13) fun M20 =>
stc M20 ⟨k15, (0 + 4), none⟩ (.int .u64 n14) fun M21 =>
exI (Mem.ld M21 ⟨k5, 0, none⟩) .i64 fun n22 =>
exI (Mem.ld M21 ⟨k5, (0 + 1), none⟩) .i64 fun n23 =>
exI (Mem.ld M21 ⟨k5, (0 + 2), none⟩) .i64 fun n24 =>
exSl (Mem.ld M21 ⟨k5, (0 + 3), none⟩) fun A25 k26 k27 =>
stc M21 ⟨k3, 0, none⟩ (.int .i64 n22) fun M28 =>
stc M28 ⟨k3, (0 + 1), none⟩ (.int .i64 n23) fun M29 =>
stc M29 ⟨k3, (0 + 2), none⟩ (.int .i64 n24) fun M30 =>
stc M30 ⟨k3, (0 + 3), none⟩ (.slice A25 k26 k27) fun M31 =>
exI (Mem.ld M31 ⟨k3, 0, none⟩) .i64 fun n32 =>
exI (Mem.ld M31 ⟨k3, (0 + 1), none⟩) .i64 fun n33 =>
exI (Mem.ld M31 ⟨k3, (0 + 2), none⟩) .i64 fun n34 =>
exSl (Mem.ld M31 ⟨k3, (0 + 3), none⟩) fun A35 k36 k37 =>
K (.tuple #[(.agg #[(.int .i64 n32), (.int .i64 n33), (.int .i64 n34), (.slice A35 k36 k37)]), (.int .i64 n9)]) M31) Kp) :
  ACalls Tryz.prog 18 ([.pointer (some ⟨b0, o0, none⟩)] : List Value).toArray M K Kp :=
  acalls_vc (C := Cx) good [] Tryz.func18 (by kernel_rfl) (by kernel_rfl) h

theorem vc_shunterlaw18_Step_1 {b0 o0 : Nat} {b1 o1 : Nat} {M : Mem} {K : Value → Mem → Prop} {Kp : List PanicEntry → Mem → Prop} (h :
exP (Mem.ld M ⟨b0, o0, none⟩) fun A1 =>
ACalls Tryz.prog 50 #[(.pointer A1)] M (fun v2 M3 =>
∃ n4 : Int, ∃ n5 : Int, ∃ n6 : Int, ∃ A7 : Option Addr, ∃ k8 : Nat, ∃ k9 : Nat, (v2 = (.agg #[(.int .i64 n4), (.int .i64 n5), (.int .i64 n6), (.slice A7 k8 k9)])) ∧
stc M3 ⟨b1, o1, none⟩ (.int .i64 n4) fun M10 =>
stc M10 ⟨b1, (o1 + 1), none⟩ (.int .i64 n5) fun M11 =>
stc M11 ⟨b1, (o1 + 2), none⟩ (.int .i64 n6) fun M12 =>
stc M12 ⟨b1, (o1 + 3), none⟩ (.slice A7 k8 k9) fun M13 =>
K (.tuple #[]) M13) Kp) :
  ACalls Tryz.prog 57 ([.pointer (some ⟨b0, o0, none⟩), .pointer (some ⟨b1, o1, none⟩)] : List Value).toArray M K Kp :=
  acalls_vc (C := Cx) good [] Tryz.func57 (by kernel_rfl) (by kernel_rfl) h

end Go.Proofs

namespace Go.Proofs
open Go.AF
set_option linter.unusedVariables false
set_option maxRecDepth 100000
theorem vc_shunterlaw18_SchedSteals {x0 : Int} {M : Mem} {K : Value → Mem → Prop} {Kp : List PanicEntry → Mem → Prop} (h :
ACalls Tryz.prog 12 #[] M (fun v1 M2 =>
exB (some v1) fun t3 =>
bsp (!t3)
 (K (.bool false) M2)
 (((29 : Int) ≠ 0) ∧
  nwc M2 (.cells #[] 34 (0, 0)) fun k4 M5 =>
  ∃ I6 : Nat → List Value → Mem → Prop, (∃ k7 : Nat, I6 k7 [(.slice (some ⟨k4, 0, none⟩) 0 0), (.int .i64 0)] M5) ∧
  ∀ k8 : Nat, ∀ junk9 : Nat → Value, ∀ A10 : Option Addr, ∀ k11 : Nat, ∀ k12 : Nat, ∀ n13 : Int, ∀ M14 : Mem, (I6 k8 [(.slice A10 k11 k12), (.int .i64 n13)] M14) → bsp (decide ((n13 : Int) < (IntKind.wrap .i64 (2 + (Int.tmod (IntKind.wrap .i64 (((Nat.bitwise and (BitVec.ofInt IntKind.i64.bits x0).toNat (BitVec.ofInt IntKind.i64.bits 255).toNat) : Nat) : Int)) 29)))))
   (nwc M14 (.cells #[(.int .i64 11), (.int .i64 1), (.int .i64 0), (.int .i64 1)] 34 (0, 0)) fun k15 M16 =>
    semK Tryz.prog (Go.Builtin.append_ #[31, 31] 31 #[(.slice A10 k11 k12), (.slice (some ⟨k15, 0, none⟩) 1 1)]) M16 (fun v17 M18 =>
    exSl (some v17) fun A19 k20 k21 =>
    ∃ k22 : Nat, (k22 < k8) ∧
    I6 k22 [(.slice A19 k20 k21), (.int .i64 (IntKind.wrap .i64 (n13 + 1)))] M18) Kp)
   (nwc M14 (.cells #[(.int .i64 7), (.int .i64 (IntKind.wrap .i64 (2 + (Int.tmod (IntKind.wrap .i64 (((Nat.bitwise and (BitVec.ofInt IntKind.i64.bits x0).toNat (BitVec.ofInt IntKind.i64.bits 255).toNat) : Nat) : Int)) 29)))), (.int .i64 0), (.int .i64 0)] 34 (0, 0)) fun k23 M24 =>
    semK Tryz.prog (Go.Builtin.append_ #[31, 31] 31 #[(.slice A10 k11 k12), (.slice (some ⟨k23, 0, none⟩) 1 1)]) M24 (fun v25 M26 =>
    exSl (some v25) fun A27 k28 k29 =>
    semK Tryz.prog (Go.Instr.makeSlice 35 (.int .i64 (IntKind.wrap .i64 ((IntKind.wrap .i64 (2 + (Int.tmod (IntKind.wrap .i64 (((Nat.bitwise and (BitVec.ofInt IntKind.i64.bits x0).toNat (BitVec.ofInt IntKind.i64.bits 255).toNat) : Nat) : Int)) 29))) + 2))) (.int .i64 (IntKind.wrap .i64 ((IntKind.wrap .i64 (2 + (Int.tmod (IntKind.wrap .i64 (((Nat.bitwise and (BitVec.ofInt IntKind.i64.bits x0).toNat (BitVec.ofInt IntKind.i64.bits 255).toNat) : Nat) : Int)) 29))) + 2)))) M26 (fun v30 M31 =>
    exSl (some v30) fun A32 k33 k34 =>
    nwc M31 (.cells #[(.int .u64 1), (.int .u64 1), (.int .u64 0)] 36 (0, 0)) fun k35 M36 =>
    semK Tryz.prog (Go.Builtin.append_ #[35, 35] 35 #[(.slice A32 k33 k34), (.slice (some ⟨k35, 0, none⟩) 3 3)]) M36 (fun v37 M38 =>
    exSl (some v37) fun A39 k40 k41 =>
    nwc M38 (.cells #[(.int .i64 10), (.int .i64 0), (.int .i64 0), (.int .i64 0)] 34 (0, 0)) fun k42 M43 =>
    nwc M43 (.cells #[(.slice A27 k28 k29), (.slice (some ⟨k42, 0, none⟩) 1 1)] 31 (0, 0)) fun k44 M45 =>
    nwc M45 (.cells #[(.slice none 0 0), (.slice none 0 0), (.int .i64 0), (.slice none 0 0)] 41 (0, 0)) fun k46 M47 =>
    stc M47 ⟨k46, 0, none⟩ (.slice (some ⟨k44, 0, none⟩) 2 2) fun M48 =>
    stc M48 ⟨k46, (0 + 1), none⟩ (.slice none 0 0) fun M49 =>
    stc M49 ⟨k46, (0 + 2), none⟩ (.int .i64 0) fun M50 =>
    stc M50 ⟨k46, (0 + 3), none⟩ (.slice none 0 0) fun M51 =>
    exSl (Mem.ld M51 ⟨k46, 0, none⟩) fun A52 k53 k54 =>
    exSl (Mem.ld M51 ⟨k46, (0 + 1), none⟩) fun A55 k56 k57 =>
    exI (Mem.ld M51 ⟨k46, (0 + 2), none⟩) .i64 fun n58 =>
    exSl (Mem.ld M51 ⟨k46, (0 + 3), none⟩) fun A59 k60 k61 =>
    ACalls Tryz.prog 17 #[(.slice A39 k40 k41)] M51 (fun v62 M63 =>
    exP (some v62) fun A64 =>
    ((Mem.lds M63 ⟨k46, 0, none⟩ 0 4) = some [(.slice A52 k53 k54), (.slice A55 k56 k57), (.int .i64 n58), (.slice A59 k60 k61)]) ∧
    ACalls Tryz.prog 16 #[(.agg #[(.slice A52 k53 k54), (.slice A55 k56 k57), (.int .i64 n58), (.slice A59 k60 k61)]), (.agg #[(.int .i64 2), (.int .i64 2), (.int .i64 64), (.int .i64 1000)]), (.pointer A64)] M63 (fun v65 M66 =>
    exP (some v65) fun A67 =>
    ((Mem.lds M66 ⟨k46, 0, none⟩ 0 4) = some [(.slice A52 k53 k54), (.slice A55 k56 k57), (.int .i64 n58), (.slice A59 k60 k61)]) ∧
    ∃ I68 : Nat → List Value → Mem → Prop, (∃ k69 : Nat, I68 k69 [(.int .i64 0)] M66) ∧
    ∀ k70 : Nat, ∀ junk71 : Nat → Value, ∀ n72 : Int, ∀ M73 : Mem, (I68 k70 [(.int .i64 n72)] M73) → bsp (decide ((n72 : Int) < (IntKind.wrap .i64 ((IntKind.wrap .i64 (2 + (Int.tmod (IntKind.wrap .i64 (((Nat.bitwise and (BitVec.ofInt IntKind.i64.bits x0).toNat (BitVec.ofInt IntKind.i64.bits 255).toNat) : Nat) : Int)) 29))) + 3))))
     (ACalls Tryz.prog 18 #[(.pointer A67)] M73 (fun v74 M75 =>
      ∃ n76 : Int, ∃ n77 : Int, ∃ n78 : Int, ∃ A79 : Option Addr, ∃ k80 : Nat, ∃ k81 : Nat, ∃ n82 : Int, (v74 = (.tuple #[(.agg #[(.int .i64 n76), (.int .i64 n77), (.int .i64 n78), (.slice A79 k80 k81)]), (.int .i64 n82)])) ∧
      nwc M75 (.cells #[(.int .i64 0), (.int .i64 0), (.int .i64 0), (.slice none 0 0)] 47 (0, 0)) fun k83 M84 =>
      stc M84 ⟨k83, 0, none⟩ (.int .i64 n76) fun M85 =>
      stc M85 ⟨k83, (0 + 1), none⟩ (.int .i64 n77) fun M86 =>
      stc M86 ⟨k83, (0 + 2), none⟩ (.int .i64 n78) fun M87 =>
      stc M87 ⟨k83, (0 + 3), none⟩ (.slice A79 k80 k81) fun M88 =>
      bsp (n82 != 0)
       (K (.bool false) M88)
       (∃ k89 : Nat, (k89 < k70) ∧
        I68 k89 [(.int .i64 (IntKind.wrap .i64 (n72 + 1)))] M88)) Kp)
     (ACalls Tryz.prog 18 #[(.pointer A67)] M73 (fun v90 M91 =>
      ∃ n92 : Int, ∃ n93 : Int, ∃ n94 : Int, ∃ A95 : Option Addr, ∃ k96 : Nat, ∃ k97 : Nat, ∃ n98 : Int, (v90 = (.tuple #[(.agg #[(.int .i64 n92), (.int .i64 n93), (.int .i64 n94), (.slice A95 k96 k97)]), (.int .i64 n98)])) ∧
      nwc M91 (.cells #[(.int .i64 0), (.int .i64 0), (.int .i64 0), (.slice none 0 0)] 47 (0, 0)) fun k99 M100 =>
      stc M100 ⟨k99, 0, none⟩ (.int .i64 n92) fun M101 =>
      stc M101 ⟨k99, (0 + 1), none⟩ (.int .i64 n93) fun M102 =>
      stc M102 ⟨k99, (0 + 2), none⟩ (.int .i64 n94) fun M103 =>
      stc M103 ⟨k99, (0 + 3), none⟩ (.slice A95 k96 k97) fun M104 =>
      ACalls Tryz.prog 19 #[(.pointer A67)] M104 (fun v105 M106 =>
      exSl (some v105) fun A107 k108 k109 =>
      ((2 : Int) ≠ 0) ∧
      bsp (n98 != 0)
       (K (.bool false) M106)
       (exI (Mem.ld M106 ⟨k99, 0, none⟩) .i64 fun n110 =>
        bsp (n110 != 5)
         (K (.bool false) M106)
         (exI (Mem.ld M106 ⟨k99, (0 + 1), none⟩) .i64 fun n111 =>
          bsp (n111 != 1)
           (K (.bool false) M106)
           (exI (Mem.ld M106 ⟨k99, (0 + 2), none⟩) .i64 fun n112 =>
            bsp (n112 != 1)
             (K (.bool false) M106)
             (((0 : Int) ≤ 1) ∧
              ((1 : Int) < ((k108 : Nat) : Int)) ∧
              nilc A107 fun k113 k114 =>
              exSl (Mem.ld M106 ⟨k113, ((k114 + 4) + 1), none⟩) fun A115 k116 k117 =>
              bsp (((k116 : Nat) : Int) != (IntKind.wrap .i64 ((IntKind.wrap .i64 (Int.tdiv (IntKind.wrap .i64 (2 + (Int.tmod (IntKind.wrap .i64 (((Nat.bitwise and (BitVec.ofInt IntKind.i64.bits x0).toNat (BitVec.ofInt IntKind.i64.bits 255).toNat) : Nat) : Int)) 29))) 2)) - 1)))
               (K (.bool false) M106)
               (((0 : Int) ≤ 0) ∧
                ((0 : Int) < ((k108 : Nat) : Int)) ∧
                nilc A107 fun k118 k119 =>
                exI (Mem.ld M106 ⟨k118, (k119 + 0), none⟩) .i64 fun n120 =>
                bsp (n120 != (IntKind.wrap .i64 (2 + (Int.tmod (IntKind.wrap .i64 (((Nat.bitwise and (BitVec.ofInt IntKind.i64.bits x0).toNat (BitVec.ofInt IntKind.i64.bits 255).toNat) : Nat) : Int)) 29))))
                 (K (.bool false) M106)
                 (((0 : Int) ≤ 0) ∧
                  ((0 : Int) < ((k108 : Nat) : Int)) ∧
                  nilc A107 fun k121 k122 =>
                  exSl (Mem.ld M106 ⟨k121, ((k122 + 0) + 1), none⟩) fun A123 k124 k125 =>
                  bsp (((k124 : Nat) : Int) != (IntKind.wrap .i64 ((IntKind.wrap .i64 ((IntKind.wrap .i64 (2 + (Int.tmod (IntKind.wrap .i64 (((Nat.bitwise and (BitVec.ofInt IntKind.i64.bits x0).toNat (BitVec.ofInt IntKind.i64.bits 255).toNat) : Nat) : Int)) 29))) - 1)) - (IntKind.wrap .i64 (Int.tdiv (IntKind.wrap .i64 (2 + (Int.tmod (IntKind.wrap .i64 (((Nat.bitwise and (BitVec.ofInt IntKind.i64.bits x0).toNat (BitVec.ofInt IntKind.i64.bits 255).toNat) : Nat) : Int)) 29))) 2)))))
                   (K (.bool false) M106)
                   (((0 : Int) ≤ 1) ∧
                    ((1 : Int) < ((k108 : Nat) : Int)) ∧
                    nilc A107 fun k126 k127 =>
                    ((0 : Int) ≤ 0) ∧
                    ((0 : Int) < ((k108 : Nat) : Int)) ∧
                    nilc A107 fun k128 k129 =>
                    exSl (Mem.ld M106 ⟨k126, ((k127 + 4) + 1), none⟩) fun A130 k131 k132 =>
                    exSl (Mem.ld M106 ⟨k128, ((k129 + 0) + 1), none⟩) fun A133 k134 k135 =>
                    nwc M106 (.cells #[] 3 (0, 0)) fun k136 M137 =>
                    semK Tryz.prog (Go.Builtin.append_ #[38, 38] 38 #[(.slice (some ⟨k136, 0, none⟩) 0 0), (.slice A130 k131 k132)]) M137 (fun v138 M139 =>
                    exSl (some v138) fun A140 k141 k142 =>
                    ((Mem.ld M139 ⟨k128, ((k129 + 0) + 1), none⟩) = (some (.slice A133 k134 k135))) ∧
                    semK Tryz.prog (Go.Builtin.append_ #[38, 38] 38 #[(.slice A140 k141 k142), (.slice A133 k134 k135)]) M139 (fun v143 M144 =>
                    exSl (some v143) fun A145 k146 k147 =>
                    ((Mem.ld M144 ⟨k128, ((k129 + 0) + 1), none⟩) = (some (.slice A133 k134 k135))) ∧
                    ∃ I148 : Nat → List Value → Mem → Prop, (∃ k149 : Nat, I148 k149 [(.int .i64 0)] M144) ∧
                    ∀ k150 : Nat, ∀ junk151 : Nat → Value, ∀ n152 : Int, ∀ M153 : Mem, (I148 k150 [(.int .i64 n152)] M153) → bsp (decide ((n152 : Int) < ((k146 : Nat) : Int)))
                     (((0 : Int) ≤ n152) ∧
                      ((n152 : Int) < ((k146 : Nat) : Int)) ∧
                      nilc A145 fun k154 k155 =>
                      exI (Mem.ld M153 ⟨k154, (k155 + (Int.toNat n152)), none⟩) .i64 fun n156 =>
                      bsp (n156 != (IntKind.wrap .i64 (n152 + 2)))
                       (K (.bool false) M153)
                       (∃ k157 : Nat, (k157 < k150) ∧
                        I148 k157 [(.int .i64 (IntKind.wrap .i64 (n152 + 1)))] M153))
                     (ACalls Tryz.prog 20 #[(.pointer A67)] M153 (fun v158 M159 =>
                      exSl (some v158) fun A160 k161 k162 =>
                      ((0 : Int) ≤ 1) ∧
                      ((1 : Int) < ((k161 : Nat) : Int)) ∧
                      nilc A160 fun k163 k164 =>
                      exI (Mem.ld M159 ⟨k163, ((k164 + 3) + 1), none⟩) .i64 fun n165 =>
                      bsp (n165 == 1)
                       (((0 : Int) ≤ 1) ∧
                        ((1 : Int) < ((k108 : Nat) : Int)) ∧
                        nilc A107 fun k166 k167 =>
                        exI (Mem.ld M159 ⟨k166, ((k167 + 4) + 2), none⟩) .i64 fun n168 =>
                        K (.bool (n168 == 1)) M159)
                       (K (.bool false) M159)) Kp)) Kp) Kp)))))))) Kp) Kp)) Kp) Kp) Kp) Kp) Kp))) Kp) :
  ACalls Tryz.prog 4 ([.int .i64 x0] : List Value).toArray M K Kp :=
  acalls_vc (C := Cx) good [(2000000, .loop [(3, .c .sl), (23, .c (.int .i64))]), (13, .reg [0, 0, 0, 4, 15, 31] (.step 1 (.step 2 (.prom 0 (.step 3 (.step 4 (.step 5 .done))))))), (2000002, .loop [(53, .c (.int .i64))]), (25, .reg [0, 0, 2, 6, 14, 31, 0, 64, 192, 448, 1023, 2047, 0] (.step 1 (.step 2 (.step 3 (.step 6 (.step 7 (.step 8 (.step 12 (.step 4 (.prom 9 (.step 0 (.step 5 (.step 10 (.step 11 .done)))))))))))))), (2000004, .loop [(131, .c (.int .i64))])] Tryz.func4 (by kernel_rfl) (by kernel_rfl) h

end Go.Proofs
