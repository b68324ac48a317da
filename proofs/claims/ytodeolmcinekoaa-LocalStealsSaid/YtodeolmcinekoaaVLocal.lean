/- A part of proofs about functions of one program: a condition over a partial memory that is enough for a call, and what calls answer by it. No condition of its own. -/
import Derived.Test.YtodeolmcinekoaaCx
namespace Go.Proofs
open Go.AF
set_option linter.unusedVariables false
set_option maxRecDepth 100000
theorem vc_shunterlaw08_awake  (M : Mem) (K : Value → Mem → Prop) (Kp : List PanicEntry → Mem → Prop) (h :
ACalls Try.prog 56 #[(.int .i64 4)] M (fun v1 M2 =>
exP (some v1) fun A3 =>
bsp (Option.isNone A3)
 (K (.bool false) M2)
 (∀ k4 : Nat, (M2 k4 = none) → ACalls Try.prog 58 #[(.pointer A3), (.int .i64 5), (.pointer (some ⟨k4, 0, none⟩))] (Mem.set M2 k4 (.cells #[(.slice none 0 0)] 104 (0, 0))) (fun v5 M6 =>
  exI (some v5) .i64 fun n7 =>
  ACalls Try.prog 58 #[(.pointer A3), (.int .i64 6), (.pointer (some ⟨k4, 0, none⟩))] M6 (fun v8 M9 =>
  exI (some v8) .i64 fun n10 =>
  ACalls Try.prog 59 #[(.pointer A3)] M9 (fun v11 M12 =>
  ∃ n13 : Int, ∃ t14 : Bool, (v11 = (.tuple #[(.int .i64 n13), (.bool t14)])) ∧
  ACalls Try.prog 59 #[(.pointer A3)] M12 (fun v15 M16 =>
  ∃ n17 : Int, ∃ t18 : Bool, (v15 = (.tuple #[(.int .i64 n17), (.bool t18)])) ∧
  ACalls Try.prog 59 #[(.pointer A3)] M16 (fun v19 M20 =>
  ∃ n21 : Int, ∃ t22 : Bool, (v19 = (.tuple #[(.int .i64 n21), (.bool t22)])) ∧
  bsp (n13 == 6)
   (bsp t14
     (bsp (n17 == 5)
       (bsp t18
         (bsp (!t22)
           (ACalls Try.prog 60 #[(.pointer (some ⟨k4, 0, none⟩))] M20 (fun v23 M24 =>
            exI (some v23) .i64 fun n25 =>
            K (.bool (n25 == 0)) M24) Kp)
           (K (.bool false) M20))
         (K (.bool false) M20))
       (K (.bool false) M20))
     (K (.bool false) M20))
   (K (.bool false) M20)) Kp) Kp) Kp) Kp) Kp)) Kp) :
  ACalls Try.prog 55 ([] : List Value).toArray M K Kp :=
  acalls_vc (C := Cx) good [] Try.func55 (by kernel_rfl) (by kernel_rfl) h

theorem vc_local_New (x0 : Int) (M : Mem) (K : Value → Mem → Prop) (Kp : List PanicEntry → Mem → Prop) (h :
ACalls Try.prog 27 #[(.int .i64 x0)] M (fun v1 M2 =>
exP (some v1) fun A3 =>
∀ k4 : Nat, (M2 k4 = none) → K (.pointer (some ⟨k4, 0, none⟩)) (Mem.set M2 k4 (.cells #[(.int .i64 (-1)), (.pointer A3)] 166 (0, 0)))) Kp) :
  ACalls Try.prog 56 ([.int .i64 x0] : List Value).toArray M K Kp :=
  acalls_vc (C := Cx) good [] Try.func56 (by kernel_rfl) (by kernel_rfl) h

theorem vc_local_Local_Put (b0 o0 : Nat) (x1 : Int) (b2 o2 : Nat) (M : Mem) (K : Value → Mem → Prop) (Kp : List PanicEntry → Mem → Prop) (h :
exP (Mem.ld M ⟨b0, (o0 + 1), none⟩) fun A1 =>
ACalls Try.prog 29 #[(.pointer A1), (.int .i64 x1)] M (fun v2 M3 =>
exB (some v2) fun t4 =>
bsp t4
 (K (.int .i64 0) M3)
 (exP (Mem.ld M3 ⟨b0, (o0 + 1), none⟩) fun A5 =>
  exP (Mem.ld M3 ⟨b0, (o0 + 1), none⟩) fun A6 =>
  (True) ∧
  ACalls Try.prog 31 #[(.pointer A5)] M3 (fun v7 M8 =>
  exI (some v7) .i64 fun n9 =>
  ((Mem.ld M8 ⟨b0, (o0 + 1), none⟩) = (some (.pointer A6))) ∧
  ((2 : Int) ≠ 0) ∧
  (True) ∧
  ACalls Try.prog 32 #[(.pointer A6), (.int .i64 (IntKind.wrap .i64 (Int.tdiv n9 2)))] M8 (fun v10 M11 =>
  exSl (some v10) fun A12 k13 k14 =>
  ((Mem.ld M11 ⟨b0, (o0 + 1), none⟩) = (some (.pointer A6))) ∧
  ∀ k15 : Nat, (M11 k15 = none) → semK Try.prog (Go.Builtin.append_ #[39, 39] 39 #[(.slice A12 k13 k14), (.slice (some ⟨k15, 0, none⟩) 1 1)]) (Mem.set M11 k15 (.cells #[(.int .i64 x1)] 3 (0, 0))) (fun v16 M17 =>
  exSl (some v16) fun A18 k19 k20 =>
  ((Mem.ld M17 ⟨b0, (o0 + 1), none⟩) = (some (.pointer A6))) ∧
  ACalls Try.prog 93 #[(.pointer (some ⟨b2, o2, none⟩)), (.slice A18 k19 k20)] M17 (fun v21 M22 =>
  (v21 = (.tuple #[])) ∧
  K (.int .i64 ((k19 : Nat) : Int)) M22) Kp) Kp) Kp) Kp)) Kp) :
  ACalls Try.prog 57 ([.pointer (some ⟨b0, o0, none⟩), .int .i64 x1, .pointer (some ⟨b2, o2, none⟩)] : List Value).toArray M K Kp :=
  acalls_vc (C := Cx) good [(3, .reg [0, 1, 3, 7, 0, 16, 48, 112, 240, 496, 1023, 0, 2048, 8191, 16383] (.step 0 (.step 1 (.step 2 (.step 4 (.step 5 (.step 6 (.step 11 (.step 7 (.prom 3 (.late 8 (.step 9 (.late 10 (.step 12 (.step 13 (.step 14 .done))))))))))))))))] Try.func57 (by kernel_rfl) (by kernel_rfl) h

theorem vc_local_Local_Ready (b0 o0 : Nat) (x1 : Int) (b2 o2 : Nat) (M : Mem) (K : Value → Mem → Prop) (Kp : List PanicEntry → Mem → Prop) (h :
exI (Mem.ld M ⟨b0, o0, none⟩) .i64 fun n1 =>
(Mem.wr M ⟨b0, o0, none⟩ = true) ∧
bsp (n1 == (-1))
 (K (.int .i64 0) (Mem.put M ⟨b0, o0, none⟩ (.int .i64 x1)))
 (ACalls Try.prog 57 #[(.pointer (some ⟨b0, o0, none⟩)), (.int .i64 n1), (.pointer (some ⟨b2, o2, none⟩))] (Mem.put M ⟨b0, o0, none⟩ (.int .i64 x1)) (fun v2 M3 =>
  exI (some v2) .i64 fun n4 =>
  K (.int .i64 n4) M3) Kp)) :
  ACalls Try.prog 58 ([.pointer (some ⟨b0, o0, none⟩), .int .i64 x1, .pointer (some ⟨b2, o2, none⟩)] : List Value).toArray M K Kp :=
  acalls_vc (C := Cx) good [] Try.func58 (by kernel_rfl) (by kernel_rfl) h

theorem vc_local_Local_Get (b0 o0 : Nat) (M : Mem) (K : Value → Mem → Prop) (Kp : List PanicEntry → Mem → Prop) (h :
exI (Mem.ld M ⟨b0, o0, none⟩) .i64 fun n1 =>
bsp (n1 != (-1))
 ((Mem.wr M ⟨b0, o0, none⟩ = true) ∧
  K (.tuple #[(.int .i64 n1), (.bool true)]) (Mem.put M ⟨b0, o0, none⟩ (.int .i64 (-1))))
 (exP (Mem.ld M ⟨b0, (o0 + 1), none⟩) fun A2 =>
  ACalls Try.prog 30 #[(.pointer A2)] M (fun v3 M4 =>
  ∃ n5 : Int, ∃ t6 : Bool, (v3 = (.tuple #[(.int .i64 n5), (.bool t6)])) ∧
  bsp (!t6)
   (K (.tuple #[(.int .i64 (-1)), (.bool false)]) M4)
   (K (.tuple #[(.int .i64 n5), (.bool true)]) M4)) Kp)) :
  ACalls Try.prog 59 ([.pointer (some ⟨b0, o0, none⟩)] : List Value).toArray M K Kp :=
  acalls_vc (C := Cx) good [] Try.func59 (by kernel_rfl) (by kernel_rfl) h

theorem vc_local_Global_Len (b0 o0 : Nat) (M : Mem) (K : Value → Mem → Prop) (Kp : List PanicEntry → Mem → Prop) (h :
exSl (Mem.ld M ⟨b0, o0, none⟩) fun A1 k2 k3 =>
K (.int .i64 ((k2 : Nat) : Int)) M) :
  ACalls Try.prog 60 ([.pointer (some ⟨b0, o0, none⟩)] : List Value).toArray M K Kp :=
  acalls_vc (C := Cx) good [] Try.func60 (by kernel_rfl) (by kernel_rfl) h

theorem vc_local_Local_Len (b0 o0 : Nat) (M : Mem) (K : Value → Mem → Prop) (Kp : List PanicEntry → Mem → Prop) (h :
exI (Mem.ld M ⟨b0, o0, none⟩) .i64 fun n1 =>
bsp (n1 != (-1))
 (exP (Mem.ld M ⟨b0, (o0 + 1), none⟩) fun A2 =>
  ACalls Try.prog 31 #[(.pointer A2)] M (fun v3 M4 =>
  exI (some v3) .i64 fun n5 =>
  K (.int .i64 (IntKind.wrap .i64 (n5 + 1))) M4) Kp)
 (exP (Mem.ld M ⟨b0, (o0 + 1), none⟩) fun A6 =>
  ACalls Try.prog 31 #[(.pointer A6)] M (fun v7 M8 =>
  exI (some v7) .i64 fun n9 =>
  K (.int .i64 n9) M8) Kp)) :
  ACalls Try.prog 61 ([.pointer (some ⟨b0, o0, none⟩)] : List Value).toArray M K Kp :=
  acalls_vc (C := Cx) good [] Try.func61 (by kernel_rfl) (by kernel_rfl) h

theorem vc_local_Local_Steal (b0 o0 : Nat) (b1 o1 : Nat) (M : Mem) (K : Value → Mem → Prop) (Kp : List PanicEntry → Mem → Prop) (h :
Go.AF.ptrEq M (some ⟨b0, o0, none⟩) (some ⟨b1, o1, none⟩) fun t1 =>
bsp t1
 (K (.tuple #[(.int .i64 (-1)), (.bool false)]) M)
 (exP (Mem.ld M ⟨b1, (o1 + 1), none⟩) fun A2 =>
  ACalls Try.prog 31 #[(.pointer A2)] M (fun v3 M4 =>
  exI (some v3) .i64 fun n5 =>
  bsp (n5 == 0)
   (exI (Mem.ld M4 ⟨b1, o1, none⟩) .i64 fun n6 =>
    (Mem.wr M4 ⟨b1, o1, none⟩ = true) ∧
    K (.tuple #[(.int .i64 n6), (.bool (n6 != (-1)))]) (Mem.put M4 ⟨b1, o1, none⟩ (.int .i64 (-1))))
   (((2 : Int) ≠ 0) ∧
    exP (Mem.ld M4 ⟨b0, (o0 + 1), none⟩) fun A7 =>
    exP (Mem.ld M4 ⟨b1, (o1 + 1), none⟩) fun A8 =>
    exP (Mem.ld M4 ⟨b0, (o0 + 1), none⟩) fun A9 =>
    ACalls Try.prog 28 #[(.pointer A7)] M4 (fun v10 M11 =>
    exI (some v10) .i64 fun n12 =>
    ((Mem.ld M11 ⟨b0, (o0 + 1), none⟩) = (some (.pointer A9))) ∧
    ((Mem.ld M11 ⟨b1, (o1 + 1), none⟩) = (some (.pointer A8))) ∧
    ACalls Try.prog 31 #[(.pointer A9)] M11 (fun v13 M14 =>
    exI (some v13) .i64 fun n15 =>
    ((Mem.ld M14 ⟨b0, (o0 + 1), none⟩) = (some (.pointer A9))) ∧
    ((Mem.ld M14 ⟨b1, (o1 + 1), none⟩) = (some (.pointer A8))) ∧
    ACalls Try.prog 32 #[(.pointer A8), (.int .i64 (if ((IntKind.wrap .i64 ((IntKind.wrap .i64 (n12 - n15)) + 1)) : Int) < (IntKind.wrap .i64 (n5 - (IntKind.wrap .i64 (Int.tdiv n5 2)))) then (IntKind.wrap .i64 ((IntKind.wrap .i64 (n12 - n15)) + 1)) else (IntKind.wrap .i64 (n5 - (IntKind.wrap .i64 (Int.tdiv n5 2))))))] M14 (fun v16 M17 =>
    exSl (some v16) fun A18 k19 k20 =>
    ((Mem.ld M17 ⟨b0, (o0 + 1), none⟩) = (some (.pointer A9))) ∧
    ((Mem.ld M17 ⟨b1, (o1 + 1), none⟩) = (some (.pointer A8))) ∧
    ((0 : Int) ≤ ((k20 : Nat) : Int)) ∧
    ((((k20 : Nat) : Int) : Int) ≤ ((k20 : Nat) : Int)) ∧
    ((0 : Int) ≤ ((k19 : Nat) : Int)) ∧
    ((((k19 : Nat) : Int) : Int) ≤ ((k20 : Nat) : Int)) ∧
    ((0 : Int) ≤ 1) ∧
    ((1 : Int) ≤ ((k19 : Nat) : Int)) ∧
    ∃ I21 : Nat → List Value → Mem → Prop, (∃ k22 : Nat, I21 k22 [(.int .i64 0)] M17) ∧
    ∀ k23 : Nat, ∀ junk24 : Nat → Value, ∀ n25 : Int, ∀ M26 : Mem, (I21 k23 [(.int .i64 n25)] M26) → bsp (decide ((n25 : Int) < ((((Int.toNat ((k19 : Nat) : Int)) - 1) : Nat) : Int)))
     (((0 : Int) ≤ n25) ∧
      ((n25 : Int) < ((((Int.toNat ((k19 : Nat) : Int)) - 1) : Nat) : Int)) ∧
      nilc (slA A18 1 (Int.toNat ((k20 : Nat) : Int)) 1) fun k27 k28 =>
      exI (Mem.ld M26 ⟨k27, (k28 + (Int.toNat n25)), none⟩) .i64 fun n29 =>
      exP (Mem.ld M26 ⟨b0, (o0 + 1), none⟩) fun A30 =>
      ACalls Try.prog 29 #[(.pointer A30), (.int .i64 n29)] M26 (fun v31 M32 =>
      exB (some v31) fun t33 =>
      ∃ k34 : Nat, (k34 < k23) ∧
      I21 k34 [(.int .i64 (IntKind.wrap .i64 (n25 + 1)))] M32) Kp)
     (((0 : Int) ≤ 0) ∧
      ((0 : Int) < ((k19 : Nat) : Int)) ∧
      nilc A18 fun k35 k36 =>
      exI (Mem.ld M26 ⟨k35, (k36 + 0), none⟩) .i64 fun n37 =>
      K (.tuple #[(.int .i64 n37), (.bool true)]) M26)) Kp) Kp) Kp)) Kp)) :
  ACalls Try.prog 62 ([.pointer (some ⟨b0, o0, none⟩), .pointer (some ⟨b1, o1, none⟩)] : List Value).toArray M K Kp :=
  acalls_vc (C := Cx) good [(8, .reg [0, 1, 3, 7, 0, 0, 32, 112, 0, 256, 768, 1792, 3840, 0, 8192, 24576, 57344, 130816, 261888, 524032, 1048560, 2097151, 4194303] (.step 0 (.step 1 (.step 2 (.step 4 (.step 5 (.step 6 (.step 7 (.step 8 (.step 9 (.step 10 (.step 13 (.step 14 (.step 15 (.step 11 (.prom 3 (.prom 16 (.step 12 (.step 17 (.step 18 (.step 19 (.step 20 (.step 21 (.step 22 .done)))))))))))))))))))))))), (2000000, .loop [(56, .c (.int .i64))])] Try.func62 (by kernel_rfl) (by kernel_rfl) h

theorem vc_local_Local_List (b0 o0 : Nat) (M : Mem) (K : Value → Mem → Prop) (Kp : List PanicEntry → Mem → Prop) (h :
exP (Mem.ld M ⟨b0, (o0 + 1), none⟩) fun A1 =>
ACalls Try.prog 43 #[(.pointer A1)] M (fun v2 M3 =>
exSl (some v2) fun A4 k5 k6 =>
K (.slice A4 k5 k6) M3) Kp) :
  ACalls Try.prog 63 ([.pointer (some ⟨b0, o0, none⟩)] : List Value).toArray M K Kp :=
  acalls_vc (C := Cx) good [] Try.func63 (by kernel_rfl) (by kernel_rfl) h

theorem vc_local_Global_Put (b0 o0 : Nat) (B1 : Option Addr) (m1 c1 : Nat) (M : Mem) (K : Value → Mem → Prop) (Kp : List PanicEntry → Mem → Prop) (h :
exSl (Mem.ld M ⟨b0, o0, none⟩) fun A1 k2 k3 =>
semK Try.prog (Go.Builtin.append_ #[39, 39] 39 #[(.slice A1 k2 k3), (.slice B1 m1 c1)]) M (fun v4 M5 =>
exSl (some v4) fun A6 k7 k8 =>
(Mem.wr M5 ⟨b0, o0, none⟩ = true) ∧
K (.tuple #[]) (Mem.put M5 ⟨b0, o0, none⟩ (.slice A6 k7 k8))) Kp) :
  ACalls Try.prog 93 ([.pointer (some ⟨b0, o0, none⟩), .slice B1 m1 c1] : List Value).toArray M K Kp :=
  acalls_vc (C := Cx) good [] Try.func93 (by kernel_rfl) (by kernel_rfl) h

theorem vc_local_Local_Next (b0 o0 : Nat) (M : Mem) (K : Value → Mem → Prop) (Kp : List PanicEntry → Mem → Prop) (h :
exI (Mem.ld M ⟨b0, o0, none⟩) .i64 fun n1 =>
K (.int .i64 n1) M) :
  ACalls Try.prog 76 ([.pointer (some ⟨b0, o0, none⟩)] : List Value).toArray M K Kp :=
  acalls_vc (C := Cx) good [] Try.func76 (by kernel_rfl) (by kernel_rfl) h

theorem vc_local_Global_List (b0 o0 : Nat) (M : Mem) (K : Value → Mem → Prop) (Kp : List PanicEntry → Mem → Prop) (h :
∀ k1 : Nat, (M k1 = none) → exSl (Mem.ld (Mem.set M k1 (.cells #[] 3 (0, 0))) ⟨b0, o0, none⟩) fun A2 k3 k4 =>
semK Try.prog (Go.Builtin.append_ #[39, 39] 39 #[(.slice (some ⟨k1, 0, none⟩) 0 0), (.slice A2 k3 k4)]) (Mem.set M k1 (.cells #[] 3 (0, 0))) (fun v5 M6 =>
exSl (some v5) fun A7 k8 k9 =>
K (.slice A7 k8 k9) M6) Kp) :
  ACalls Try.prog 77 ([.pointer (some ⟨b0, o0, none⟩)] : List Value).toArray M K Kp :=
  acalls_vc (C := Cx) good [] Try.func77 (by kernel_rfl) (by kernel_rfl) h

theorem vc_local_Global_Take (b0 o0 : Nat) (x1 : Int) (M : Mem) (K : Value → Mem → Prop) (Kp : List PanicEntry → Mem → Prop) (h :
exSl (Mem.ld M ⟨b0, o0, none⟩) fun A1 k2 k3 =>
∀ k4 : Nat, (M k4 = none) → exSl (Mem.ld (Mem.set M k4 (.cells #[] 3 (0, 0))) ⟨b0, o0, none⟩) fun A5 k6 k7 =>
((0 : Int) ≤ ((k7 : Nat) : Int)) ∧
((((k7 : Nat) : Int) : Int) ≤ ((k7 : Nat) : Int)) ∧
((0 : Int) ≤ (if (((k2 : Nat) : Int) : Int) < (if (0 : Int) > x1 then 0 else x1) then ((k2 : Nat) : Int) else (if (0 : Int) > x1 then 0 else x1))) ∧
(((if (((k2 : Nat) : Int) : Int) < (if (0 : Int) > x1 then 0 else x1) then ((k2 : Nat) : Int) else (if (0 : Int) > x1 then 0 else x1)) : Int) ≤ ((k7 : Nat) : Int)) ∧
((0 : Int) ≤ 0) ∧
((0 : Int) ≤ (if (((k2 : Nat) : Int) : Int) < (if (0 : Int) > x1 then 0 else x1) then ((k2 : Nat) : Int) else (if (0 : Int) > x1 then 0 else x1))) ∧
semK Try.prog (Go.Builtin.append_ #[39, 39] 39 #[(.slice (some ⟨k4, 0, none⟩) 0 0), (.slice (slA A5 0 (Int.toNat ((k7 : Nat) : Int)) 1) ((Int.toNat (if (((k2 : Nat) : Int) : Int) < (if (0 : Int) > x1 then 0 else x1) then ((k2 : Nat) : Int) else (if (0 : Int) > x1 then 0 else x1))) - 0) ((Int.toNat ((k7 : Nat) : Int)) - 0))]) (Mem.set M k4 (.cells #[] 3 (0, 0))) (fun v8 M9 =>
exSl (some v8) fun A10 k11 k12 =>
∀ k13 : Nat, (M9 k13 = none) → exSl (Mem.ld (Mem.set M9 k13 (.cells #[] 3 (0, 0))) ⟨b0, o0, none⟩) fun A14 k15 k16 =>
((0 : Int) ≤ ((k16 : Nat) : Int)) ∧
((((k16 : Nat) : Int) : Int) ≤ ((k16 : Nat) : Int)) ∧
((0 : Int) ≤ ((k15 : Nat) : Int)) ∧
((((k15 : Nat) : Int) : Int) ≤ ((k16 : Nat) : Int)) ∧
((0 : Int) ≤ (if (((k2 : Nat) : Int) : Int) < (if (0 : Int) > x1 then 0 else x1) then ((k2 : Nat) : Int) else (if (0 : Int) > x1 then 0 else x1))) ∧
(((if (((k2 : Nat) : Int) : Int) < (if (0 : Int) > x1 then 0 else x1) then ((k2 : Nat) : Int) else (if (0 : Int) > x1 then 0 else x1)) : Int) ≤ ((k15 : Nat) : Int)) ∧
semK Try.prog (Go.Builtin.append_ #[39, 39] 39 #[(.slice (some ⟨k13, 0, none⟩) 0 0), (.slice (slA A14 (Int.toNat (if (((k2 : Nat) : Int) : Int) < (if (0 : Int) > x1 then 0 else x1) then ((k2 : Nat) : Int) else (if (0 : Int) > x1 then 0 else x1))) (Int.toNat ((k16 : Nat) : Int)) 1) ((Int.toNat ((k15 : Nat) : Int)) - (Int.toNat (if (((k2 : Nat) : Int) : Int) < (if (0 : Int) > x1 then 0 else x1) then ((k2 : Nat) : Int) else (if (0 : Int) > x1 then 0 else x1)))) ((Int.toNat ((k16 : Nat) : Int)) - (Int.toNat (if (((k2 : Nat) : Int) : Int) < (if (0 : Int) > x1 then 0 else x1) then ((k2 : Nat) : Int) else (if (0 : Int) > x1 then 0 else x1)))))]) (Mem.set M9 k13 (.cells #[] 3 (0, 0))) (fun v17 M18 =>
exSl (some v17) fun A19 k20 k21 =>
(Mem.wr M18 ⟨b0, o0, none⟩ = true) ∧
K (.slice A10 k11 k12) (Mem.put M18 ⟨b0, o0, none⟩ (.slice A19 k20 k21))) Kp) Kp) :
  ACalls Try.prog 105 ([.pointer (some ⟨b0, o0, none⟩), .int .i64 x1] : List Value).toArray M K Kp :=
  acalls_vc (C := Cx) good [] Try.func105 (by kernel_rfl) (by kernel_rfl) h

theorem vc_local_Local_Turn (b0 o0 : Nat) (b1 o1 : Nat) (M : Mem) (K : Value → Mem → Prop) (Kp : List PanicEntry → Mem → Prop) (h :
exI (Mem.ld M ⟨b0, o0, none⟩) .i64 fun n1 =>
bsp (n1 == (-1))
 (K (.int .i64 0) M)
 ((Mem.wr M ⟨b0, o0, none⟩ = true) ∧
  ACalls Try.prog 57 #[(.pointer (some ⟨b0, o0, none⟩)), (.int .i64 n1), (.pointer (some ⟨b1, o1, none⟩))] (Mem.put M ⟨b0, o0, none⟩ (.int .i64 (-1))) (fun v2 M3 =>
  exI (some v2) .i64 fun n4 =>
  K (.int .i64 n4) M3) Kp)) :
  ACalls Try.prog 103 ([.pointer (some ⟨b0, o0, none⟩), .pointer (some ⟨b1, o1, none⟩)] : List Value).toArray M K Kp :=
  acalls_vc (C := Cx) good [] Try.func103 (by kernel_rfl) (by kernel_rfl) h

theorem vc_local_Local_Fetch (b0 o0 : Nat) (b1 o1 : Nat) (x2 : Int) (M : Mem) (K : Value → Mem → Prop) (Kp : List PanicEntry → Mem → Prop) (h :
exP (Mem.ld M ⟨b0, (o0 + 1), none⟩) fun A1 =>
exP (Mem.ld M ⟨b0, (o0 + 1), none⟩) fun A2 =>
ACalls Try.prog 60 #[(.pointer (some ⟨b1, o1, none⟩))] M (fun v3 M4 =>
exI (some v3) .i64 fun n5 =>
((Mem.ld M4 ⟨b0, (o0 + 1), none⟩) = (some (.pointer A2))) ∧
((Mem.ld M4 ⟨b0, (o0 + 1), none⟩) = (some (.pointer A1))) ∧
(((if (1 : Int) > x2 then 1 else x2) : Int) ≠ 0) ∧
ACalls Try.prog 28 #[(.pointer A1)] M4 (fun v6 M7 =>
exI (some v6) .i64 fun n8 =>
((Mem.ld M7 ⟨b0, (o0 + 1), none⟩) = (some (.pointer A2))) ∧
((Mem.ld M7 ⟨b0, (o0 + 1), none⟩) = (some (.pointer A1))) ∧
ACalls Try.prog 31 #[(.pointer A2)] M7 (fun v9 M10 =>
exI (some v9) .i64 fun n11 =>
((Mem.ld M10 ⟨b0, (o0 + 1), none⟩) = (some (.pointer A2))) ∧
((Mem.ld M10 ⟨b0, (o0 + 1), none⟩) = (some (.pointer A1))) ∧
bsp (decide ((x2 : Int) < 1))
 (ACalls Try.prog 105 #[(.pointer (some ⟨b1, o1, none⟩)), (.int .i64 1)] M10 (fun v12 M13 =>
  exSl (some v12) fun A14 k15 k16 =>
  bsp (((k15 : Nat) : Int) == 0)
   (K (.tuple #[(.int .i64 (-1)), (.bool false)]) M13)
   (((0 : Int) ≤ ((k16 : Nat) : Int)) ∧
    ((((k16 : Nat) : Int) : Int) ≤ ((k16 : Nat) : Int)) ∧
    ((0 : Int) ≤ ((k15 : Nat) : Int)) ∧
    ((((k15 : Nat) : Int) : Int) ≤ ((k16 : Nat) : Int)) ∧
    ((0 : Int) ≤ 1) ∧
    ((1 : Int) ≤ ((k15 : Nat) : Int)) ∧
    ∃ I17 : Nat → List Value → Mem → Prop, (∃ k18 : Nat, I17 k18 [(.int .i64 0)] M13) ∧
    ∀ k19 : Nat, ∀ junk20 : Nat → Value, ∀ n21 : Int, ∀ M22 : Mem, (I17 k19 [(.int .i64 n21)] M22) → bsp (decide ((n21 : Int) < ((((Int.toNat ((k15 : Nat) : Int)) - 1) : Nat) : Int)))
     (((0 : Int) ≤ n21) ∧
      ((n21 : Int) < ((((Int.toNat ((k15 : Nat) : Int)) - 1) : Nat) : Int)) ∧
      nilc (slA A14 1 (Int.toNat ((k16 : Nat) : Int)) 1) fun k23 k24 =>
      exI (Mem.ld M22 ⟨k23, (k24 + (Int.toNat n21)), none⟩) .i64 fun n25 =>
      exP (Mem.ld M22 ⟨b0, (o0 + 1), none⟩) fun A26 =>
      ACalls Try.prog 29 #[(.pointer A26), (.int .i64 n25)] M22 (fun v27 M28 =>
      exB (some v27) fun t29 =>
      ∃ k30 : Nat, (k30 < k19) ∧
      I17 k30 [(.int .i64 (IntKind.wrap .i64 (n21 + 1)))] M28) Kp)
     (((0 : Int) ≤ 0) ∧
      ((0 : Int) < ((k15 : Nat) : Int)) ∧
      nilc A14 fun k31 k32 =>
      exI (Mem.ld M22 ⟨k31, (k32 + 0), none⟩) .i64 fun n33 =>
      K (.tuple #[(.int .i64 n33), (.bool true)]) M22))) Kp)
 (ACalls Try.prog 105 #[(.pointer (some ⟨b1, o1, none⟩)), (.int .i64 (if ((IntKind.wrap .i64 ((IntKind.wrap .i64 (n8 - n11)) + 1)) : Int) < (IntKind.wrap .i64 ((IntKind.wrap .i64 (Int.tdiv n5 (if (1 : Int) > x2 then 1 else x2))) + 1)) then (IntKind.wrap .i64 ((IntKind.wrap .i64 (n8 - n11)) + 1)) else (IntKind.wrap .i64 ((IntKind.wrap .i64 (Int.tdiv n5 (if (1 : Int) > x2 then 1 else x2))) + 1))))] M10 (fun v34 M35 =>
  exSl (some v34) fun A36 k37 k38 =>
  bsp (((k37 : Nat) : Int) == 0)
   (K (.tuple #[(.int .i64 (-1)), (.bool false)]) M35)
   (((0 : Int) ≤ ((k38 : Nat) : Int)) ∧
    ((((k38 : Nat) : Int) : Int) ≤ ((k38 : Nat) : Int)) ∧
    ((0 : Int) ≤ ((k37 : Nat) : Int)) ∧
    ((((k37 : Nat) : Int) : Int) ≤ ((k38 : Nat) : Int)) ∧
    ((0 : Int) ≤ 1) ∧
    ((1 : Int) ≤ ((k37 : Nat) : Int)) ∧
    ∃ I39 : Nat → List Value → Mem → Prop, (∃ k40 : Nat, I39 k40 [(.int .i64 0)] M35) ∧
    ∀ k41 : Nat, ∀ junk42 : Nat → Value, ∀ n43 : Int, ∀ M44 : Mem, (I39 k41 [(.int .i64 n43)] M44) → bsp (decide ((n43 : Int) < ((((Int.toNat ((k37 : Nat) : Int)) - 1) : Nat) : Int)))
     (((0 : Int) ≤ n43) ∧
      ((n43 : Int) < ((((Int.toNat ((k37 : Nat) : Int)) - 1) : Nat) : Int)) ∧
      nilc (slA A36 1 (Int.toNat ((k38 : Nat) : Int)) 1) fun k45 k46 =>
      exI (Mem.ld M44 ⟨k45, (k46 + (Int.toNat n43)), none⟩) .i64 fun n47 =>
      exP (Mem.ld M44 ⟨b0, (o0 + 1), none⟩) fun A48 =>
      ACalls Try.prog 29 #[(.pointer A48), (.int .i64 n47)] M44 (fun v49 M50 =>
      exB (some v49) fun t51 =>
      ∃ k52 : Nat, (k52 < k41) ∧
      I39 k52 [(.int .i64 (IntKind.wrap .i64 (n43 + 1)))] M50) Kp)
     (((0 : Int) ≤ 0) ∧
      ((0 : Int) < ((k37 : Nat) : Int)) ∧
      nilc A36 fun k53 k54 =>
      exI (Mem.ld M44 ⟨k53, (k54 + 0), none⟩) .i64 fun n55 =>
      K (.tuple #[(.int .i64 n55), (.bool true)]) M44))) Kp)) Kp) Kp) Kp) :
  ACalls Try.prog 100 ([.pointer (some ⟨b0, o0, none⟩), .pointer (some ⟨b1, o1, none⟩), .int .i64 x2] : List Value).toArray M K Kp :=
  acalls_vc (C := Cx) good [(1, .reg [0, 1, 0, 4, 15, 31, 0, 64, 192, 448, 963, 0, 2048, 6144, 14336, 32707, 65475, 131011, 262143, 524287] (.step 0 (.step 2 (.step 3 (.step 6 (.step 7 (.step 8 (.step 11 (.step 12 (.step 13 (.prom 9 (.prom 14 (.step 1 (.step 4 (.step 5 (.step 10 (.step 15 (.step 16 (.step 17 (.step 18 (.step 19 .done))))))))))))))))))))), (2000000, .loop [(42, .c (.int .i64))])] Try.func100 (by kernel_rfl) (by kernel_rfl) h

theorem vc_shunterlaw08_LocalOrder (x0 : Int) (x1 : Int) (M : Mem) (K : Value → Mem → Prop) (Kp : List PanicEntry → Mem → Prop) (h :
ACalls Try.prog 55 #[] M (fun v1 M2 =>
exB (some v1) fun t3 =>
bsp (!t3)
 (K (.bool false) M2)
 (((60 : Int) ≠ 0) ∧
  ((20 : Int) ≠ 0) ∧
  ACalls Try.prog 56 #[(.int .i64 100)] M2 (fun v4 M5 =>
  exP (some v4) fun A6 =>
  ∀ k7 : Nat, (M5 k7 = none) → ∀ k8 : Nat, ((Mem.set M5 k7 (.cells #[(.slice none 0 0)] 104 (0, 0))) k8 = none) → ∃ I9 : Nat → List Value → Mem → Prop, (∃ k10 : Nat, I9 k10 [(.slice (some ⟨k8, 0, none⟩) 0 0), (.int .i64 0)] (Mem.set (Mem.set M5 k7 (.cells #[(.slice none 0 0)] 104 (0, 0))) k8 (.cells #[] 3 (0, 0)))) ∧
  ∀ k11 : Nat, ∀ junk12 : Nat → Value, ∀ A13 : Option Addr, ∀ k14 : Nat, ∀ k15 : Nat, ∀ n16 : Int, ∀ M17 : Mem, (I9 k11 [(.slice A13 k14 k15), (.int .i64 n16)] M17) → bsp (decide ((n16 : Int) < (Int.tmod (IntKind.wrap .i64 (((Nat.bitwise and (BitVec.ofInt IntKind.i64.bits x0).toNat (BitVec.ofInt IntKind.i64.bits 255).toNat) : Nat) : Int)) 60)))
   (ACalls Try.prog 57 #[(.pointer A6), (.int .i64 n16), (.pointer (some ⟨k7, 0, none⟩))] M17 (fun v18 M19 =>
    exI (some v18) .i64 fun n20 =>
    ∀ k21 : Nat, (M19 k21 = none) → semK Try.prog (Go.Builtin.append_ #[39, 39] 39 #[(.slice A13 k14 k15), (.slice (some ⟨k21, 0, none⟩) 1 1)]) (Mem.set M19 k21 (.cells #[(.int .i64 n16)] 3 (0, 0))) (fun v22 M23 =>
    exSl (some v22) fun A24 k25 k26 =>
    ∃ k27 : Nat, (k27 < k11) ∧
    I9 k27 [(.slice A24 k25 k26), (.int .i64 (IntKind.wrap .i64 (n16 + 1)))] M23) Kp) Kp)
   (∃ I28 : Nat → List Value → Mem → Prop, (∃ k29 : Nat, I28 k29 [(.slice A13 k14 k15), (.int .i64 0)] M17) ∧
    ∀ k30 : Nat, ∀ junk31 : Nat → Value, ∀ A32 : Option Addr, ∀ k33 : Nat, ∀ k34 : Nat, ∀ n35 : Int, ∀ M36 : Mem, (I28 k30 [(.slice A32 k33 k34), (.int .i64 n35)] M36) → bsp (decide ((n35 : Int) < (Int.tmod (IntKind.wrap .i64 (((Nat.bitwise and (BitVec.ofInt IntKind.i64.bits x1).toNat (BitVec.ofInt IntKind.i64.bits 255).toNat) : Nat) : Int)) 20)))
     (ACalls Try.prog 58 #[(.pointer A6), (.int .i64 (IntKind.wrap .i64 (1000 + n35))), (.pointer (some ⟨k7, 0, none⟩))] M36 (fun v37 M38 =>
      exI (some v37) .i64 fun n39 =>
      bsp (decide ((n35 : Int) > 0))
       (∀ k40 : Nat, (M38 k40 = none) → semK Try.prog (Go.Builtin.append_ #[39, 39] 39 #[(.slice A32 k33 k34), (.slice (some ⟨k40, 0, none⟩) 1 1)]) (Mem.set M38 k40 (.cells #[(.int .i64 (IntKind.wrap .i64 (999 + n35)))] 3 (0, 0))) (fun v41 M42 =>
        exSl (some v41) fun A43 k44 k45 =>
        ∃ k46 : Nat, (k46 < k30) ∧
        I28 k46 [(.slice A43 k44 k45), (.int .i64 (IntKind.wrap .i64 (n35 + 1)))] M42) Kp)
       (∃ k47 : Nat, (k47 < k30) ∧
        I28 k47 [(.slice A32 k33 k34), (.int .i64 (IntKind.wrap .i64 (n35 + 1)))] M38)) Kp)
     (bsp (decide (((Int.tmod (IntKind.wrap .i64 (((Nat.bitwise and (BitVec.ofInt IntKind.i64.bits x1).toNat (BitVec.ofInt IntKind.i64.bits 255).toNat) : Nat) : Int)) 20) : Int) > 0))
       (∀ k48 : Nat, (M36 k48 = none) → semK Try.prog (Go.Builtin.append_ #[39, 39] 39 #[(.slice (some ⟨k48, 0, none⟩) 1 1), (.slice A32 k33 k34)]) (Mem.set M36 k48 (.cells #[(.int .i64 (IntKind.wrap .i64 (999 + (Int.tmod (IntKind.wrap .i64 (((Nat.bitwise and (BitVec.ofInt IntKind.i64.bits x1).toNat (BitVec.ofInt IntKind.i64.bits 255).toNat) : Nat) : Int)) 20))))] 3 (0, 0))) (fun v49 M50 =>
        exSl (some v49) fun A51 k52 k53 =>
        ∃ I54 : Nat → List Value → Mem → Prop, (∃ k55 : Nat, I54 k55 [(.int .i64 0)] M50) ∧
        ∀ k56 : Nat, ∀ junk57 : Nat → Value, ∀ n58 : Int, ∀ M59 : Mem, (I54 k56 [(.int .i64 n58)] M59) → bsp (decide ((n58 : Int) < ((k52 : Nat) : Int)))
         (((0 : Int) ≤ n58) ∧
          ((n58 : Int) < ((k52 : Nat) : Int)) ∧
          nilc A51 fun k60 k61 =>
          exI (Mem.ld M59 ⟨k60, (k61 + (Int.toNat n58)), none⟩) .i64 fun n62 =>
          ACalls Try.prog 59 #[(.pointer A6)] M59 (fun v63 M64 =>
          ∃ n65 : Int, ∃ t66 : Bool, (v63 = (.tuple #[(.int .i64 n65), (.bool t66)])) ∧
          bsp (!t66)
           (K (.bool false) M64)
           (bsp (n65 != n62)
             (K (.bool false) M64)
             (∃ k67 : Nat, (k67 < k56) ∧
              I54 k67 [(.int .i64 (IntKind.wrap .i64 (n58 + 1)))] M64))) Kp)
         (ACalls Try.prog 59 #[(.pointer A6)] M59 (fun v68 M69 =>
          ∃ n70 : Int, ∃ t71 : Bool, (v68 = (.tuple #[(.int .i64 n70), (.bool t71)])) ∧
          bsp (!t71)
           (ACalls Try.prog 60 #[(.pointer (some ⟨k7, 0, none⟩))] M69 (fun v72 M73 =>
            exI (some v72) .i64 fun n74 =>
            bsp (n74 == 0)
             (ACalls Try.prog 61 #[(.pointer A6)] M73 (fun v75 M76 =>
              exI (some v75) .i64 fun n77 =>
              K (.bool (n77 == 0)) M76) Kp)
             (K (.bool false) M73)) Kp)
           (K (.bool false) M69)) Kp)) Kp)
       (∃ I78 : Nat → List Value → Mem → Prop, (∃ k79 : Nat, I78 k79 [(.int .i64 0)] M36) ∧
        ∀ k80 : Nat, ∀ junk81 : Nat → Value, ∀ n82 : Int, ∀ M83 : Mem, (I78 k80 [(.int .i64 n82)] M83) → bsp (decide ((n82 : Int) < ((k33 : Nat) : Int)))
         (((0 : Int) ≤ n82) ∧
          ((n82 : Int) < ((k33 : Nat) : Int)) ∧
          nilc A32 fun k84 k85 =>
          exI (Mem.ld M83 ⟨k84, (k85 + (Int.toNat n82)), none⟩) .i64 fun n86 =>
          ACalls Try.prog 59 #[(.pointer A6)] M83 (fun v87 M88 =>
          ∃ n89 : Int, ∃ t90 : Bool, (v87 = (.tuple #[(.int .i64 n89), (.bool t90)])) ∧
          bsp (!t90)
           (K (.bool false) M88)
           (bsp (n89 != n86)
             (K (.bool false) M88)
             (∃ k91 : Nat, (k91 < k80) ∧
              I78 k91 [(.int .i64 (IntKind.wrap .i64 (n82 + 1)))] M88))) Kp)
         (ACalls Try.prog 59 #[(.pointer A6)] M83 (fun v92 M93 =>
          ∃ n94 : Int, ∃ t95 : Bool, (v92 = (.tuple #[(.int .i64 n94), (.bool t95)])) ∧
          bsp (!t95)
           (ACalls Try.prog 60 #[(.pointer (some ⟨k7, 0, none⟩))] M93 (fun v96 M97 =>
            exI (some v96) .i64 fun n98 =>
            bsp (n98 == 0)
             (ACalls Try.prog 61 #[(.pointer A6)] M97 (fun v99 M100 =>
              exI (some v99) .i64 fun n101 =>
              K (.bool (n101 == 0)) M100) Kp)
             (K (.bool false) M97)) Kp)
           (K (.bool false) M93)) Kp))))) Kp)) Kp) :
  ACalls Try.prog 13 ([.int .i64 x0, .int .i64 x1] : List Value).toArray M K Kp :=
  acalls_vc (C := Cx) good [(2000000, .loop [(7, .c .sl), (27, .c (.int .i64))]), (2000002, .loop [(7, .c .sl), (39, .c (.int .i64))]), (2000004, .loop [(63, .c (.int .i64))])] Try.func13 (by kernel_rfl) (by kernel_rfl) h

theorem vc_shunterlaw08_LocalSteals (x0 : Int) (x1 : Int) (M : Mem) (K : Value → Mem → Prop) (Kp : List PanicEntry → Mem → Prop) (h :
ACalls Try.prog 55 #[] M (fun v1 M2 =>
exB (some v1) fun t3 =>
bsp (!t3)
 (K (.bool false) M2)
 (((50 : Int) ≠ 0) ∧
  ACalls Try.prog 56 #[(.int .i64 60)] M2 (fun v4 M5 =>
  exP (some v4) fun A6 =>
  ((40 : Int) ≠ 0) ∧
  ACalls Try.prog 56 #[(.int .i64 (IntKind.wrap .i64 (2 + (Int.tmod (IntKind.wrap .i64 (((Nat.bitwise and (BitVec.ofInt IntKind.i64.bits x1).toNat (BitVec.ofInt IntKind.i64.bits 255).toNat) : Nat) : Int)) 40))))] M5 (fun v7 M8 =>
  exP (some v7) fun A9 =>
  ∀ k10 : Nat, (M8 k10 = none) → ∃ I11 : Nat → List Value → Mem → Prop, (∃ k12 : Nat, I11 k12 [(.int .i64 0)] (Mem.set M8 k10 (.cells #[(.slice none 0 0)] 104 (0, 0)))) ∧
  ∀ k13 : Nat, ∀ junk14 : Nat → Value, ∀ n15 : Int, ∀ M16 : Mem, (I11 k13 [(.int .i64 n15)] M16) → bsp (decide ((n15 : Int) < (Int.tmod (IntKind.wrap .i64 (((Nat.bitwise and (BitVec.ofInt IntKind.i64.bits x0).toNat (BitVec.ofInt IntKind.i64.bits 255).toNat) : Nat) : Int)) 50)))
   (ACalls Try.prog 57 #[(.pointer A6), (.int .i64 n15), (.pointer (some ⟨k10, 0, none⟩))] M16 (fun v17 M18 =>
    exI (some v17) .i64 fun n19 =>
    ∃ k20 : Nat, (k20 < k13) ∧
    I11 k20 [(.int .i64 (IntKind.wrap .i64 (n15 + 1)))] M18) Kp)
   (ACalls Try.prog 62 #[(.pointer A9), (.pointer A6)] M16 (fun v21 M22 =>
    ∃ n23 : Int, ∃ t24 : Bool, (v21 = (.tuple #[(.int .i64 n23), (.bool t24)])) ∧
    bsp ((Int.tmod (IntKind.wrap .i64 (((Nat.bitwise and (BitVec.ofInt IntKind.i64.bits x0).toNat (BitVec.ofInt IntKind.i64.bits 255).toNat) : Nat) : Int)) 50) == 0)
     (bsp (!t24)
       (K (.bool (n23 == (-1))) M22)
       (K (.bool false) M22))
     (((2 : Int) ≠ 0) ∧
      ((40 : Int) ≠ 0) ∧
      bsp (!t24)
       (K (.bool false) M22)
       (bsp (n23 != 0)
         (K (.bool false) M22)
         (ACalls Try.prog 61 #[(.pointer A9)] M22 (fun v25 M26 =>
          exI (some v25) .i64 fun n27 =>
          bsp (n27 != (IntKind.wrap .i64 ((if ((IntKind.wrap .i64 (3 + (Int.tmod (IntKind.wrap .i64 (((Nat.bitwise and (BitVec.ofInt IntKind.i64.bits x1).toNat (BitVec.ofInt IntKind.i64.bits 255).toNat) : Nat) : Int)) 40))) : Int) < (IntKind.wrap .i64 (Int.tdiv (IntKind.wrap .i64 ((Int.tmod (IntKind.wrap .i64 (((Nat.bitwise and (BitVec.ofInt IntKind.i64.bits x0).toNat (BitVec.ofInt IntKind.i64.bits 255).toNat) : Nat) : Int)) 50) + 1)) 2)) then (IntKind.wrap .i64 (3 + (Int.tmod (IntKind.wrap .i64 (((Nat.bitwise and (BitVec.ofInt IntKind.i64.bits x1).toNat (BitVec.ofInt IntKind.i64.bits 255).toNat) : Nat) : Int)) 40))) else (IntKind.wrap .i64 (Int.tdiv (IntKind.wrap .i64 ((Int.tmod (IntKind.wrap .i64 (((Nat.bitwise and (BitVec.ofInt IntKind.i64.bits x0).toNat (BitVec.ofInt IntKind.i64.bits 255).toNat) : Nat) : Int)) 50) + 1)) 2))) - 1)))
           (K (.bool false) M26)
           (ACalls Try.prog 61 #[(.pointer A6)] M26 (fun v28 M29 =>
            exI (some v28) .i64 fun n30 =>
            bsp (n30 != (IntKind.wrap .i64 ((Int.tmod (IntKind.wrap .i64 (((Nat.bitwise and (BitVec.ofInt IntKind.i64.bits x0).toNat (BitVec.ofInt IntKind.i64.bits 255).toNat) : Nat) : Int)) 50) - (if ((IntKind.wrap .i64 (3 + (Int.tmod (IntKind.wrap .i64 (((Nat.bitwise and (BitVec.ofInt IntKind.i64.bits x1).toNat (BitVec.ofInt IntKind.i64.bits 255).toNat) : Nat) : Int)) 40))) : Int) < (IntKind.wrap .i64 (Int.tdiv (IntKind.wrap .i64 ((Int.tmod (IntKind.wrap .i64 (((Nat.bitwise and (BitVec.ofInt IntKind.i64.bits x0).toNat (BitVec.ofInt IntKind.i64.bits 255).toNat) : Nat) : Int)) 50) + 1)) 2)) then (IntKind.wrap .i64 (3 + (Int.tmod (IntKind.wrap .i64 (((Nat.bitwise and (BitVec.ofInt IntKind.i64.bits x1).toNat (BitVec.ofInt IntKind.i64.bits 255).toNat) : Nat) : Int)) 40))) else (IntKind.wrap .i64 (Int.tdiv (IntKind.wrap .i64 ((Int.tmod (IntKind.wrap .i64 (((Nat.bitwise and (BitVec.ofInt IntKind.i64.bits x0).toNat (BitVec.ofInt IntKind.i64.bits 255).toNat) : Nat) : Int)) 50) + 1)) 2))))))
             (K (.bool false) M29)
             (ACalls Try.prog 63 #[(.pointer A9)] M29 (fun v31 M32 =>
              exSl (some v31) fun A33 k34 k35 =>
              ACalls Try.prog 63 #[(.pointer A6)] M32 (fun v36 M37 =>
              exSl (some v36) fun A38 k39 k40 =>
              semK Try.prog (Go.Builtin.append_ #[39, 39] 39 #[(.slice A33 k34 k35), (.slice A38 k39 k40)]) M37 (fun v41 M42 =>
              exSl (some v41) fun A43 k44 k45 =>
              ∃ I46 : Nat → List Value → Mem → Prop, (∃ k47 : Nat, I46 k47 [(.int .i64 0)] M42) ∧
              ∀ k48 : Nat, ∀ junk49 : Nat → Value, ∀ n50 : Int, ∀ M51 : Mem, (I46 k48 [(.int .i64 n50)] M51) → bsp (decide ((n50 : Int) < ((k44 : Nat) : Int)))
               (((0 : Int) ≤ n50) ∧
                ((n50 : Int) < ((k44 : Nat) : Int)) ∧
                nilc A43 fun k52 k53 =>
                exI (Mem.ld M51 ⟨k52, (k53 + (Int.toNat n50)), none⟩) .i64 fun n54 =>
                bsp (n54 != (IntKind.wrap .i64 (n50 + 1)))
                 (K (.bool false) M51)
                 (∃ k55 : Nat, (k55 < k48) ∧
                  I46 k55 [(.int .i64 (IntKind.wrap .i64 (n50 + 1)))] M51))
               (K (.bool true) M51)) Kp) Kp) Kp)) Kp)) Kp)))) Kp)) Kp) Kp)) Kp) :
  ACalls Try.prog 14 ([.int .i64 x0, .int .i64 x1] : List Value).toArray M K Kp :=
  acalls_vc (C := Cx) good [(2000000, .loop [(26, .c (.int .i64))]), (2000002, .loop [(82, .c (.int .i64))])] Try.func14 (by kernel_rfl) (by kernel_rfl) h

end Go.Proofs
