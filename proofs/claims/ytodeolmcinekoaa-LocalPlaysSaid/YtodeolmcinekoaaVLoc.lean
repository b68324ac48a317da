/- A part of proofs about functions of one program: a condition over a partial memory that is enough for a call, and what calls answer by it. No condition of its own. -/
import Derived.Test.YtodeolmcinekoaaCx
namespace Go.Proofs
open Go.AF
set_option linter.unusedVariables false
set_option maxRecDepth 100000
theorem vc_shunterlaw08_awake  {M : Mem} {K : Value → Mem → Prop} {Kp : List PanicEntry → Mem → Prop} (h :
ACalls Try.prog 56 #[(.int .i64 4)] M (fun v1 M2 =>
exP (some v1) fun A3 =>
bsp (Option.isNone A3)
 (K (.bool false) M2)
 (nwc M2 (.cells #[(.slice none 0 0)] 104 (0, 0)) fun k4 M5 =>
  ACalls Try.prog 58 #[(.pointer A3), (.int .i64 5), (.pointer (some ⟨k4, 0, none⟩))] M5 (fun v6 M7 =>
  exI (some v6) .i64 fun n8 =>
  ACalls Try.prog 58 #[(.pointer A3), (.int .i64 6), (.pointer (some ⟨k4, 0, none⟩))] M7 (fun v9 M10 =>
  exI (some v9) .i64 fun n11 =>
  ACalls Try.prog 59 #[(.pointer A3)] M10 (fun v12 M13 =>
  ∃ n14 : Int, ∃ t15 : Bool, (v12 = (.tuple #[(.int .i64 n14), (.bool t15)])) ∧
  ACalls Try.prog 59 #[(.pointer A3)] M13 (fun v16 M17 =>
  ∃ n18 : Int, ∃ t19 : Bool, (v16 = (.tuple #[(.int .i64 n18), (.bool t19)])) ∧
  ACalls Try.prog 59 #[(.pointer A3)] M17 (fun v20 M21 =>
  ∃ n22 : Int, ∃ t23 : Bool, (v20 = (.tuple #[(.int .i64 n22), (.bool t23)])) ∧
  bsp (n14 == 6)
   (bsp t15
     (bsp (n18 == 5)
       (bsp t19
         (bsp (!t23)
           (ACalls Try.prog 60 #[(.pointer (some ⟨k4, 0, none⟩))] M21 (fun v24 M25 =>
            exI (some v24) .i64 fun n26 =>
            K (.bool (n26 == 0)) M25) Kp)
           (K (.bool false) M21))
         (K (.bool false) M21))
       (K (.bool false) M21))
     (K (.bool false) M21))
   (K (.bool false) M21)) Kp) Kp) Kp) Kp) Kp)) Kp) :
  ACalls Try.prog 55 ([] : List Value).toArray M K Kp :=
  acalls_vc (C := Cx) good [] Try.func55 (by kernel_rfl) (by kernel_rfl) h

theorem vc_local_New {x0 : Int} {M : Mem} {K : Value → Mem → Prop} {Kp : List PanicEntry → Mem → Prop} (h :
ACalls Try.prog 27 #[(.int .i64 x0)] M (fun v1 M2 =>
exP (some v1) fun A3 =>
nwc M2 (.cells #[(.int .i64 (-1)), (.pointer A3)] 166 (0, 0)) fun k4 M5 =>
K (.pointer (some ⟨k4, 0, none⟩)) M5) Kp) :
  ACalls Try.prog 56 ([.int .i64 x0] : List Value).toArray M K Kp :=
  acalls_vc (C := Cx) good [] Try.func56 (by kernel_rfl) (by kernel_rfl) h

theorem vc_local_Local_Put {b0 o0 : Nat} {x1 : Int} {b2 o2 : Nat} {M : Mem} {K : Value → Mem → Prop} {Kp : List PanicEntry → Mem → Prop} (h :
exP (Mem.ld M ⟨b0, (o0 + 1), none⟩) fun A1 =>
ACalls Try.prog 29 #[(.pointer A1), (.int .i64 x1)] M (fun v2 M3 =>
exB (some v2) fun t4 =>
bsp t4
 (K (.int .i64 0) M3)
 (exP (Mem.ld M3 ⟨b0, (o0 + 1), none⟩) fun A5 =>
  exP (Mem.ld M3 ⟨b0, (o0 + 1), none⟩) fun A6 =>
  (True) ∧
  ACalls Try.prog 31 #[(.pointer A5)] M3 (fun v7 M8 =>
  exI (some v7) .i64 fun n9 =>
  ((Mem.ld M8 ⟨b0, (o0 + 1), none⟩) = (some (.pointer A6))) ∧
  ((2 : Int) ≠ 0) ∧
  (True) ∧
  ACalls Try.prog 32 #[(.pointer A6), (.int .i64 (IntKind.wrap .i64 (Int.tdiv n9 2)))] M8 (fun v10 M11 =>
  exSl (some v10) fun A12 k13 k14 =>
  ((Mem.ld M11 ⟨b0, (o0 + 1), none⟩) = (some (.pointer A6))) ∧
  nwc M11 (.cells #[(.int .i64 x1)] 3 (0, 0)) fun k15 M16 =>
  semK Try.prog (Go.Builtin.append_ #[39, 39] 39 #[(.slice A12 k13 k14), (.slice (some ⟨k15, 0, none⟩) 1 1)]) M16 (fun v17 M18 =>
  exSl (some v17) fun A19 k20 k21 =>
  ((Mem.ld M18 ⟨b0, (o0 + 1), none⟩) = (some (.pointer A6))) ∧
  ACalls Try.prog 93 #[(.pointer (some ⟨b2, o2, none⟩)), (.slice A19 k20 k21)] M18 (fun v22 M23 =>
  (v22 = (.tuple #[])) ∧
  K (.int .i64 ((k20 : Nat) : Int)) M23) Kp) Kp) Kp) Kp)) Kp) :
  ACalls Try.prog 57 ([.pointer (some ⟨b0, o0, none⟩), .int .i64 x1, .pointer (some ⟨b2, o2, none⟩)] : List Value).toArray M K Kp :=
  acalls_vc (C := Cx) good [(3, .reg [0, 1, 3, 7, 0, 16, 48, 112, 240, 496, 1023, 0, 2048, 8191, 16383] (.step 0 (.step 1 (.step 2 (.step 4 (.step 5 (.step 6 (.step 11 (.step 7 (.prom 3 (.late 8 (.step 9 (.late 10 (.step 12 (.step 13 (.step 14 .done))))))))))))))))] Try.func57 (by kernel_rfl) (by kernel_rfl) h

theorem vc_local_Local_Ready {b0 o0 : Nat} {x1 : Int} {b2 o2 : Nat} {M : Mem} {K : Value → Mem → Prop} {Kp : List PanicEntry → Mem → Prop} (h :
exI (Mem.ld M ⟨b0, o0, none⟩) .i64 fun n1 =>
stc M ⟨b0, o0, none⟩ (.int .i64 x1) fun M2 =>
bsp (n1 == (-1))
 (K (.int .i64 0) M2)
 (ACalls Try.prog 57 #[(.pointer (some ⟨b0, o0, none⟩)), (.int .i64 n1), (.pointer (some ⟨b2, o2, none⟩))] M2 (fun v3 M4 =>
  exI (some v3) .i64 fun n5 =>
  K (.int .i64 n5) M4) Kp)) :
  ACalls Try.prog 58 ([.pointer (some ⟨b0, o0, none⟩), .int .i64 x1, .pointer (some ⟨b2, o2, none⟩)] : List Value).toArray M K Kp :=
  acalls_vc (C := Cx) good [] Try.func58 (by kernel_rfl) (by kernel_rfl) h

theorem vc_local_Local_Get {b0 o0 : Nat} {M : Mem} {K : Value → Mem → Prop} {Kp : List PanicEntry → Mem → Prop} (h :
exI (Mem.ld M ⟨b0, o0, none⟩) .i64 fun n1 =>
bsp (n1 != (-1))
 (stc M ⟨b0, o0, none⟩ (.int .i64 (-1)) fun M2 =>
  K (.tuple #[(.int .i64 n1), (.bool true)]) M2)
 (exP (Mem.ld M ⟨b0, (o0 + 1), none⟩) fun A3 =>
  ACalls Try.prog 30 #[(.pointer A3)] M (fun v4 M5 =>
  ∃ n6 : Int, ∃ t7 : Bool, (v4 = (.tuple #[(.int .i64 n6), (.bool t7)])) ∧
  bsp (!t7)
   (K (.tuple #[(.int .i64 (-1)), (.bool false)]) M5)
   (K (.tuple #[(.int .i64 n6), (.bool true)]) M5)) Kp)) :
  ACalls Try.prog 59 ([.pointer (some ⟨b0, o0, none⟩)] : List Value).toArray M K Kp :=
  acalls_vc (C := Cx) good [] Try.func59 (by kernel_rfl) (by kernel_rfl) h

theorem vc_local_Global_Len {b0 o0 : Nat} {M : Mem} {K : Value → Mem → Prop} {Kp : List PanicEntry → Mem → Prop} (h :
exSl (Mem.ld M ⟨b0, o0, none⟩) fun A1 k2 k3 =>
K (.int .i64 ((k2 : Nat) : Int)) M) :
  ACalls Try.prog 60 ([.pointer (some ⟨b0, o0, none⟩)] : List Value).toArray M K Kp :=
  acalls_vc (C := Cx) good [] Try.func60 (by kernel_rfl) (by kernel_rfl) h

theorem vc_local_Local_Len {b0 o0 : Nat} {M : Mem} {K : Value → Mem → Prop} {Kp : List PanicEntry → Mem → Prop} (h :
exI (Mem.ld M ⟨b0, o0, none⟩) .i64 fun n1 =>
bsp (n1 != (-1))
 (exP (Mem.ld M ⟨b0, (o0 + 1), none⟩) fun A2 =>
  ACalls Try.prog 31 #[(.pointer A2)] M (fun v3 M4 =>
  exI (some v3) .i64 fun n5 =>
  K (.int .i64 (IntKind.wrap .i64 (n5 + 1))) M4) Kp)
 (exP (Mem.ld M ⟨b0, (o0 + 1), none⟩) fun A6 =>
  ACalls Try.prog 31 #[(.pointer A6)] M (fun v7 M8 =>
  exI (some v7) .i64 fun n9 =>
  K (.int .i64 n9) M8) Kp)) :
  ACalls Try.prog 61 ([.pointer (some ⟨b0, o0, none⟩)] : List Value).toArray M K Kp :=
  acalls_vc (C := Cx) good [] Try.func61 (by kernel_rfl) (by kernel_rfl) h

theorem vc_local_Local_Steal {b0 o0 : Nat} {b1 o1 : Nat} {M : Mem} {K : Value → Mem → Prop} {Kp : List PanicEntry → Mem → Prop} (h :
Go.AF.ptrEq M (some ⟨b0, o0, none⟩) (some ⟨b1, o1, none⟩) fun t1 =>
bsp t1
 (K (.tuple #[(.int .i64 (-1)), (.bool false)]) M)
 (exP (Mem.ld M ⟨b1, (o1 + 1), none⟩) fun A2 =>
  ACalls Try.prog 31 #[(.pointer A2)] M (fun v3 M4 =>
  exI (some v3) .i64 fun n5 =>
  bsp (n5 == 0)
   (exI (Mem.ld M4 ⟨b1, o1, none⟩) .i64 fun n6 =>
    stc M4 ⟨b1, o1, none⟩ (.int .i64 (-1)) fun M7 =>
    K (.tuple #[(.int .i64 n6), (.bool (n6 != (-1)))]) M7)
   (((2 : Int) ≠ 0) ∧
    exP (Mem.ld M4 ⟨b0, (o0 + 1), none⟩) fun A8 =>
    exP (Mem.ld M4 ⟨b1, (o1 + 1), none⟩) fun A9 =>
    exP (Mem.ld M4 ⟨b0, (o0 + 1), none⟩) fun A10 =>
    ACalls Try.prog 28 #[(.pointer A8)] M4 (fun v11 M12 =>
    exI (some v11) .i64 fun n13 =>
    ((Mem.ld M12 ⟨b0, (o0 + 1), none⟩) = (some (.pointer A10))) ∧
    ((Mem.ld M12 ⟨b1, (o1 + 1), none⟩) = (some (.pointer A9))) ∧
    ACalls Try.prog 31 #[(.pointer A10)] M12 (fun v14 M15 =>
    exI (some v14) .i64 fun n16 =>
    ((Mem.ld M15 ⟨b0, (o0 + 1), none⟩) = (some (.pointer A10))) ∧
    ((Mem.ld M15 ⟨b1, (o1 + 1), none⟩) = (some (.pointer A9))) ∧
    ACalls Try.prog 32 #[(.pointer A9), (.int .i64 (if ((IntKind.wrap .i64 ((IntKind.wrap .i64 (n13 - n16)) + 1)) : Int) < (IntKind.wrap .i64 (n5 - (IntKind.wrap .i64 (Int.tdiv n5 2)))) then (IntKind.wrap .i64 ((IntKind.wrap .i64 (n13 - n16)) + 1)) else (IntKind.wrap .i64 (n5 - (IntKind.wrap .i64 (Int.tdiv n5 2))))))] M15 (fun v17 M18 =>
    exSl (some v17) fun A19 k20 k21 =>
    ((Mem.ld M18 ⟨b0, (o0 + 1), none⟩) = (some (.pointer A10))) ∧
    ((Mem.ld M18 ⟨b1, (o1 + 1), none⟩) = (some (.pointer A9))) ∧
    ((0 : Int) ≤ ((k21 : Nat) : Int)) ∧
    ((((k21 : Nat) : Int) : Int) ≤ ((k21 : Nat) : Int)) ∧
    ((0 : Int) ≤ ((k20 : Nat) : Int)) ∧
    ((((k20 : Nat) : Int) : Int) ≤ ((k21 : Nat) : Int)) ∧
    ((0 : Int) ≤ 1) ∧
    ((1 : Int) ≤ ((k20 : Nat) : Int)) ∧
    ∃ I22 : Nat → List Value → Mem → Prop, (∃ k23 : Nat, I22 k23 [(.int .i64 0)] M18) ∧
    ∀ k24 : Nat, ∀ junk25 : Nat → Value, ∀ n26 : Int, ∀ M27 : Mem, (I22 k24 [(.int .i64 n26)] M27) → bsp (decide ((n26 : Int) < ((((Int.toNat ((k20 : Nat) : Int)) - 1) : Nat) : Int)))
     (((0 : Int) ≤ n26) ∧
      ((n26 : Int) < ((((Int.toNat ((k20 : Nat) : Int)) - 1) : Nat) : Int)) ∧
      nilc (slA A19 1 (Int.toNat ((k21 : Nat) : Int)) 1) fun k28 k29 =>
      exI (Mem.ld M27 ⟨k28, (k29 + (Int.toNat n26)), none⟩) .i64 fun n30 =>
      exP (Mem.ld M27 ⟨b0, (o0 + 1), none⟩) fun A31 =>
      ACalls Try.prog 29 #[(.pointer A31), (.int .i64 n30)] M27 (fun v32 M33 =>
      exB (some v32) fun t34 =>
      ∃ k35 : Nat, (k35 < k24) ∧
      I22 k35 [(.int .i64 (IntKind.wrap .i64 (n26 + 1)))] M33) Kp)
     (((0 : Int) ≤ 0) ∧
      ((0 : Int) < ((k20 : Nat) : Int)) ∧
      nilc A19 fun k36 k37 =>
      exI (Mem.ld M27 ⟨k36, (k37 + 0), none⟩) .i64 fun n38 =>
      K (.tuple #[(.int .i64 n38), (.bool true)]) M27)) Kp) Kp) Kp)) Kp)) :
  ACalls Try.prog 62 ([.pointer (some ⟨b0, o0, none⟩), .pointer (some ⟨b1, o1, none⟩)] : List Value).toArray M K Kp :=
  acalls_vc (C := Cx) good [(8, .reg [0, 1, 3, 7, 0, 0, 32, 112, 0, 256, 768, 1792, 3840, 0, 8192, 24576, 57344, 130816, 261888, 524032, 1048560, 2097151, 4194303] (.step 0 (.step 1 (.step 2 (.step 4 (.step 5 (.step 6 (.step 7 (.step 8 (.step 9 (.step 10 (.step 13 (.step 14 (.step 15 (.step 11 (.prom 3 (.prom 16 (.step 12 (.step 17 (.step 18 (.step 19 (.step 20 (.step 21 (.step 22 .done)))))))))))))))))))))))), (2000000, .loop [(56, .c (.int .i64))])] Try.func62 (by kernel_rfl) (by kernel_rfl) h

theorem vc_local_Local_List {b0 o0 : Nat} {M : Mem} {K : Value → Mem → Prop} {Kp : List PanicEntry → Mem → Prop} (h :
exP (Mem.ld M ⟨b0, (o0 + 1), none⟩) fun A1 =>
ACalls Try.prog 43 #[(.pointer A1)] M (fun v2 M3 =>
exSl (some v2) fun A4 k5 k6 =>
K (.slice A4 k5 k6) M3) Kp) :
  ACalls Try.prog 63 ([.pointer (some ⟨b0, o0, none⟩)] : List Value).toArray M K Kp :=
  acalls_vc (C := Cx) good [] Try.func63 (by kernel_rfl) (by kernel_rfl) h

theorem vc_shunterlaw08_made {x0_0 : Int} {x0_1 : Int} {x0_2 : Int} {x0_3 : Int} {M : Mem} {K : Value → Mem → Prop} {Kp : List PanicEntry → Mem → Prop} (h :
nwc M (.cells #[(.int .i64 x0_0), (.int .i64 x0_1), (.int .i64 x0_2), (.int .i64 x0_3)] 129 (0, 0)) fun k1 M2 =>
nwc M2 (.cells #[(.slice none 0 0)] 104 (0, 0)) fun k3 M4 =>
nwc M4 (.cells #[(.slice none 0 0), (.pointer (some ⟨k3, 0, none⟩)), (.slice none 0 0), (.slice none 0 0), (.int .i64 0), (.slice none 0 0)] 140 (0, 0)) fun k5 M6 =>
exI (Mem.ld M6 ⟨k1, 0, none⟩) .i64 fun n7 =>
exI (Mem.ld M6 ⟨k1, (0 + 1), none⟩) .i64 fun n8 =>
exI (Mem.ld M6 ⟨k1, (0 + 2), none⟩) .i64 fun n9 =>
exI (Mem.ld M6 ⟨k1, (0 + 3), none⟩) .i64 fun n10 =>
∃ I11 : Nat → List Value → Mem → Prop, (∃ k12 : Nat, I11 k12 [(.int .i64 0)] M6) ∧
∀ k13 : Nat, ∀ junk14 : Nat → Value, ∀ n15 : Int, ∀ M16 : Mem, (I11 k13 [(.int .i64 n15)] M16) → bsp (decide ((n15 : Int) < 4))
 (((0 : Int) ≤ n15) ∧
  ((n15 : Int) < 4) ∧
  exI (Decidable.rec (fun h => (fun h => none) h)
  (fun h =>
    (fun h =>
        some
          #[Value.int IntKind.i64 n7, Value.int IntKind.i64 n8, Value.int IntKind.i64 n9,
              Value.int IntKind.i64 n10][n15.toNat])
      h)
  (n15.toNat.decLt
    #[Value.int IntKind.i64 n7, Value.int IntKind.i64 n8, Value.int IntKind.i64 n9, Value.int IntKind.i64 n10].size)) .i64 fun n17 =>
  exSl (Mem.ld M16 ⟨k5, 0, none⟩) fun A18 k19 k20 =>
  exSl (Mem.ld M16 ⟨k5, (0 + 2), none⟩) fun A21 k22 k23 =>
  ACalls Try.prog 56 #[(.int .i64 n17)] M16 (fun v24 M25 =>
  exP (some v24) fun A26 =>
  ((Mem.ld M25 ⟨k5, (0 + 2), none⟩) = (some (.slice A21 k22 k23))) ∧
  ((Mem.ld M25 ⟨k5, 0, none⟩) = (some (.slice A18 k19 k20))) ∧
  nwc M25 (.cells #[(.pointer A26)] 101 (0, 0)) fun k27 M28 =>
  semK Try.prog (Go.Builtin.append_ #[137, 137] 137 #[(.slice A18 k19 k20), (.slice (some ⟨k27, 0, none⟩) 1 1)]) M28 (fun v29 M30 =>
  exSl (some v29) fun A31 k32 k33 =>
  ((Mem.ld M30 ⟨k5, (0 + 2), none⟩) = (some (.slice A21 k22 k23))) ∧
  ((Mem.ld M30 ⟨k5, 0, none⟩) = (some (.slice A18 k19 k20))) ∧
  ACalls Try.prog 95 #[(.int .i64 n17)] M30 (fun v34 M35 =>
  ∃ n36 : Int, ∃ A37 : Option Addr, ∃ k38 : Nat, ∃ k39 : Nat, ∃ n40 : Int, (v34 = (.agg #[(.int .i64 n36), (.slice A37 k38 k39), (.int .i64 n40)])) ∧
  ((Mem.ld M35 ⟨k5, (0 + 2), none⟩) = (some (.slice A21 k22 k23))) ∧
  ((Mem.ld M35 ⟨k5, 0, none⟩) = (some (.slice A18 k19 k20))) ∧
  nwc M35 (.cells #[(.int .i64 n36), (.slice A37 k38 k39), (.int .i64 n40)] 172 (0, 0)) fun k41 M42 =>
  semK Try.prog (Go.Builtin.append_ #[138, 138] 138 #[(.slice A21 k22 k23), (.slice (some ⟨k41, 0, none⟩) 1 1)]) M42 (fun v43 M44 =>
  exSl (some v43) fun A45 k46 k47 =>
  ((Mem.ld M44 ⟨k5, (0 + 2), none⟩) = (some (.slice A21 k22 k23))) ∧
  ((Mem.ld M44 ⟨k5, 0, none⟩) = (some (.slice A18 k19 k20))) ∧
  stc M44 ⟨k5, 0, none⟩ (.slice A31 k32 k33) fun M48 =>
  ((Mem.ld M48 ⟨k5, (0 + 2), none⟩) = (some (.slice A21 k22 k23))) ∧
  ((Mem.ld M48 ⟨k5, 0, none⟩) = (some (.slice A18 k19 k20))) ∧
  stc M48 ⟨k5, (0 + 2), none⟩ (.slice A45 k46 k47) fun M49 =>
  ((Mem.ld M49 ⟨k5, (0 + 2), none⟩) = (some (.slice A21 k22 k23))) ∧
  ((Mem.ld M49 ⟨k5, 0, none⟩) = (some (.slice A18 k19 k20))) ∧
  ∃ k50 : Nat, (k50 < k13) ∧
  I11 k50 [(.int .i64 (IntKind.wrap .i64 (n15 + 1)))] M49) Kp) Kp) Kp) Kp)
 (K (.pointer (some ⟨k5, 0, none⟩)) M16)) :
  ACalls Try.prog 74 ([.agg #[.int .i64 x0_0, .int .i64 x0_1, .int .i64 x0_2, .int .i64 x0_3]] : List Value).toArray M K Kp :=
  acalls_vc (C := Cx) good [(2000000, .loop [(11, .c (.int .i64))]), (5, .reg [0, 0, 0, 4, 12, 28, 0, 64, 192, 508, 0, 1024, 3072, 7168, 0, 17404, 50172, 131068, 262141, 524285, 1048573, 2097151, 4194303, 8388607] (.step 0 (.step 1 (.step 2 (.step 3 (.step 4 (.step 6 (.step 10 (.step 11 (.step 12 (.step 14 (.prom 5 (.prom 13 (.step 7 (.step 8 (.step 9 (.step 15 (.step 16 (.step 17 (.step 18 (.step 19 (.step 20 (.step 21 (.step 22 (.step 23 .done)))))))))))))))))))))))))] Try.func74 (by kernel_rfl) (by kernel_rfl) h

theorem vc_shunterlaw08_world_does {b0 o0 : Nat} {x1_0 : Int} {x1_1 : Int} {x1_2 : Int} {M : Mem} {K : Value → Mem → Prop} {Kp : List PanicEntry → Mem → Prop} (h :
nwc M (.cells #[(.int .i64 x1_0), (.int .i64 x1_1), (.int .i64 x1_2)] 135 (0, 0)) fun k1 M2 =>
exI (Mem.ld M2 ⟨k1, (0 + 1), none⟩) .i64 fun n3 =>
exI (Mem.ld M2 ⟨k1, (0 + 2), none⟩) .i64 fun n4 =>
exI (Mem.ld M2 ⟨k1, 0, none⟩) .i64 fun n5 =>
((10 : Int) ≠ 0) ∧
bsp ((Int.tmod (IntKind.wrap .i64 (((Nat.bitwise and (BitVec.ofInt IntKind.i64.bits n5).toNat (BitVec.ofInt IntKind.i64.bits 255).toNat) : Nat) : Int)) 10) == 0)
 (exSl (Mem.ld M2 ⟨b0, o0, none⟩) fun A6 k7 k8 =>
  ((0 : Int) ≤ (IntKind.wrap .i64 (((Nat.bitwise and (BitVec.ofInt IntKind.i64.bits n3).toNat (BitVec.ofInt IntKind.i64.bits 3).toNat) : Nat) : Int))) ∧
  (((IntKind.wrap .i64 (((Nat.bitwise and (BitVec.ofInt IntKind.i64.bits n3).toNat (BitVec.ofInt IntKind.i64.bits 3).toNat) : Nat) : Int)) : Int) < ((k7 : Nat) : Int)) ∧
  nilc A6 fun k9 k10 =>
  exP (Mem.ld M2 ⟨k9, (k10 + (Int.toNat (IntKind.wrap .i64 (((Nat.bitwise and (BitVec.ofInt IntKind.i64.bits n3).toNat (BitVec.ofInt IntKind.i64.bits 3).toNat) : Nat) : Int)))), none⟩) fun A11 =>
  exI (Mem.ld M2 ⟨b0, (o0 + 4), none⟩) .i64 fun n12 =>
  exP (Mem.ld M2 ⟨b0, (o0 + 1), none⟩) fun A13 =>
  ACalls Try.prog 58 #[(.pointer A11), (.int .i64 n12), (.pointer A13)] M2 (fun v14 M15 =>
  exI (some v14) .i64 fun n16 =>
  exSl (Mem.ld M15 ⟨b0, (o0 + 2), none⟩) fun A17 k18 k19 =>
  ((0 : Int) ≤ (IntKind.wrap .i64 (((Nat.bitwise and (BitVec.ofInt IntKind.i64.bits n3).toNat (BitVec.ofInt IntKind.i64.bits 3).toNat) : Nat) : Int))) ∧
  (((IntKind.wrap .i64 (((Nat.bitwise and (BitVec.ofInt IntKind.i64.bits n3).toNat (BitVec.ofInt IntKind.i64.bits 3).toNat) : Nat) : Int)) : Int) < ((k18 : Nat) : Int)) ∧
  nilc A17 fun k20 k21 =>
  exI (Mem.ld M15 ⟨k20, (k21 + ((Int.toNat (IntKind.wrap .i64 (((Nat.bitwise and (BitVec.ofInt IntKind.i64.bits n3).toNat (BitVec.ofInt IntKind.i64.bits 3).toNat) : Nat) : Int))) * 3)), none⟩) .i64 fun n22 =>
  exSl (Mem.ld M15 ⟨k20, ((k21 + ((Int.toNat (IntKind.wrap .i64 (((Nat.bitwise and (BitVec.ofInt IntKind.i64.bits n3).toNat (BitVec.ofInt IntKind.i64.bits 3).toNat) : Nat) : Int))) * 3)) + 1), none⟩) fun A23 k24 k25 =>
  exI (Mem.ld M15 ⟨k20, ((k21 + ((Int.toNat (IntKind.wrap .i64 (((Nat.bitwise and (BitVec.ofInt IntKind.i64.bits n3).toNat (BitVec.ofInt IntKind.i64.bits 3).toNat) : Nat) : Int))) * 3)) + 2), none⟩) .i64 fun n26 =>
  exI (Mem.ld M15 ⟨b0, (o0 + 4), none⟩) .i64 fun n27 =>
  exSl (Mem.ld M15 ⟨b0, (o0 + 3), none⟩) fun A28 k29 k30 =>
  exSl (Mem.ld M15 ⟨b0, (o0 + 2), none⟩) fun A31 k32 k33 =>
  ACalls Try.prog 96 #[(.agg #[(.int .i64 n22), (.slice A23 k24 k25), (.int .i64 n26)]), (.int .i64 n27), (.slice A28 k29 k30)] M15 (fun v34 M35 =>
  ∃ n36 : Int, ∃ A37 : Option Addr, ∃ k38 : Nat, ∃ k39 : Nat, ∃ n40 : Int, ∃ A41 : Option Addr, ∃ k42 : Nat, ∃ k43 : Nat, ∃ n44 : Int, (v34 = (.tuple #[(.agg #[(.int .i64 n36), (.slice A37 k38 k39), (.int .i64 n40)]), (.slice A41 k42 k43), (.int .i64 n44)])) ∧
  ((Mem.ld M35 ⟨b0, (o0 + 2), none⟩) = (some (.slice A31 k32 k33))) ∧
  ((0 : Int) ≤ (IntKind.wrap .i64 (((Nat.bitwise and (BitVec.ofInt IntKind.i64.bits n3).toNat (BitVec.ofInt IntKind.i64.bits 3).toNat) : Nat) : Int))) ∧
  (((IntKind.wrap .i64 (((Nat.bitwise and (BitVec.ofInt IntKind.i64.bits n3).toNat (BitVec.ofInt IntKind.i64.bits 3).toNat) : Nat) : Int)) : Int) < ((k32 : Nat) : Int)) ∧
  nilc A31 fun k45 k46 =>
  stc M35 ⟨k45, (k46 + ((Int.toNat (IntKind.wrap .i64 (((Nat.bitwise and (BitVec.ofInt IntKind.i64.bits n3).toNat (BitVec.ofInt IntKind.i64.bits 3).toNat) : Nat) : Int))) * 3)), none⟩ (.int .i64 n36) fun M47 =>
  stc M47 ⟨k45, ((k46 + ((Int.toNat (IntKind.wrap .i64 (((Nat.bitwise and (BitVec.ofInt IntKind.i64.bits n3).toNat (BitVec.ofInt IntKind.i64.bits 3).toNat) : Nat) : Int))) * 3)) + 1), none⟩ (.slice A37 k38 k39) fun M48 =>
  stc M48 ⟨k45, ((k46 + ((Int.toNat (IntKind.wrap .i64 (((Nat.bitwise and (BitVec.ofInt IntKind.i64.bits n3).toNat (BitVec.ofInt IntKind.i64.bits 3).toNat) : Nat) : Int))) * 3)) + 2), none⟩ (.int .i64 n40) fun M49 =>
  ((Mem.ld M49 ⟨b0, (o0 + 2), none⟩) = (some (.slice A31 k32 k33))) ∧
  stc M49 ⟨b0, (o0 + 3), none⟩ (.slice A41 k42 k43) fun M50 =>
  ((Mem.ld M50 ⟨b0, (o0 + 2), none⟩) = (some (.slice A31 k32 k33))) ∧
  exI (Mem.ld M50 ⟨b0, (o0 + 4), none⟩) .i64 fun n51 =>
  stc M50 ⟨b0, (o0 + 4), none⟩ (.int .i64 (IntKind.wrap .i64 (n51 + 1))) fun M52 =>
  K (.bool (n16 == n44)) M52) Kp) Kp)
 (bsp ((Int.tmod (IntKind.wrap .i64 (((Nat.bitwise and (BitVec.ofInt IntKind.i64.bits n5).toNat (BitVec.ofInt IntKind.i64.bits 255).toNat) : Nat) : Int)) 10) == 1)
   (exSl (Mem.ld M2 ⟨b0, o0, none⟩) fun A53 k54 k55 =>
    ((0 : Int) ≤ (IntKind.wrap .i64 (((Nat.bitwise and (BitVec.ofInt IntKind.i64.bits n3).toNat (BitVec.ofInt IntKind.i64.bits 3).toNat) : Nat) : Int))) ∧
    (((IntKind.wrap .i64 (((Nat.bitwise and (BitVec.ofInt IntKind.i64.bits n3).toNat (BitVec.ofInt IntKind.i64.bits 3).toNat) : Nat) : Int)) : Int) < ((k54 : Nat) : Int)) ∧
    nilc A53 fun k56 k57 =>
    exP (Mem.ld M2 ⟨k56, (k57 + (Int.toNat (IntKind.wrap .i64 (((Nat.bitwise and (BitVec.ofInt IntKind.i64.bits n3).toNat (BitVec.ofInt IntKind.i64.bits 3).toNat) : Nat) : Int)))), none⟩) fun A58 =>
    exI (Mem.ld M2 ⟨b0, (o0 + 4), none⟩) .i64 fun n59 =>
    exP (Mem.ld M2 ⟨b0, (o0 + 1), none⟩) fun A60 =>
    ACalls Try.prog 58 #[(.pointer A58), (.int .i64 n59), (.pointer A60)] M2 (fun v61 M62 =>
    exI (some v61) .i64 fun n63 =>
    exSl (Mem.ld M62 ⟨b0, (o0 + 2), none⟩) fun A64 k65 k66 =>
    ((0 : Int) ≤ (IntKind.wrap .i64 (((Nat.bitwise and (BitVec.ofInt IntKind.i64.bits n3).toNat (BitVec.ofInt IntKind.i64.bits 3).toNat) : Nat) : Int))) ∧
    (((IntKind.wrap .i64 (((Nat.bitwise and (BitVec.ofInt IntKind.i64.bits n3).toNat (BitVec.ofInt IntKind.i64.bits 3).toNat) : Nat) : Int)) : Int) < ((k65 : Nat) : Int)) ∧
    nilc A64 fun k67 k68 =>
    exI (Mem.ld M62 ⟨k67, (k68 + ((Int.toNat (IntKind.wrap .i64 (((Nat.bitwise and (BitVec.ofInt IntKind.i64.bits n3).toNat (BitVec.ofInt IntKind.i64.bits 3).toNat) : Nat) : Int))) * 3)), none⟩) .i64 fun n69 =>
    exSl (Mem.ld M62 ⟨k67, ((k68 + ((Int.toNat (IntKind.wrap .i64 (((Nat.bitwise and (BitVec.ofInt IntKind.i64.bits n3).toNat (BitVec.ofInt IntKind.i64.bits 3).toNat) : Nat) : Int))) * 3)) + 1), none⟩) fun A70 k71 k72 =>
    exI (Mem.ld M62 ⟨k67, ((k68 + ((Int.toNat (IntKind.wrap .i64 (((Nat.bitwise and (BitVec.ofInt IntKind.i64.bits n3).toNat (BitVec.ofInt IntKind.i64.bits 3).toNat) : Nat) : Int))) * 3)) + 2), none⟩) .i64 fun n73 =>
    exI (Mem.ld M62 ⟨b0, (o0 + 4), none⟩) .i64 fun n74 =>
    exSl (Mem.ld M62 ⟨b0, (o0 + 3), none⟩) fun A75 k76 k77 =>
    exSl (Mem.ld M62 ⟨b0, (o0 + 2), none⟩) fun A78 k79 k80 =>
    ACalls Try.prog 96 #[(.agg #[(.int .i64 n69), (.slice A70 k71 k72), (.int .i64 n73)]), (.int .i64 n74), (.slice A75 k76 k77)] M62 (fun v81 M82 =>
    ∃ n83 : Int, ∃ A84 : Option Addr, ∃ k85 : Nat, ∃ k86 : Nat, ∃ n87 : Int, ∃ A88 : Option Addr, ∃ k89 : Nat, ∃ k90 : Nat, ∃ n91 : Int, (v81 = (.tuple #[(.agg #[(.int .i64 n83), (.slice A84 k85 k86), (.int .i64 n87)]), (.slice A88 k89 k90), (.int .i64 n91)])) ∧
    ((Mem.ld M82 ⟨b0, (o0 + 2), none⟩) = (some (.slice A78 k79 k80))) ∧
    ((0 : Int) ≤ (IntKind.wrap .i64 (((Nat.bitwise and (BitVec.ofInt IntKind.i64.bits n3).toNat (BitVec.ofInt IntKind.i64.bits 3).toNat) : Nat) : Int))) ∧
    (((IntKind.wrap .i64 (((Nat.bitwise and (BitVec.ofInt IntKind.i64.bits n3).toNat (BitVec.ofInt IntKind.i64.bits 3).toNat) : Nat) : Int)) : Int) < ((k79 : Nat) : Int)) ∧
    nilc A78 fun k92 k93 =>
    stc M82 ⟨k92, (k93 + ((Int.toNat (IntKind.wrap .i64 (((Nat.bitwise and (BitVec.ofInt IntKind.i64.bits n3).toNat (BitVec.ofInt IntKind.i64.bits 3).toNat) : Nat) : Int))) * 3)), none⟩ (.int .i64 n83) fun M94 =>
    stc M94 ⟨k92, ((k93 + ((Int.toNat (IntKind.wrap .i64 (((Nat.bitwise and (BitVec.ofInt IntKind.i64.bits n3).toNat (BitVec.ofInt IntKind.i64.bits 3).toNat) : Nat) : Int))) * 3)) + 1), none⟩ (.slice A84 k85 k86) fun M95 =>
    stc M95 ⟨k92, ((k93 + ((Int.toNat (IntKind.wrap .i64 (((Nat.bitwise and (BitVec.ofInt IntKind.i64.bits n3).toNat (BitVec.ofInt IntKind.i64.bits 3).toNat) : Nat) : Int))) * 3)) + 2), none⟩ (.int .i64 n87) fun M96 =>
    ((Mem.ld M96 ⟨b0, (o0 + 2), none⟩) = (some (.slice A78 k79 k80))) ∧
    stc M96 ⟨b0, (o0 + 3), none⟩ (.slice A88 k89 k90) fun M97 =>
    ((Mem.ld M97 ⟨b0, (o0 + 2), none⟩) = (some (.slice A78 k79 k80))) ∧
    exI (Mem.ld M97 ⟨b0, (o0 + 4), none⟩) .i64 fun n98 =>
    stc M97 ⟨b0, (o0 + 4), none⟩ (.int .i64 (IntKind.wrap .i64 (n98 + 1))) fun M99 =>
    K (.bool (n63 == n91)) M99) Kp) Kp)
   (bsp ((Int.tmod (IntKind.wrap .i64 (((Nat.bitwise and (BitVec.ofInt IntKind.i64.bits n5).toNat (BitVec.ofInt IntKind.i64.bits 255).toNat) : Nat) : Int)) 10) == 2)
     (exSl (Mem.ld M2 ⟨b0, o0, none⟩) fun A100 k101 k102 =>
      ((0 : Int) ≤ (IntKind.wrap .i64 (((Nat.bitwise and (BitVec.ofInt IntKind.i64.bits n3).toNat (BitVec.ofInt IntKind.i64.bits 3).toNat) : Nat) : Int))) ∧
      (((IntKind.wrap .i64 (((Nat.bitwise and (BitVec.ofInt IntKind.i64.bits n3).toNat (BitVec.ofInt IntKind.i64.bits 3).toNat) : Nat) : Int)) : Int) < ((k101 : Nat) : Int)) ∧
      nilc A100 fun k103 k104 =>
      exP (Mem.ld M2 ⟨k103, (k104 + (Int.toNat (IntKind.wrap .i64 (((Nat.bitwise and (BitVec.ofInt IntKind.i64.bits n3).toNat (BitVec.ofInt IntKind.i64.bits 3).toNat) : Nat) : Int)))), none⟩) fun A105 =>
      exI (Mem.ld M2 ⟨b0, (o0 + 4), none⟩) .i64 fun n106 =>
      exP (Mem.ld M2 ⟨b0, (o0 + 1), none⟩) fun A107 =>
      ACalls Try.prog 57 #[(.pointer A105), (.int .i64 n106), (.pointer A107)] M2 (fun v108 M109 =>
      exI (some v108) .i64 fun n110 =>
      exSl (Mem.ld M109 ⟨b0, (o0 + 2), none⟩) fun A111 k112 k113 =>
      ((0 : Int) ≤ (IntKind.wrap .i64 (((Nat.bitwise and (BitVec.ofInt IntKind.i64.bits n3).toNat (BitVec.ofInt IntKind.i64.bits 3).toNat) : Nat) : Int))) ∧
      (((IntKind.wrap .i64 (((Nat.bitwise and (BitVec.ofInt IntKind.i64.bits n3).toNat (BitVec.ofInt IntKind.i64.bits 3).toNat) : Nat) : Int)) : Int) < ((k112 : Nat) : Int)) ∧
      nilc A111 fun k114 k115 =>
      exI (Mem.ld M109 ⟨k114, (k115 + ((Int.toNat (IntKind.wrap .i64 (((Nat.bitwise and (BitVec.ofInt IntKind.i64.bits n3).toNat (BitVec.ofInt IntKind.i64.bits 3).toNat) : Nat) : Int))) * 3)), none⟩) .i64 fun n116 =>
      exSl (Mem.ld M109 ⟨k114, ((k115 + ((Int.toNat (IntKind.wrap .i64 (((Nat.bitwise and (BitVec.ofInt IntKind.i64.bits n3).toNat (BitVec.ofInt IntKind.i64.bits 3).toNat) : Nat) : Int))) * 3)) + 1), none⟩) fun A117 k118 k119 =>
      exI (Mem.ld M109 ⟨k114, ((k115 + ((Int.toNat (IntKind.wrap .i64 (((Nat.bitwise and (BitVec.ofInt IntKind.i64.bits n3).toNat (BitVec.ofInt IntKind.i64.bits 3).toNat) : Nat) : Int))) * 3)) + 2), none⟩) .i64 fun n120 =>
      exI (Mem.ld M109 ⟨b0, (o0 + 4), none⟩) .i64 fun n121 =>
      exSl (Mem.ld M109 ⟨b0, (o0 + 3), none⟩) fun A122 k123 k124 =>
      exSl (Mem.ld M109 ⟨b0, (o0 + 2), none⟩) fun A125 k126 k127 =>
      ACalls Try.prog 97 #[(.agg #[(.int .i64 n116), (.slice A117 k118 k119), (.int .i64 n120)]), (.int .i64 n121), (.slice A122 k123 k124)] M109 (fun v128 M129 =>
      ∃ n130 : Int, ∃ A131 : Option Addr, ∃ k132 : Nat, ∃ k133 : Nat, ∃ n134 : Int, ∃ A135 : Option Addr, ∃ k136 : Nat, ∃ k137 : Nat, ∃ n138 : Int, (v128 = (.tuple #[(.agg #[(.int .i64 n130), (.slice A131 k132 k133), (.int .i64 n134)]), (.slice A135 k136 k137), (.int .i64 n138)])) ∧
      ((Mem.ld M129 ⟨b0, (o0 + 2), none⟩) = (some (.slice A125 k126 k127))) ∧
      ((0 : Int) ≤ (IntKind.wrap .i64 (((Nat.bitwise and (BitVec.ofInt IntKind.i64.bits n3).toNat (BitVec.ofInt IntKind.i64.bits 3).toNat) : Nat) : Int))) ∧
      (((IntKind.wrap .i64 (((Nat.bitwise and (BitVec.ofInt IntKind.i64.bits n3).toNat (BitVec.ofInt IntKind.i64.bits 3).toNat) : Nat) : Int)) : Int) < ((k126 : Nat) : Int)) ∧
      nilc A125 fun k139 k140 =>
      stc M129 ⟨k139, (k140 + ((Int.toNat (IntKind.wrap .i64 (((Nat.bitwise and (BitVec.ofInt IntKind.i64.bits n3).toNat (BitVec.ofInt IntKind.i64.bits 3).toNat) : Nat) : Int))) * 3)), none⟩ (.int .i64 n130) fun M141 =>
      stc M141 ⟨k139, ((k140 + ((Int.toNat (IntKind.wrap .i64 (((Nat.bitwise and (BitVec.ofInt IntKind.i64.bits n3).toNat (BitVec.ofInt IntKind.i64.bits 3).toNat) : Nat) : Int))) * 3)) + 1), none⟩ (.slice A131 k132 k133) fun M142 =>
      stc M142 ⟨k139, ((k140 + ((Int.toNat (IntKind.wrap .i64 (((Nat.bitwise and (BitVec.ofInt IntKind.i64.bits n3).toNat (BitVec.ofInt IntKind.i64.bits 3).toNat) : Nat) : Int))) * 3)) + 2), none⟩ (.int .i64 n134) fun M143 =>
      ((Mem.ld M143 ⟨b0, (o0 + 2), none⟩) = (some (.slice A125 k126 k127))) ∧
      stc M143 ⟨b0, (o0 + 3), none⟩ (.slice A135 k136 k137) fun M144 =>
      ((Mem.ld M144 ⟨b0, (o0 + 2), none⟩) = (some (.slice A125 k126 k127))) ∧
      exI (Mem.ld M144 ⟨b0, (o0 + 4), none⟩) .i64 fun n145 =>
      stc M144 ⟨b0, (o0 + 4), none⟩ (.int .i64 (IntKind.wrap .i64 (n145 + 1))) fun M146 =>
      K (.bool (n110 == n138)) M146) Kp) Kp)
     (bsp ((Int.tmod (IntKind.wrap .i64 (((Nat.bitwise and (BitVec.ofInt IntKind.i64.bits n5).toNat (BitVec.ofInt IntKind.i64.bits 255).toNat) : Nat) : Int)) 10) == 3)
       (exSl (Mem.ld M2 ⟨b0, o0, none⟩) fun A147 k148 k149 =>
        ((0 : Int) ≤ (IntKind.wrap .i64 (((Nat.bitwise and (BitVec.ofInt IntKind.i64.bits n3).toNat (BitVec.ofInt IntKind.i64.bits 3).toNat) : Nat) : Int))) ∧
        (((IntKind.wrap .i64 (((Nat.bitwise and (BitVec.ofInt IntKind.i64.bits n3).toNat (BitVec.ofInt IntKind.i64.bits 3).toNat) : Nat) : Int)) : Int) < ((k148 : Nat) : Int)) ∧
        nilc A147 fun k150 k151 =>
        exP (Mem.ld M2 ⟨k150, (k151 + (Int.toNat (IntKind.wrap .i64 (((Nat.bitwise and (BitVec.ofInt IntKind.i64.bits n3).toNat (BitVec.ofInt IntKind.i64.bits 3).toNat) : Nat) : Int)))), none⟩) fun A152 =>
        exI (Mem.ld M2 ⟨b0, (o0 + 4), none⟩) .i64 fun n153 =>
        exP (Mem.ld M2 ⟨b0, (o0 + 1), none⟩) fun A154 =>
        ACalls Try.prog 57 #[(.pointer A152), (.int .i64 n153), (.pointer A154)] M2 (fun v155 M156 =>
        exI (some v155) .i64 fun n157 =>
        exSl (Mem.ld M156 ⟨b0, (o0 + 2), none⟩) fun A158 k159 k160 =>
        ((0 : Int) ≤ (IntKind.wrap .i64 (((Nat.bitwise and (BitVec.ofInt IntKind.i64.bits n3).toNat (BitVec.ofInt IntKind.i64.bits 3).toNat) : Nat) : Int))) ∧
        (((IntKind.wrap .i64 (((Nat.bitwise and (BitVec.ofInt IntKind.i64.bits n3).toNat (BitVec.ofInt IntKind.i64.bits 3).toNat) : Nat) : Int)) : Int) < ((k159 : Nat) : Int)) ∧
        nilc A158 fun k161 k162 =>
        exI (Mem.ld M156 ⟨k161, (k162 + ((Int.toNat (IntKind.wrap .i64 (((Nat.bitwise and (BitVec.ofInt IntKind.i64.bits n3).toNat (BitVec.ofInt IntKind.i64.bits 3).toNat) : Nat) : Int))) * 3)), none⟩) .i64 fun n163 =>
        exSl (Mem.ld M156 ⟨k161, ((k162 + ((Int.toNat (IntKind.wrap .i64 (((Nat.bitwise and (BitVec.ofInt IntKind.i64.bits n3).toNat (BitVec.ofInt IntKind.i64.bits 3).toNat) : Nat) : Int))) * 3)) + 1), none⟩) fun A164 k165 k166 =>
        exI (Mem.ld M156 ⟨k161, ((k162 + ((Int.toNat (IntKind.wrap .i64 (((Nat.bitwise and (BitVec.ofInt IntKind.i64.bits n3).toNat (BitVec.ofInt IntKind.i64.bits 3).toNat) : Nat) : Int))) * 3)) + 2), none⟩) .i64 fun n167 =>
        exI (Mem.ld M156 ⟨b0, (o0 + 4), none⟩) .i64 fun n168 =>
        exSl (Mem.ld M156 ⟨b0, (o0 + 3), none⟩) fun A169 k170 k171 =>
        exSl (Mem.ld M156 ⟨b0, (o0 + 2), none⟩) fun A172 k173 k174 =>
        ACalls Try.prog 97 #[(.agg #[(.int .i64 n163), (.slice A164 k165 k166), (.int .i64 n167)]), (.int .i64 n168), (.slice A169 k170 k171)] M156 (fun v175 M176 =>
        ∃ n177 : Int, ∃ A178 : Option Addr, ∃ k179 : Nat, ∃ k180 : Nat, ∃ n181 : Int, ∃ A182 : Option Addr, ∃ k183 : Nat, ∃ k184 : Nat, ∃ n185 : Int, (v175 = (.tuple #[(.agg #[(.int .i64 n177), (.slice A178 k179 k180), (.int .i64 n181)]), (.slice A182 k183 k184), (.int .i64 n185)])) ∧
        ((Mem.ld M176 ⟨b0, (o0 + 2), none⟩) = (some (.slice A172 k173 k174))) ∧
        ((0 : Int) ≤ (IntKind.wrap .i64 (((Nat.bitwise and (BitVec.ofInt IntKind.i64.bits n3).toNat (BitVec.ofInt IntKind.i64.bits 3).toNat) : Nat) : Int))) ∧
        (((IntKind.wrap .i64 (((Nat.bitwise and (BitVec.ofInt IntKind.i64.bits n3).toNat (BitVec.ofInt IntKind.i64.bits 3).toNat) : Nat) : Int)) : Int) < ((k173 : Nat) : Int)) ∧
        nilc A172 fun k186 k187 =>
        stc M176 ⟨k186, (k187 + ((Int.toNat (IntKind.wrap .i64 (((Nat.bitwise and (BitVec.ofInt IntKind.i64.bits n3).toNat (BitVec.ofInt IntKind.i64.bits 3).toNat) : Nat) : Int))) * 3)), none⟩ (.int .i64 n177) fun M188 =>
        stc M188 ⟨k186, ((k187 + ((Int.toNat (IntKind.wrap .i64 (((Nat.bitwise and (BitVec.ofInt IntKind.i64.bits n3).toNat (BitVec.ofInt IntKind.i64.bits 3).toNat) : Nat) : Int))) * 3)) + 1), none⟩ (.slice A178 k179 k180) fun M189 =>
        stc M189 ⟨k186, ((k187 + ((Int.toNat (IntKind.wrap .i64 (((Nat.bitwise and (BitVec.ofInt IntKind.i64.bits n3).toNat (BitVec.ofInt IntKind.i64.bits 3).toNat) : Nat) : Int))) * 3)) + 2), none⟩ (.int .i64 n181) fun M190 =>
        ((Mem.ld M190 ⟨b0, (o0 + 2), none⟩) = (some (.slice A172 k173 k174))) ∧
        stc M190 ⟨b0, (o0 + 3), none⟩ (.slice A182 k183 k184) fun M191 =>
        ((Mem.ld M191 ⟨b0, (o0 + 2), none⟩) = (some (.slice A172 k173 k174))) ∧
        exI (Mem.ld M191 ⟨b0, (o0 + 4), none⟩) .i64 fun n192 =>
        stc M191 ⟨b0, (o0 + 4), none⟩ (.int .i64 (IntKind.wrap .i64 (n192 + 1))) fun M193 =>
        K (.bool (n157 == n185)) M193) Kp) Kp)
       (bsp ((Int.tmod (IntKind.wrap .i64 (((Nat.bitwise and (BitVec.ofInt IntKind.i64.bits n5).toNat (BitVec.ofInt IntKind.i64.bits 255).toNat) : Nat) : Int)) 10) == 4)
         (exSl (Mem.ld M2 ⟨b0, o0, none⟩) fun A194 k195 k196 =>
          ((0 : Int) ≤ (IntKind.wrap .i64 (((Nat.bitwise and (BitVec.ofInt IntKind.i64.bits n3).toNat (BitVec.ofInt IntKind.i64.bits 3).toNat) : Nat) : Int))) ∧
          (((IntKind.wrap .i64 (((Nat.bitwise and (BitVec.ofInt IntKind.i64.bits n3).toNat (BitVec.ofInt IntKind.i64.bits 3).toNat) : Nat) : Int)) : Int) < ((k195 : Nat) : Int)) ∧
          nilc A194 fun k197 k198 =>
          exP (Mem.ld M2 ⟨k197, (k198 + (Int.toNat (IntKind.wrap .i64 (((Nat.bitwise and (BitVec.ofInt IntKind.i64.bits n3).toNat (BitVec.ofInt IntKind.i64.bits 3).toNat) : Nat) : Int)))), none⟩) fun A199 =>
          ACalls Try.prog 59 #[(.pointer A199)] M2 (fun v200 M201 =>
          ∃ n202 : Int, ∃ t203 : Bool, (v200 = (.tuple #[(.int .i64 n202), (.bool t203)])) ∧
          exSl (Mem.ld M201 ⟨b0, (o0 + 2), none⟩) fun A204 k205 k206 =>
          ((0 : Int) ≤ (IntKind.wrap .i64 (((Nat.bitwise and (BitVec.ofInt IntKind.i64.bits n3).toNat (BitVec.ofInt IntKind.i64.bits 3).toNat) : Nat) : Int))) ∧
          (((IntKind.wrap .i64 (((Nat.bitwise and (BitVec.ofInt IntKind.i64.bits n3).toNat (BitVec.ofInt IntKind.i64.bits 3).toNat) : Nat) : Int)) : Int) < ((k205 : Nat) : Int)) ∧
          nilc A204 fun k207 k208 =>
          exI (Mem.ld M201 ⟨k207, (k208 + ((Int.toNat (IntKind.wrap .i64 (((Nat.bitwise and (BitVec.ofInt IntKind.i64.bits n3).toNat (BitVec.ofInt IntKind.i64.bits 3).toNat) : Nat) : Int))) * 3)), none⟩) .i64 fun n209 =>
          exSl (Mem.ld M201 ⟨k207, ((k208 + ((Int.toNat (IntKind.wrap .i64 (((Nat.bitwise and (BitVec.ofInt IntKind.i64.bits n3).toNat (BitVec.ofInt IntKind.i64.bits 3).toNat) : Nat) : Int))) * 3)) + 1), none⟩) fun A210 k211 k212 =>
          exI (Mem.ld M201 ⟨k207, ((k208 + ((Int.toNat (IntKind.wrap .i64 (((Nat.bitwise and (BitVec.ofInt IntKind.i64.bits n3).toNat (BitVec.ofInt IntKind.i64.bits 3).toNat) : Nat) : Int))) * 3)) + 2), none⟩) .i64 fun n213 =>
          exSl (Mem.ld M201 ⟨b0, (o0 + 2), none⟩) fun A214 k215 k216 =>
          ACalls Try.prog 98 #[(.agg #[(.int .i64 n209), (.slice A210 k211 k212), (.int .i64 n213)])] M201 (fun v217 M218 =>
          ∃ n219 : Int, ∃ A220 : Option Addr, ∃ k221 : Nat, ∃ k222 : Nat, ∃ n223 : Int, ∃ n224 : Int, (v217 = (.tuple #[(.agg #[(.int .i64 n219), (.slice A220 k221 k222), (.int .i64 n223)]), (.int .i64 n224)])) ∧
          ((Mem.ld M218 ⟨b0, (o0 + 2), none⟩) = (some (.slice A214 k215 k216))) ∧
          ((0 : Int) ≤ (IntKind.wrap .i64 (((Nat.bitwise and (BitVec.ofInt IntKind.i64.bits n3).toNat (BitVec.ofInt IntKind.i64.bits 3).toNat) : Nat) : Int))) ∧
          (((IntKind.wrap .i64 (((Nat.bitwise and (BitVec.ofInt IntKind.i64.bits n3).toNat (BitVec.ofInt IntKind.i64.bits 3).toNat) : Nat) : Int)) : Int) < ((k215 : Nat) : Int)) ∧
          nilc A214 fun k225 k226 =>
          stc M218 ⟨k225, (k226 + ((Int.toNat (IntKind.wrap .i64 (((Nat.bitwise and (BitVec.ofInt IntKind.i64.bits n3).toNat (BitVec.ofInt IntKind.i64.bits 3).toNat) : Nat) : Int))) * 3)), none⟩ (.int .i64 n219) fun M227 =>
          stc M227 ⟨k225, ((k226 + ((Int.toNat (IntKind.wrap .i64 (((Nat.bitwise and (BitVec.ofInt IntKind.i64.bits n3).toNat (BitVec.ofInt IntKind.i64.bits 3).toNat) : Nat) : Int))) * 3)) + 1), none⟩ (.slice A220 k221 k222) fun M228 =>
          stc M228 ⟨k225, ((k226 + ((Int.toNat (IntKind.wrap .i64 (((Nat.bitwise and (BitVec.ofInt IntKind.i64.bits n3).toNat (BitVec.ofInt IntKind.i64.bits 3).toNat) : Nat) : Int))) * 3)) + 2), none⟩ (.int .i64 n223) fun M229 =>
          ((Mem.ld M229 ⟨b0, (o0 + 2), none⟩) = (some (.slice A214 k215 k216))) ∧
          ACalls Try.prog 99 #[(.pointer (some ⟨b0, o0, none⟩)), (.int .i64 n202), (.bool t203), (.int .i64 n224)] M229 (fun v230 M231 =>
          exB (some v230) fun t232 =>
          K (.bool t232) M231) Kp) Kp) Kp)
         (bsp ((Int.tmod (IntKind.wrap .i64 (((Nat.bitwise and (BitVec.ofInt IntKind.i64.bits n5).toNat (BitVec.ofInt IntKind.i64.bits 255).toNat) : Nat) : Int)) 10) == 5)
           (exSl (Mem.ld M2 ⟨b0, o0, none⟩) fun A233 k234 k235 =>
            ((0 : Int) ≤ (IntKind.wrap .i64 (((Nat.bitwise and (BitVec.ofInt IntKind.i64.bits n3).toNat (BitVec.ofInt IntKind.i64.bits 3).toNat) : Nat) : Int))) ∧
            (((IntKind.wrap .i64 (((Nat.bitwise and (BitVec.ofInt IntKind.i64.bits n3).toNat (BitVec.ofInt IntKind.i64.bits 3).toNat) : Nat) : Int)) : Int) < ((k234 : Nat) : Int)) ∧
            nilc A233 fun k236 k237 =>
            exP (Mem.ld M2 ⟨k236, (k237 + (Int.toNat (IntKind.wrap .i64 (((Nat.bitwise and (BitVec.ofInt IntKind.i64.bits n3).toNat (BitVec.ofInt IntKind.i64.bits 3).toNat) : Nat) : Int)))), none⟩) fun A238 =>
            exP (Mem.ld M2 ⟨b0, (o0 + 1), none⟩) fun A239 =>
            exI (Mem.ld M2 ⟨k1, (0 + 2), none⟩) .i64 fun n240 =>
            ACalls Try.prog 100 #[(.pointer A238), (.pointer A239), (.int .i64 n240)] M2 (fun v241 M242 =>
            ∃ n243 : Int, ∃ t244 : Bool, (v241 = (.tuple #[(.int .i64 n243), (.bool t244)])) ∧
            exSl (Mem.ld M242 ⟨b0, (o0 + 2), none⟩) fun A245 k246 k247 =>
            ((0 : Int) ≤ (IntKind.wrap .i64 (((Nat.bitwise and (BitVec.ofInt IntKind.i64.bits n3).toNat (BitVec.ofInt IntKind.i64.bits 3).toNat) : Nat) : Int))) ∧
            (((IntKind.wrap .i64 (((Nat.bitwise and (BitVec.ofInt IntKind.i64.bits n3).toNat (BitVec.ofInt IntKind.i64.bits 3).toNat) : Nat) : Int)) : Int) < ((k246 : Nat) : Int)) ∧
            nilc A245 fun k248 k249 =>
            exI (Mem.ld M242 ⟨k248, (k249 + ((Int.toNat (IntKind.wrap .i64 (((Nat.bitwise and (BitVec.ofInt IntKind.i64.bits n3).toNat (BitVec.ofInt IntKind.i64.bits 3).toNat) : Nat) : Int))) * 3)), none⟩) .i64 fun n250 =>
            exSl (Mem.ld M242 ⟨k248, ((k249 + ((Int.toNat (IntKind.wrap .i64 (((Nat.bitwise and (BitVec.ofInt IntKind.i64.bits n3).toNat (BitVec.ofInt IntKind.i64.bits 3).toNat) : Nat) : Int))) * 3)) + 1), none⟩) fun A251 k252 k253 =>
            exI (Mem.ld M242 ⟨k248, ((k249 + ((Int.toNat (IntKind.wrap .i64 (((Nat.bitwise and (BitVec.ofInt IntKind.i64.bits n3).toNat (BitVec.ofInt IntKind.i64.bits 3).toNat) : Nat) : Int))) * 3)) + 2), none⟩) .i64 fun n254 =>
            exSl (Mem.ld M242 ⟨b0, (o0 + 3), none⟩) fun A255 k256 k257 =>
            exI (Mem.ld M242 ⟨k1, (0 + 2), none⟩) .i64 fun n258 =>
            exSl (Mem.ld M242 ⟨b0, (o0 + 2), none⟩) fun A259 k260 k261 =>
            ACalls Try.prog 101 #[(.agg #[(.int .i64 n250), (.slice A251 k252 k253), (.int .i64 n254)]), (.slice A255 k256 k257), (.int .i64 n258)] M242 (fun v262 M263 =>
            ∃ n264 : Int, ∃ A265 : Option Addr, ∃ k266 : Nat, ∃ k267 : Nat, ∃ n268 : Int, ∃ A269 : Option Addr, ∃ k270 : Nat, ∃ k271 : Nat, ∃ n272 : Int, (v262 = (.tuple #[(.agg #[(.int .i64 n264), (.slice A265 k266 k267), (.int .i64 n268)]), (.slice A269 k270 k271), (.int .i64 n272)])) ∧
            ((Mem.ld M263 ⟨b0, (o0 + 2), none⟩) = (some (.slice A259 k260 k261))) ∧
            ((0 : Int) ≤ (IntKind.wrap .i64 (((Nat.bitwise and (BitVec.ofInt IntKind.i64.bits n3).toNat (BitVec.ofInt IntKind.i64.bits 3).toNat) : Nat) : Int))) ∧
            (((IntKind.wrap .i64 (((Nat.bitwise and (BitVec.ofInt IntKind.i64.bits n3).toNat (BitVec.ofInt IntKind.i64.bits 3).toNat) : Nat) : Int)) : Int) < ((k260 : Nat) : Int)) ∧
            nilc A259 fun k273 k274 =>
            stc M263 ⟨k273, (k274 + ((Int.toNat (IntKind.wrap .i64 (((Nat.bitwise and (BitVec.ofInt IntKind.i64.bits n3).toNat (BitVec.ofInt IntKind.i64.bits 3).toNat) : Nat) : Int))) * 3)), none⟩ (.int .i64 n264) fun M275 =>
            stc M275 ⟨k273, ((k274 + ((Int.toNat (IntKind.wrap .i64 (((Nat.bitwise and (BitVec.ofInt IntKind.i64.bits n3).toNat (BitVec.ofInt IntKind.i64.bits 3).toNat) : Nat) : Int))) * 3)) + 1), none⟩ (.slice A265 k266 k267) fun M276 =>
            stc M276 ⟨k273, ((k274 + ((Int.toNat (IntKind.wrap .i64 (((Nat.bitwise and (BitVec.ofInt IntKind.i64.bits n3).toNat (BitVec.ofInt IntKind.i64.bits 3).toNat) : Nat) : Int))) * 3)) + 2), none⟩ (.int .i64 n268) fun M277 =>
            ((Mem.ld M277 ⟨b0, (o0 + 2), none⟩) = (some (.slice A259 k260 k261))) ∧
            stc M277 ⟨b0, (o0 + 3), none⟩ (.slice A269 k270 k271) fun M278 =>
            ((Mem.ld M278 ⟨b0, (o0 + 2), none⟩) = (some (.slice A259 k260 k261))) ∧
            ACalls Try.prog 99 #[(.pointer (some ⟨b0, o0, none⟩)), (.int .i64 n243), (.bool t244), (.int .i64 n272)] M278 (fun v279 M280 =>
            exB (some v279) fun t281 =>
            K (.bool t281) M280) Kp) Kp) Kp)
           (bsp ((Int.tmod (IntKind.wrap .i64 (((Nat.bitwise and (BitVec.ofInt IntKind.i64.bits n5).toNat (BitVec.ofInt IntKind.i64.bits 255).toNat) : Nat) : Int)) 10) == 6)
             (exSl (Mem.ld M2 ⟨b0, o0, none⟩) fun A282 k283 k284 =>
              ((0 : Int) ≤ (IntKind.wrap .i64 (((Nat.bitwise and (BitVec.ofInt IntKind.i64.bits n3).toNat (BitVec.ofInt IntKind.i64.bits 3).toNat) : Nat) : Int))) ∧
              (((IntKind.wrap .i64 (((Nat.bitwise and (BitVec.ofInt IntKind.i64.bits n3).toNat (BitVec.ofInt IntKind.i64.bits 3).toNat) : Nat) : Int)) : Int) < ((k283 : Nat) : Int)) ∧
              nilc A282 fun k285 k286 =>
              exP (Mem.ld M2 ⟨k285, (k286 + (Int.toNat (IntKind.wrap .i64 (((Nat.bitwise and (BitVec.ofInt IntKind.i64.bits n3).toNat (BitVec.ofInt IntKind.i64.bits 3).toNat) : Nat) : Int)))), none⟩) fun A287 =>
              exSl (Mem.ld M2 ⟨b0, o0, none⟩) fun A288 k289 k290 =>
              ((0 : Int) ≤ (IntKind.wrap .i64 (((Nat.bitwise and (BitVec.ofInt IntKind.i64.bits n4).toNat (BitVec.ofInt IntKind.i64.bits 3).toNat) : Nat) : Int))) ∧
              (((IntKind.wrap .i64 (((Nat.bitwise and (BitVec.ofInt IntKind.i64.bits n4).toNat (BitVec.ofInt IntKind.i64.bits 3).toNat) : Nat) : Int)) : Int) < ((k289 : Nat) : Int)) ∧
              nilc A288 fun k291 k292 =>
              exP (Mem.ld M2 ⟨k291, (k292 + (Int.toNat (IntKind.wrap .i64 (((Nat.bitwise and (BitVec.ofInt IntKind.i64.bits n4).toNat (BitVec.ofInt IntKind.i64.bits 3).toNat) : Nat) : Int)))), none⟩) fun A293 =>
              ACalls Try.prog 62 #[(.pointer A287), (.pointer A293)] M2 (fun v294 M295 =>
              ∃ n296 : Int, ∃ t297 : Bool, (v294 = (.tuple #[(.int .i64 n296), (.bool t297)])) ∧
              bsp ((IntKind.wrap .i64 (((Nat.bitwise and (BitVec.ofInt IntKind.i64.bits n3).toNat (BitVec.ofInt IntKind.i64.bits 3).toNat) : Nat) : Int)) == (IntKind.wrap .i64 (((Nat.bitwise and (BitVec.ofInt IntKind.i64.bits n4).toNat (BitVec.ofInt IntKind.i64.bits 3).toNat) : Nat) : Int)))
               (bsp (n296 == (-1))
                 (K (.bool (!t297)) M295)
                 (K (.bool false) M295))
               (exSl (Mem.ld M295 ⟨b0, (o0 + 2), none⟩) fun A298 k299 k300 =>
                ((0 : Int) ≤ (IntKind.wrap .i64 (((Nat.bitwise and (BitVec.ofInt IntKind.i64.bits n3).toNat (BitVec.ofInt IntKind.i64.bits 3).toNat) : Nat) : Int))) ∧
                (((IntKind.wrap .i64 (((Nat.bitwise and (BitVec.ofInt IntKind.i64.bits n3).toNat (BitVec.ofInt IntKind.i64.bits 3).toNat) : Nat) : Int)) : Int) < ((k299 : Nat) : Int)) ∧
                nilc A298 fun k301 k302 =>
                exI (Mem.ld M295 ⟨k301, (k302 + ((Int.toNat (IntKind.wrap .i64 (((Nat.bitwise and (BitVec.ofInt IntKind.i64.bits n3).toNat (BitVec.ofInt IntKind.i64.bits 3).toNat) : Nat) : Int))) * 3)), none⟩) .i64 fun n303 =>
                exSl (Mem.ld M295 ⟨k301, ((k302 + ((Int.toNat (IntKind.wrap .i64 (((Nat.bitwise and (BitVec.ofInt IntKind.i64.bits n3).toNat (BitVec.ofInt IntKind.i64.bits 3).toNat) : Nat) : Int))) * 3)) + 1), none⟩) fun A304 k305 k306 =>
                exI (Mem.ld M295 ⟨k301, ((k302 + ((Int.toNat (IntKind.wrap .i64 (((Nat.bitwise and (BitVec.ofInt IntKind.i64.bits n3).toNat (BitVec.ofInt IntKind.i64.bits 3).toNat) : Nat) : Int))) * 3)) + 2), none⟩) .i64 fun n307 =>
                exSl (Mem.ld M295 ⟨b0, (o0 + 2), none⟩) fun A308 k309 k310 =>
                ((0 : Int) ≤ (IntKind.wrap .i64 (((Nat.bitwise and (BitVec.ofInt IntKind.i64.bits n4).toNat (BitVec.ofInt IntKind.i64.bits 3).toNat) : Nat) : Int))) ∧
                (((IntKind.wrap .i64 (((Nat.bitwise and (BitVec.ofInt IntKind.i64.bits n4).toNat (BitVec.ofInt IntKind.i64.bits 3).toNat) : Nat) : Int)) : Int) < ((k309 : Nat) : Int)) ∧
                nilc A308 fun k311 k312 =>
                exI (Mem.ld M295 ⟨k311, (k312 + ((Int.toNat (IntKind.wrap .i64 (((Nat.bitwise and (BitVec.ofInt IntKind.i64.bits n4).toNat (BitVec.ofInt IntKind.i64.bits 3).toNat) : Nat) : Int))) * 3)), none⟩) .i64 fun n313 =>
                exSl (Mem.ld M295 ⟨k311, ((k312 + ((Int.toNat (IntKind.wrap .i64 (((Nat.bitwise and (BitVec.ofInt IntKind.i64.bits n4).toNat (BitVec.ofInt IntKind.i64.bits 3).toNat) : Nat) : Int))) * 3)) + 1), none⟩) fun A314 k315 k316 =>
                exI (Mem.ld M295 ⟨k311, ((k312 + ((Int.toNat (IntKind.wrap .i64 (((Nat.bitwise and (BitVec.ofInt IntKind.i64.bits n4).toNat (BitVec.ofInt IntKind.i64.bits 3).toNat) : Nat) : Int))) * 3)) + 2), none⟩) .i64 fun n317 =>
                exSl (Mem.ld M295 ⟨b0, (o0 + 2), none⟩) fun A318 k319 k320 =>
                exSl (Mem.ld M295 ⟨b0, (o0 + 2), none⟩) fun A321 k322 k323 =>
                ACalls Try.prog 102 #[(.agg #[(.int .i64 n303), (.slice A304 k305 k306), (.int .i64 n307)]), (.agg #[(.int .i64 n313), (.slice A314 k315 k316), (.int .i64 n317)])] M295 (fun v324 M325 =>
                ∃ n326 : Int, ∃ A327 : Option Addr, ∃ k328 : Nat, ∃ k329 : Nat, ∃ n330 : Int, ∃ n331 : Int, ∃ A332 : Option Addr, ∃ k333 : Nat, ∃ k334 : Nat, ∃ n335 : Int, ∃ n336 : Int, (v324 = (.tuple #[(.agg #[(.int .i64 n326), (.slice A327 k328 k329), (.int .i64 n330)]), (.agg #[(.int .i64 n331), (.slice A332 k333 k334), (.int .i64 n335)]), (.int .i64 n336)])) ∧
                ((Mem.ld M325 ⟨b0, (o0 + 2), none⟩) = (some (.slice A321 k322 k323))) ∧
                ((Mem.ld M325 ⟨b0, (o0 + 2), none⟩) = (some (.slice A318 k319 k320))) ∧
                ((0 : Int) ≤ (IntKind.wrap .i64 (((Nat.bitwise and (BitVec.ofInt IntKind.i64.bits n3).toNat (BitVec.ofInt IntKind.i64.bits 3).toNat) : Nat) : Int))) ∧
                (((IntKind.wrap .i64 (((Nat.bitwise and (BitVec.ofInt IntKind.i64.bits n3).toNat (BitVec.ofInt IntKind.i64.bits 3).toNat) : Nat) : Int)) : Int) < ((k319 : Nat) : Int)) ∧
                nilc A318 fun k337 k338 =>
                stc M325 ⟨k337, (k338 + ((Int.toNat (IntKind.wrap .i64 (((Nat.bitwise and (BitVec.ofInt IntKind.i64.bits n3).toNat (BitVec.ofInt IntKind.i64.bits 3).toNat) : Nat) : Int))) * 3)), none⟩ (.int .i64 n326) fun M339 =>
                stc M339 ⟨k337, ((k338 + ((Int.toNat (IntKind.wrap .i64 (((Nat.bitwise and (BitVec.ofInt IntKind.i64.bits n3).toNat (BitVec.ofInt IntKind.i64.bits 3).toNat) : Nat) : Int))) * 3)) + 1), none⟩ (.slice A327 k328 k329) fun M340 =>
                stc M340 ⟨k337, ((k338 + ((Int.toNat (IntKind.wrap .i64 (((Nat.bitwise and (BitVec.ofInt IntKind.i64.bits n3).toNat (BitVec.ofInt IntKind.i64.bits 3).toNat) : Nat) : Int))) * 3)) + 2), none⟩ (.int .i64 n330) fun M341 =>
                ((Mem.ld M341 ⟨b0, (o0 + 2), none⟩) = (some (.slice A321 k322 k323))) ∧
                ((Mem.ld M341 ⟨b0, (o0 + 2), none⟩) = (some (.slice A318 k319 k320))) ∧
                ((0 : Int) ≤ (IntKind.wrap .i64 (((Nat.bitwise and (BitVec.ofInt IntKind.i64.bits n4).toNat (BitVec.ofInt IntKind.i64.bits 3).toNat) : Nat) : Int))) ∧
                (((IntKind.wrap .i64 (((Nat.bitwise and (BitVec.ofInt IntKind.i64.bits n4).toNat (BitVec.ofInt IntKind.i64.bits 3).toNat) : Nat) : Int)) : Int) < ((k322 : Nat) : Int)) ∧
                nilc A321 fun k342 k343 =>
                stc M341 ⟨k342, (k343 + ((Int.toNat (IntKind.wrap .i64 (((Nat.bitwise and (BitVec.ofInt IntKind.i64.bits n4).toNat (BitVec.ofInt IntKind.i64.bits 3).toNat) : Nat) : Int))) * 3)), none⟩ (.int .i64 n331) fun M344 =>
                stc M344 ⟨k342, ((k343 + ((Int.toNat (IntKind.wrap .i64 (((Nat.bitwise and (BitVec.ofInt IntKind.i64.bits n4).toNat (BitVec.ofInt IntKind.i64.bits 3).toNat) : Nat) : Int))) * 3)) + 1), none⟩ (.slice A332 k333 k334) fun M345 =>
                stc M345 ⟨k342, ((k343 + ((Int.toNat (IntKind.wrap .i64 (((Nat.bitwise and (BitVec.ofInt IntKind.i64.bits n4).toNat (BitVec.ofInt IntKind.i64.bits 3).toNat) : Nat) : Int))) * 3)) + 2), none⟩ (.int .i64 n335) fun M346 =>
                ((Mem.ld M346 ⟨b0, (o0 + 2), none⟩) = (some (.slice A321 k322 k323))) ∧
                ((Mem.ld M346 ⟨b0, (o0 + 2), none⟩) = (some (.slice A318 k319 k320))) ∧
                ACalls Try.prog 99 #[(.pointer (some ⟨b0, o0, none⟩)), (.int .i64 n296), (.bool t297), (.int .i64 n336)] M346 (fun v347 M348 =>
                exB (some v347) fun t349 =>
                K (.bool t349) M348) Kp) Kp)) Kp)
             (bsp ((Int.tmod (IntKind.wrap .i64 (((Nat.bitwise and (BitVec.ofInt IntKind.i64.bits n5).toNat (BitVec.ofInt IntKind.i64.bits 255).toNat) : Nat) : Int)) 10) == 9)
               (exSl (Mem.ld M2 ⟨b0, o0, none⟩) fun A350 k351 k352 =>
                ((0 : Int) ≤ (IntKind.wrap .i64 (((Nat.bitwise and (BitVec.ofInt IntKind.i64.bits n3).toNat (BitVec.ofInt IntKind.i64.bits 3).toNat) : Nat) : Int))) ∧
                (((IntKind.wrap .i64 (((Nat.bitwise and (BitVec.ofInt IntKind.i64.bits n3).toNat (BitVec.ofInt IntKind.i64.bits 3).toNat) : Nat) : Int)) : Int) < ((k351 : Nat) : Int)) ∧
                nilc A350 fun k353 k354 =>
                exP (Mem.ld M2 ⟨k353, (k354 + (Int.toNat (IntKind.wrap .i64 (((Nat.bitwise and (BitVec.ofInt IntKind.i64.bits n3).toNat (BitVec.ofInt IntKind.i64.bits 3).toNat) : Nat) : Int)))), none⟩) fun A355 =>
                exP (Mem.ld M2 ⟨b0, (o0 + 1), none⟩) fun A356 =>
                ACalls Try.prog 103 #[(.pointer A355), (.pointer A356)] M2 (fun v357 M358 =>
                exI (some v357) .i64 fun n359 =>
                exSl (Mem.ld M358 ⟨b0, (o0 + 2), none⟩) fun A360 k361 k362 =>
                ((0 : Int) ≤ (IntKind.wrap .i64 (((Nat.bitwise and (BitVec.ofInt IntKind.i64.bits n3).toNat (BitVec.ofInt IntKind.i64.bits 3).toNat) : Nat) : Int))) ∧
                (((IntKind.wrap .i64 (((Nat.bitwise and (BitVec.ofInt IntKind.i64.bits n3).toNat (BitVec.ofInt IntKind.i64.bits 3).toNat) : Nat) : Int)) : Int) < ((k361 : Nat) : Int)) ∧
                nilc A360 fun k363 k364 =>
                exI (Mem.ld M358 ⟨k363, (k364 + ((Int.toNat (IntKind.wrap .i64 (((Nat.bitwise and (BitVec.ofInt IntKind.i64.bits n3).toNat (BitVec.ofInt IntKind.i64.bits 3).toNat) : Nat) : Int))) * 3)), none⟩) .i64 fun n365 =>
                exSl (Mem.ld M358 ⟨k363, ((k364 + ((Int.toNat (IntKind.wrap .i64 (((Nat.bitwise and (BitVec.ofInt IntKind.i64.bits n3).toNat (BitVec.ofInt IntKind.i64.bits 3).toNat) : Nat) : Int))) * 3)) + 1), none⟩) fun A366 k367 k368 =>
                exI (Mem.ld M358 ⟨k363, ((k364 + ((Int.toNat (IntKind.wrap .i64 (((Nat.bitwise and (BitVec.ofInt IntKind.i64.bits n3).toNat (BitVec.ofInt IntKind.i64.bits 3).toNat) : Nat) : Int))) * 3)) + 2), none⟩) .i64 fun n369 =>
                exSl (Mem.ld M358 ⟨b0, (o0 + 3), none⟩) fun A370 k371 k372 =>
                exSl (Mem.ld M358 ⟨b0, (o0 + 2), none⟩) fun A373 k374 k375 =>
                ACalls Try.prog 104 #[(.agg #[(.int .i64 n365), (.slice A366 k367 k368), (.int .i64 n369)]), (.slice A370 k371 k372)] M358 (fun v376 M377 =>
                ∃ n378 : Int, ∃ A379 : Option Addr, ∃ k380 : Nat, ∃ k381 : Nat, ∃ n382 : Int, ∃ A383 : Option Addr, ∃ k384 : Nat, ∃ k385 : Nat, ∃ n386 : Int, (v376 = (.tuple #[(.agg #[(.int .i64 n378), (.slice A379 k380 k381), (.int .i64 n382)]), (.slice A383 k384 k385), (.int .i64 n386)])) ∧
                ((Mem.ld M377 ⟨b0, (o0 + 2), none⟩) = (some (.slice A373 k374 k375))) ∧
                ((0 : Int) ≤ (IntKind.wrap .i64 (((Nat.bitwise and (BitVec.ofInt IntKind.i64.bits n3).toNat (BitVec.ofInt IntKind.i64.bits 3).toNat) : Nat) : Int))) ∧
                (((IntKind.wrap .i64 (((Nat.bitwise and (BitVec.ofInt IntKind.i64.bits n3).toNat (BitVec.ofInt IntKind.i64.bits 3).toNat) : Nat) : Int)) : Int) < ((k374 : Nat) : Int)) ∧
                nilc A373 fun k387 k388 =>
                stc M377 ⟨k387, (k388 + ((Int.toNat (IntKind.wrap .i64 (((Nat.bitwise and (BitVec.ofInt IntKind.i64.bits n3).toNat (BitVec.ofInt IntKind.i64.bits 3).toNat) : Nat) : Int))) * 3)), none⟩ (.int .i64 n378) fun M389 =>
                stc M389 ⟨k387, ((k388 + ((Int.toNat (IntKind.wrap .i64 (((Nat.bitwise and (BitVec.ofInt IntKind.i64.bits n3).toNat (BitVec.ofInt IntKind.i64.bits 3).toNat) : Nat) : Int))) * 3)) + 1), none⟩ (.slice A379 k380 k381) fun M390 =>
                stc M390 ⟨k387, ((k388 + ((Int.toNat (IntKind.wrap .i64 (((Nat.bitwise and (BitVec.ofInt IntKind.i64.bits n3).toNat (BitVec.ofInt IntKind.i64.bits 3).toNat) : Nat) : Int))) * 3)) + 2), none⟩ (.int .i64 n382) fun M391 =>
                ((Mem.ld M391 ⟨b0, (o0 + 2), none⟩) = (some (.slice A373 k374 k375))) ∧
                stc M391 ⟨b0, (o0 + 3), none⟩ (.slice A383 k384 k385) fun M392 =>
                ((Mem.ld M392 ⟨b0, (o0 + 2), none⟩) = (some (.slice A373 k374 k375))) ∧
                K (.bool (n359 == n386)) M392) Kp) Kp)
               (bsp ((Int.tmod (IntKind.wrap .i64 (((Nat.bitwise and (BitVec.ofInt IntKind.i64.bits n5).toNat (BitVec.ofInt IntKind.i64.bits 255).toNat) : Nat) : Int)) 10) == 7)
                 (exP (Mem.ld M2 ⟨b0, (o0 + 1), none⟩) fun A393 =>
                  exI (Mem.ld M2 ⟨b0, (o0 + 4), none⟩) .i64 fun n394 =>
                  nwc M2 (.cells #[(.int .i64 n394)] 3 (0, 0)) fun k395 M396 =>
                  ACalls Try.prog 93 #[(.pointer A393), (.slice (some ⟨k395, 0, none⟩) 1 1)] M396 (fun v397 M398 =>
                  (v397 = (.tuple #[])) ∧
                  exSl (Mem.ld M398 ⟨b0, (o0 + 3), none⟩) fun A399 k400 k401 =>
                  exI (Mem.ld M398 ⟨b0, (o0 + 4), none⟩) .i64 fun n402 =>
                  nwc M398 (.cells #[] 3 (0, 0)) fun k403 M404 =>
                  (True) ∧
                  semK Try.prog (Go.Builtin.append_ #[39, 39] 39 #[(.slice (some ⟨k403, 0, none⟩) 0 0), (.slice A399 k400 k401)]) M404 (fun v405 M406 =>
                  exSl (some v405) fun A407 k408 k409 =>
                  ((Mem.ld M406 ⟨b0, (o0 + 4), none⟩) = (some (.int .i64 n402))) ∧
                  nwc M406 (.cells #[(.int .i64 n402)] 3 (0, 0)) fun k410 M411 =>
                  semK Try.prog (Go.Builtin.append_ #[39, 39] 39 #[(.slice A407 k408 k409), (.slice (some ⟨k410, 0, none⟩) 1 1)]) M411 (fun v412 M413 =>
                  exSl (some v412) fun A414 k415 k416 =>
                  ((Mem.ld M413 ⟨b0, (o0 + 4), none⟩) = (some (.int .i64 n402))) ∧
                  stc M413 ⟨b0, (o0 + 3), none⟩ (.slice A414 k415 k416) fun M417 =>
                  ((Mem.ld M417 ⟨b0, (o0 + 4), none⟩) = (some (.int .i64 n402))) ∧
                  exI (Mem.ld M417 ⟨b0, (o0 + 4), none⟩) .i64 fun n418 =>
                  stc M417 ⟨b0, (o0 + 4), none⟩ (.int .i64 (IntKind.wrap .i64 (n418 + 1))) fun M419 =>
                  K (.bool true) M419) Kp) Kp) Kp)
                 (exP (Mem.ld M2 ⟨b0, (o0 + 1), none⟩) fun A420 =>
                  exI (Mem.ld M2 ⟨k1, (0 + 2), none⟩) .i64 fun n421 =>
                  ACalls Try.prog 105 #[(.pointer A420), (.int .i64 n421)] M2 (fun v422 M423 =>
                  exSl (some v422) fun A424 k425 k426 =>
                  exI (Mem.ld M423 ⟨k1, (0 + 2), none⟩) .i64 fun n427 =>
                  exSl (Mem.ld M423 ⟨b0, (o0 + 3), none⟩) fun A428 k429 k430 =>
                  exSl (Mem.ld M423 ⟨b0, (o0 + 5), none⟩) fun A431 k432 k433 =>
                  exSl (Mem.ld M423 ⟨b0, (o0 + 3), none⟩) fun A434 k435 k436 =>
                  ((0 : Int) ≤ ((k436 : Nat) : Int)) ∧
                  ((((k436 : Nat) : Int) : Int) ≤ ((k436 : Nat) : Int)) ∧
                  ((0 : Int) ≤ (if (((k429 : Nat) : Int) : Int) < (if (0 : Int) > n427 then 0 else n427) then ((k429 : Nat) : Int) else (if (0 : Int) > n427 then 0 else n427))) ∧
                  (((if (((k429 : Nat) : Int) : Int) < (if (0 : Int) > n427 then 0 else n427) then ((k429 : Nat) : Int) else (if (0 : Int) > n427 then 0 else n427)) : Int) ≤ ((k436 : Nat) : Int)) ∧
                  ((0 : Int) ≤ 0) ∧
                  ((0 : Int) ≤ (if (((k429 : Nat) : Int) : Int) < (if (0 : Int) > n427 then 0 else n427) then ((k429 : Nat) : Int) else (if (0 : Int) > n427 then 0 else n427))) ∧
                  semK Try.prog (Go.Builtin.append_ #[39, 39] 39 #[(.slice A431 k432 k433), (.slice (slA A434 0 (Int.toNat ((k436 : Nat) : Int)) 1) ((Int.toNat (if (((k429 : Nat) : Int) : Int) < (if (0 : Int) > n427 then 0 else n427) then ((k429 : Nat) : Int) else (if (0 : Int) > n427 then 0 else n427))) - 0) ((Int.toNat ((k436 : Nat) : Int)) - 0))]) M423 (fun v437 M438 =>
                  exSl (some v437) fun A439 k440 k441 =>
                  stc M438 ⟨b0, (o0 + 5), none⟩ (.slice A439 k440 k441) fun M442 =>
                  exSl (Mem.ld M442 ⟨b0, (o0 + 3), none⟩) fun A443 k444 k445 =>
                  ((0 : Int) ≤ ((k445 : Nat) : Int)) ∧
                  ((((k445 : Nat) : Int) : Int) ≤ ((k445 : Nat) : Int)) ∧
                  ((0 : Int) ≤ (if (((k429 : Nat) : Int) : Int) < (if (0 : Int) > n427 then 0 else n427) then ((k429 : Nat) : Int) else (if (0 : Int) > n427 then 0 else n427))) ∧
                  (((if (((k429 : Nat) : Int) : Int) < (if (0 : Int) > n427 then 0 else n427) then ((k429 : Nat) : Int) else (if (0 : Int) > n427 then 0 else n427)) : Int) ≤ ((k445 : Nat) : Int)) ∧
                  ((0 : Int) ≤ 0) ∧
                  ((0 : Int) ≤ (if (((k429 : Nat) : Int) : Int) < (if (0 : Int) > n427 then 0 else n427) then ((k429 : Nat) : Int) else (if (0 : Int) > n427 then 0 else n427))) ∧
                  ACalls Try.prog 42 #[(.slice A424 k425 k426), (.slice (slA A443 0 (Int.toNat ((k445 : Nat) : Int)) 1) ((Int.toNat (if (((k429 : Nat) : Int) : Int) < (if (0 : Int) > n427 then 0 else n427) then ((k429 : Nat) : Int) else (if (0 : Int) > n427 then 0 else n427))) - 0) ((Int.toNat ((k445 : Nat) : Int)) - 0))] M442 (fun v446 M447 =>
                  exI (some v446) .i64 fun n448 =>
                  exSl (Mem.ld M447 ⟨b0, (o0 + 3), none⟩) fun A449 k450 k451 =>
                  ((0 : Int) ≤ ((k451 : Nat) : Int)) ∧
                  ((((k451 : Nat) : Int) : Int) ≤ ((k451 : Nat) : Int)) ∧
                  ((0 : Int) ≤ ((k450 : Nat) : Int)) ∧
                  ((((k450 : Nat) : Int) : Int) ≤ ((k451 : Nat) : Int)) ∧
                  ((0 : Int) ≤ (if (((k429 : Nat) : Int) : Int) < (if (0 : Int) > n427 then 0 else n427) then ((k429 : Nat) : Int) else (if (0 : Int) > n427 then 0 else n427))) ∧
                  (((if (((k429 : Nat) : Int) : Int) < (if (0 : Int) > n427 then 0 else n427) then ((k429 : Nat) : Int) else (if (0 : Int) > n427 then 0 else n427)) : Int) ≤ ((k450 : Nat) : Int)) ∧
                  stc M447 ⟨b0, (o0 + 3), none⟩ (.slice (slA A449 (Int.toNat (if (((k429 : Nat) : Int) : Int) < (if (0 : Int) > n427 then 0 else n427) then ((k429 : Nat) : Int) else (if (0 : Int) > n427 then 0 else n427))) (Int.toNat ((k451 : Nat) : Int)) 1) ((Int.toNat ((k450 : Nat) : Int)) - (Int.toNat (if (((k429 : Nat) : Int) : Int) < (if (0 : Int) > n427 then 0 else n427) then ((k429 : Nat) : Int) else (if (0 : Int) > n427 then 0 else n427)))) ((Int.toNat ((k451 : Nat) : Int)) - (Int.toNat (if (((k429 : Nat) : Int) : Int) < (if (0 : Int) > n427 then 0 else n427) then ((k429 : Nat) : Int) else (if (0 : Int) > n427 then 0 else n427))))) fun M452 =>
                  K (.bool (n448 == 0)) M452) Kp) Kp) Kp)))))))))) :
  ACalls Try.prog 75 ([.pointer (some ⟨b0, o0, none⟩), .agg #[.int .i64 x1_0, .int .i64 x1_1, .int .i64 x1_2]] : List Value).toArray M K Kp :=
  acalls_vc (C := Cx) good [(7, .reg [0, 1, 3, 7, 0, 31, 63, 0, 128, 384, 896, 0, 2048, 6144, 14336, 32767, 65535] (.step 0 (.step 1 (.step 2 (.step 4 (.step 7 (.step 8 (.step 9 (.step 11 (.step 12 (.step 13 (.step 3 (.step 5 (.step 6 (.step 10 (.step 14 (.step 15 (.step 16 .done)))))))))))))))))), (8, .reg [0, 1, 3, 7, 0, 0, 0, 64, 192, 448, 0, 1984, 4032, 0, 8192, 24576, 57344, 0, 131072, 393216, 917504, 2097088, 4194240, 8388544, 8388544, 8388544, 16777183, 83886047, 234881023, 503316479, 1040187391, 2147483647] (.step 0 (.step 1 (.step 2 (.step 4 (.step 5 (.step 6 (.step 7 (.step 8 (.step 10 (.step 13 (.step 14 (.step 15 (.step 17 (.step 18 (.step 19 (.step 9 (.step 11 (.step 12 (.step 16 (.step 20 (.prom 3 (.step 21 (.step 22 (.step 23 (.step 24 (.step 25 (.step 26 (.step 27 (.step 28 (.step 29 (.step 30 (.step 31 .done))))))))))))))))))))))))))))))))), (13, .reg [0, 1, 3, 7, 0, 31, 63, 0, 128, 384, 896, 0, 2048, 6144, 14336, 32767, 65535] (.step 0 (.step 1 (.step 2 (.step 4 (.step 7 (.step 8 (.step 9 (.step 11 (.step 12 (.step 13 (.step 3 (.step 5 (.step 6 (.step 10 (.step 14 (.step 15 (.step 16 .done)))))))))))))))))), (14, .reg [0, 1, 3, 7, 0, 0, 0, 64, 192, 448, 0, 1984, 4032, 0, 8192, 24576, 57344, 0, 131072, 393216, 917504, 2097088, 4194240, 8388544, 8388544, 8388544, 16777183, 83886047, 234881023, 503316479, 1040187391, 2147483647] (.step 0 (.step 1 (.step 2 (.step 4 (.step 5 (.step 6 (.step 7 (.step 8 (.step 10 (.step 13 (.step 14 (.step 15 (.step 17 (.step 18 (.step 19 (.step 9 (.step 11 (.step 12 (.step 16 (.step 20 (.prom 3 (.step 21 (.step 22 (.step 23 (.step 24 (.step 25 (.step 26 (.step 27 (.step 28 (.step 29 (.step 30 (.step 31 .done))))))))))))))))))))))))))))))))), (19, .reg [0, 1, 3, 7, 0, 0, 32, 96, 224, 0, 992, 2016, 4064, 8160, 16352, 16352, 32767, 98303, 262143] (.step 0 (.step 1 (.step 2 (.step 4 (.step 5 (.step 6 (.step 7 (.step 9 (.step 8 (.step 10 (.step 11 (.prom 3 (.step 12 (.step 13 (.step 14 (.step 15 (.step 16 (.step 17 (.step 18 .done)))))))))))))))))))), (22, .reg [0, 1, 3, 7, 0, 31, 63, 0, 128, 384, 896, 0, 2048, 8191, 16383, 32767, 32767, 65535, 262143] (.step 0 (.step 1 (.step 2 (.step 4 (.step 7 (.step 8 (.step 9 (.step 11 (.step 3 (.step 5 (.step 6 (.step 10 (.step 12 (.step 13 (.step 14 (.step 15 (.step 16 (.step 17 (.step 18 .done)))))))))))))))))))), (23, .reg [0, 1, 3, 7, 0, 0, 0, 64, 192, 448, 0, 1984, 4032, 0, 8192, 24576, 57344, 0, 131072, 524224, 1048512, 2097088, 2097088, 2097088, 4194271, 20971487, 58720255, 125829119, 260046847, 536870911] (.step 0 (.step 1 (.step 2 (.step 4 (.step 5 (.step 6 (.step 7 (.step 8 (.step 10 (.step 13 (.step 14 (.step 15 (.step 17 (.step 9 (.step 11 (.step 12 (.step 16 (.step 18 (.prom 3 (.step 19 (.step 20 (.step 21 (.step 22 (.step 23 (.step 24 (.step 25 (.step 26 (.step 27 (.step 28 (.step 29 .done))))))))))))))))))))))))))))))), (26, .reg [0, 1, 3, 7, 0, 31, 63, 0, 128, 384, 896, 0, 3968, 8064, 16383, 32767, 65535, 65535, 131071, 524287] (.step 0 (.step 1 (.step 2 (.step 4 (.step 7 (.step 8 (.step 9 (.step 11 (.step 3 (.step 5 (.step 6 (.step 10 (.step 12 (.step 13 (.step 14 (.step 15 (.step 16 (.step 17 (.step 18 (.step 19 .done))))))))))))))))))))), (29, .reg [0, 1, 3, 7, 0, 0, 32, 96, 224, 0, 0, 1024, 3072, 7168, 0, 31744, 64512, 0, 131072, 393216, 917504, 0, 4063232, 8257536, 16776192, 33553408, 67107840, 67107840, 67107840, 134217215, 671088127, 1879048191, 4026531839, 8589934591] (.step 0 (.step 1 (.step 2 (.step 4 (.step 5 (.step 6 (.step 7 (.step 9 (.step 10 (.step 11 (.step 12 (.step 14 (.step 17 (.step 18 (.step 19 (.step 21 (.step 13 (.step 15 (.step 16 (.step 20 (.step 22 (.step 23 (.prom 3 (.prom 8 (.step 24 (.step 25 (.step 26 (.step 27 (.step 28 (.step 29 (.step 30 (.step 31 (.step 32 (.step 33 .done))))))))))))))))))))))))))))))))))), (32, .reg [0, 1, 3, 7, 0, 31, 63, 0, 128, 384, 896, 2047, 4095] (.step 0 (.step 1 (.step 2 (.step 4 (.step 7 (.step 8 (.step 9 (.step 3 (.step 5 (.step 6 (.step 10 (.step 11 (.step 12 .done)))))))))))))), (33, .reg [0, 1, 3, 7, 0, 0, 0, 64, 192, 448, 0, 1984, 4032, 0, 8192, 24576, 57344, 131008, 262080, 524224, 524224, 524224, 1048543, 5242847, 14680063, 31457279, 65011711, 134217727] (.step 0 (.step 1 (.step 2 (.step 4 (.step 5 (.step 6 (.step 7 (.step 8 (.step 10 (.step 13 (.step 14 (.step 15 (.step 9 (.step 11 (.step 12 (.step 16 (.prom 3 (.step 17 (.step 18 (.step 19 (.step 20 (.step 21 (.step 22 (.step 23 (.step 24 (.step 25 (.step 26 (.step 27 .done))))))))))))))))))))))))))))), (36, .reg [0, 1, 3, 7, 0, 16, 48, 112, 240, 511] (.step 0 (.step 1 (.step 2 (.step 4 (.step 5 (.step 6 (.step 3 (.step 7 (.step 8 (.step 9 .done))))))))))), (37, .reg [0, 0, 0, 4, 12, 28, 62, 0, 128, 384, 896, 1920, 4094, 8191, 16383, 32767] (.step 0 (.step 2 (.step 3 (.step 4 (.step 7 (.step 8 (.step 9 (.step 5 (.prom 10 (.step 1 (.late 6 (.step 11 (.step 12 (.step 13 (.step 14 (.step 15 .done))))))))))))))))), (40, .reg [0, 1, 3, 7, 0, 16, 63, 127] (.step 0 (.step 1 (.step 2 (.step 4 (.step 3 (.step 5 (.step 6 (.step 7 .done))))))))), (41, .reg [0, 1, 3, 0, 8, 24, 56, 120, 255, 511] (.step 0 (.step 3 (.step 4 (.step 5 (.step 1 (.step 2 (.step 6 (.step 7 (.step 8 (.step 9 .done))))))))))), (42, .reg [0, 0, 2, 6, 14, 0, 32, 96, 224, 0, 992, 2046, 4095, 8191, 16383] (.step 0 (.step 1 (.step 2 (.step 3 (.step 5 (.step 6 (.step 7 (.step 9 (.step 4 (.step 8 (.step 10 (.step 11 (.step 12 (.step 13 (.step 14 .done))))))))))))))))] Try.func75 (by kernel_rfl) (by kernel_rfl) h

theorem vc_local_Local_Next {b0 o0 : Nat} {M : Mem} {K : Value → Mem → Prop} {Kp : List PanicEntry → Mem → Prop} (h :
exI (Mem.ld M ⟨b0, o0, none⟩) .i64 fun n1 =>
K (.int .i64 n1) M) :
  ACalls Try.prog 76 ([.pointer (some ⟨b0, o0, none⟩)] : List Value).toArray M K Kp :=
  acalls_vc (C := Cx) good [] Try.func76 (by kernel_rfl) (by kernel_rfl) h

theorem vc_local_Global_List {b0 o0 : Nat} {M : Mem} {K : Value → Mem → Prop} {Kp : List PanicEntry → Mem → Prop} (h :
nwc M (.cells #[] 3 (0, 0)) fun k1 M2 =>
exSl (Mem.ld M2 ⟨b0, o0, none⟩) fun A3 k4 k5 =>
semK Try.prog (Go.Builtin.append_ #[39, 39] 39 #[(.slice (some ⟨k1, 0, none⟩) 0 0), (.slice A3 k4 k5)]) M2 (fun v6 M7 =>
exSl (some v6) fun A8 k9 k10 =>
K (.slice A8 k9 k10) M7) Kp) :
  ACalls Try.prog 77 ([.pointer (some ⟨b0, o0, none⟩)] : List Value).toArray M K Kp :=
  acalls_vc (C := Cx) good [] Try.func77 (by kernel_rfl) (by kernel_rfl) h

theorem vc_shunterlaw08_world_same {b0 o0 : Nat} {M : Mem} {K : Value → Mem → Prop} {Kp : List PanicEntry → Mem → Prop} (h :
exSl (Mem.ld M ⟨b0, o0, none⟩) fun A1 k2 k3 =>
∃ I4 : Nat → List Value → Mem → Prop, (∃ k5 : Nat, I4 k5 [(.int .i64 0)] M) ∧
∀ k6 : Nat, ∀ junk7 : Nat → Value, ∀ n8 : Int, ∀ M9 : Mem, (I4 k6 [(.int .i64 n8)] M9) → bsp (decide ((n8 : Int) < ((k2 : Nat) : Int)))
 (((0 : Int) ≤ n8) ∧
  ((n8 : Int) < ((k2 : Nat) : Int)) ∧
  nilc A1 fun k10 k11 =>
  exP (Mem.ld M9 ⟨k10, (k11 + (Int.toNat n8)), none⟩) fun A12 =>
  exSl (Mem.ld M9 ⟨b0, (o0 + 2), none⟩) fun A13 k14 k15 =>
  ((0 : Int) ≤ n8) ∧
  ((n8 : Int) < ((k14 : Nat) : Int)) ∧
  nilc A13 fun k16 k17 =>
  exSl (Mem.ld M9 ⟨k16, ((k17 + ((Int.toNat n8) * 3)) + 1), none⟩) fun A18 k19 k20 =>
  exSl (Mem.ld M9 ⟨b0, (o0 + 2), none⟩) fun A21 k22 k23 =>
  ((0 : Int) ≤ n8) ∧
  ((n8 : Int) < ((k22 : Nat) : Int)) ∧
  nilc A21 fun k24 k25 =>
  exI (Mem.ld M9 ⟨k24, (k25 + ((Int.toNat n8) * 3)), none⟩) .i64 fun n26 =>
  bsp (decide ((n26 : Int) ≥ 0))
   (exSl (Mem.ld M9 ⟨b0, (o0 + 2), none⟩) fun A27 k28 k29 =>
    ((0 : Int) ≤ n8) ∧
    ((n8 : Int) < ((k28 : Nat) : Int)) ∧
    nilc A27 fun k30 k31 =>
    exI (Mem.ld M9 ⟨k30, (k31 + ((Int.toNat n8) * 3)), none⟩) .i64 fun n32 =>
    ACalls Try.prog 76 #[(.pointer A12)] M9 (fun v33 M34 =>
    exI (some v33) .i64 fun n35 =>
    ((Mem.ld M34 ⟨k30, (k31 + ((Int.toNat n8) * 3)), none⟩) = (some (.int .i64 n32))) ∧
    ((Mem.ld M34 ⟨b0, (o0 + 2), none⟩) = (some (.slice A27 k28 k29))) ∧
    bsp (n35 != n32)
     (((Mem.ld M34 ⟨k30, (k31 + ((Int.toNat n8) * 3)), none⟩) = (some (.int .i64 n32))) ∧
      ((Mem.ld M34 ⟨b0, (o0 + 2), none⟩) = (some (.slice A27 k28 k29))) ∧
      ((Mem.ld M34 ⟨k30, (k31 + ((Int.toNat n8) * 3)), none⟩) = (some (.int .i64 n32))) ∧
      ((Mem.ld M34 ⟨b0, (o0 + 2), none⟩) = (some (.slice A27 k28 k29))) ∧
      ((Mem.ld M34 ⟨k30, (k31 + ((Int.toNat n8) * 3)), none⟩) = (some (.int .i64 n32))) ∧
      ((Mem.ld M34 ⟨b0, (o0 + 2), none⟩) = (some (.slice A27 k28 k29))) ∧
      K (.bool false) M34)
     (exSl (Mem.ld M34 ⟨b0, (o0 + 2), none⟩) fun A36 k37 k38 =>
      ((0 : Int) ≤ n8) ∧
      ((n8 : Int) < ((k37 : Nat) : Int)) ∧
      nilc A36 fun k39 k40 =>
      exSl (Mem.ld M34 ⟨k39, ((k40 + ((Int.toNat n8) * 3)) + 1), none⟩) fun A41 k42 k43 =>
      ACalls Try.prog 63 #[(.pointer A12)] M34 (fun v44 M45 =>
      exSl (some v44) fun A46 k47 k48 =>
      ((Mem.ld M45 ⟨k39, ((k40 + ((Int.toNat n8) * 3)) + 1), none⟩) = (some (.slice A41 k42 k43))) ∧
      ((Mem.ld M45 ⟨b0, (o0 + 2), none⟩) = (some (.slice A36 k37 k38))) ∧
      ((Mem.ld M45 ⟨k30, (k31 + ((Int.toNat n8) * 3)), none⟩) = (some (.int .i64 n32))) ∧
      ((Mem.ld M45 ⟨b0, (o0 + 2), none⟩) = (some (.slice A27 k28 k29))) ∧
      ACalls Try.prog 42 #[(.slice A46 k47 k48), (.slice A41 k42 k43)] M45 (fun v49 M50 =>
      exI (some v49) .i64 fun n51 =>
      ((Mem.ld M50 ⟨k39, ((k40 + ((Int.toNat n8) * 3)) + 1), none⟩) = (some (.slice A41 k42 k43))) ∧
      ((Mem.ld M50 ⟨b0, (o0 + 2), none⟩) = (some (.slice A36 k37 k38))) ∧
      ((Mem.ld M50 ⟨k30, (k31 + ((Int.toNat n8) * 3)), none⟩) = (some (.int .i64 n32))) ∧
      ((Mem.ld M50 ⟨b0, (o0 + 2), none⟩) = (some (.slice A27 k28 k29))) ∧
      bsp (n51 != 0)
       (((Mem.ld M50 ⟨k39, ((k40 + ((Int.toNat n8) * 3)) + 1), none⟩) = (some (.slice A41 k42 k43))) ∧
        ((Mem.ld M50 ⟨b0, (o0 + 2), none⟩) = (some (.slice A36 k37 k38))) ∧
        ((Mem.ld M50 ⟨k30, (k31 + ((Int.toNat n8) * 3)), none⟩) = (some (.int .i64 n32))) ∧
        ((Mem.ld M50 ⟨b0, (o0 + 2), none⟩) = (some (.slice A27 k28 k29))) ∧
        K (.bool false) M50)
       (ACalls Try.prog 61 #[(.pointer A12)] M50 (fun v52 M53 =>
        exI (some v52) .i64 fun n54 =>
        ((Mem.ld M53 ⟨k39, ((k40 + ((Int.toNat n8) * 3)) + 1), none⟩) = (some (.slice A41 k42 k43))) ∧
        ((Mem.ld M53 ⟨b0, (o0 + 2), none⟩) = (some (.slice A36 k37 k38))) ∧
        ((Mem.ld M53 ⟨k30, (k31 + ((Int.toNat n8) * 3)), none⟩) = (some (.int .i64 n32))) ∧
        ((Mem.ld M53 ⟨b0, (o0 + 2), none⟩) = (some (.slice A27 k28 k29))) ∧
        bsp (n54 != (IntKind.wrap .i64 (((k19 : Nat) : Int) + 1)))
         (K (.bool false) M53)
         (∃ k55 : Nat, (k55 < k6) ∧
          I4 k55 [(.int .i64 (IntKind.wrap .i64 (n8 + 1)))] M53)) Kp)) Kp) Kp)) Kp)
   (exSl (Mem.ld M9 ⟨b0, (o0 + 2), none⟩) fun A56 k57 k58 =>
    ((0 : Int) ≤ n8) ∧
    ((n8 : Int) < ((k57 : Nat) : Int)) ∧
    nilc A56 fun k59 k60 =>
    exI (Mem.ld M9 ⟨k59, (k60 + ((Int.toNat n8) * 3)), none⟩) .i64 fun n61 =>
    ACalls Try.prog 76 #[(.pointer A12)] M9 (fun v62 M63 =>
    exI (some v62) .i64 fun n64 =>
    ((Mem.ld M63 ⟨k59, (k60 + ((Int.toNat n8) * 3)), none⟩) = (some (.int .i64 n61))) ∧
    ((Mem.ld M63 ⟨b0, (o0 + 2), none⟩) = (some (.slice A56 k57 k58))) ∧
    bsp (n64 != n61)
     (((Mem.ld M63 ⟨k59, (k60 + ((Int.toNat n8) * 3)), none⟩) = (some (.int .i64 n61))) ∧
      ((Mem.ld M63 ⟨b0, (o0 + 2), none⟩) = (some (.slice A56 k57 k58))) ∧
      ((Mem.ld M63 ⟨k59, (k60 + ((Int.toNat n8) * 3)), none⟩) = (some (.int .i64 n61))) ∧
      ((Mem.ld M63 ⟨b0, (o0 + 2), none⟩) = (some (.slice A56 k57 k58))) ∧
      ((Mem.ld M63 ⟨k59, (k60 + ((Int.toNat n8) * 3)), none⟩) = (some (.int .i64 n61))) ∧
      ((Mem.ld M63 ⟨b0, (o0 + 2), none⟩) = (some (.slice A56 k57 k58))) ∧
      K (.bool false) M63)
     (exSl (Mem.ld M63 ⟨b0, (o0 + 2), none⟩) fun A65 k66 k67 =>
      ((0 : Int) ≤ n8) ∧
      ((n8 : Int) < ((k66 : Nat) : Int)) ∧
      nilc A65 fun k68 k69 =>
      exSl (Mem.ld M63 ⟨k68, ((k69 + ((Int.toNat n8) * 3)) + 1), none⟩) fun A70 k71 k72 =>
      ACalls Try.prog 63 #[(.pointer A12)] M63 (fun v73 M74 =>
      exSl (some v73) fun A75 k76 k77 =>
      ((Mem.ld M74 ⟨k68, ((k69 + ((Int.toNat n8) * 3)) + 1), none⟩) = (some (.slice A70 k71 k72))) ∧
      ((Mem.ld M74 ⟨b0, (o0 + 2), none⟩) = (some (.slice A65 k66 k67))) ∧
      ((Mem.ld M74 ⟨k59, (k60 + ((Int.toNat n8) * 3)), none⟩) = (some (.int .i64 n61))) ∧
      ((Mem.ld M74 ⟨b0, (o0 + 2), none⟩) = (some (.slice A56 k57 k58))) ∧
      ACalls Try.prog 42 #[(.slice A75 k76 k77), (.slice A70 k71 k72)] M74 (fun v78 M79 =>
      exI (some v78) .i64 fun n80 =>
      ((Mem.ld M79 ⟨k68, ((k69 + ((Int.toNat n8) * 3)) + 1), none⟩) = (some (.slice A70 k71 k72))) ∧
      ((Mem.ld M79 ⟨b0, (o0 + 2), none⟩) = (some (.slice A65 k66 k67))) ∧
      ((Mem.ld M79 ⟨k59, (k60 + ((Int.toNat n8) * 3)), none⟩) = (some (.int .i64 n61))) ∧
      ((Mem.ld M79 ⟨b0, (o0 + 2), none⟩) = (some (.slice A56 k57 k58))) ∧
      bsp (n80 != 0)
       (((Mem.ld M79 ⟨k68, ((k69 + ((Int.toNat n8) * 3)) + 1), none⟩) = (some (.slice A70 k71 k72))) ∧
        ((Mem.ld M79 ⟨b0, (o0 + 2), none⟩) = (some (.slice A65 k66 k67))) ∧
        ((Mem.ld M79 ⟨k59, (k60 + ((Int.toNat n8) * 3)), none⟩) = (some (.int .i64 n61))) ∧
        ((Mem.ld M79 ⟨b0, (o0 + 2), none⟩) = (some (.slice A56 k57 k58))) ∧
        K (.bool false) M79)
       (ACalls Try.prog 61 #[(.pointer A12)] M79 (fun v81 M82 =>
        exI (some v81) .i64 fun n83 =>
        ((Mem.ld M82 ⟨k68, ((k69 + ((Int.toNat n8) * 3)) + 1), none⟩) = (some (.slice A70 k71 k72))) ∧
        ((Mem.ld M82 ⟨b0, (o0 + 2), none⟩) = (some (.slice A65 k66 k67))) ∧
        ((Mem.ld M82 ⟨k59, (k60 + ((Int.toNat n8) * 3)), none⟩) = (some (.int .i64 n61))) ∧
        ((Mem.ld M82 ⟨b0, (o0 + 2), none⟩) = (some (.slice A56 k57 k58))) ∧
        bsp (n83 != ((k19 : Nat) : Int))
         (K (.bool false) M82)
         (∃ k84 : Nat, (k84 < k6) ∧
          I4 k84 [(.int .i64 (IntKind.wrap .i64 (n8 + 1)))] M82)) Kp)) Kp) Kp)) Kp))
 (exP (Mem.ld M9 ⟨b0, (o0 + 1), none⟩) fun A85 =>
  exSl (Mem.ld M9 ⟨b0, (o0 + 3), none⟩) fun A86 k87 k88 =>
  ACalls Try.prog 77 #[(.pointer A85)] M9 (fun v89 M90 =>
  exSl (some v89) fun A91 k92 k93 =>
  ((Mem.ld M90 ⟨b0, (o0 + 3), none⟩) = (some (.slice A86 k87 k88))) ∧
  ACalls Try.prog 42 #[(.slice A91 k92 k93), (.slice A86 k87 k88)] M90 (fun v94 M95 =>
  exI (some v94) .i64 fun n96 =>
  ((Mem.ld M95 ⟨b0, (o0 + 3), none⟩) = (some (.slice A86 k87 k88))) ∧
  bsp (n96 == 0)
   (exP (Mem.ld M95 ⟨b0, (o0 + 1), none⟩) fun A97 =>
    exSl (Mem.ld M95 ⟨b0, (o0 + 3), none⟩) fun A98 k99 k100 =>
    ACalls Try.prog 60 #[(.pointer A97)] M95 (fun v101 M102 =>
    exI (some v101) .i64 fun n103 =>
    ((Mem.ld M102 ⟨b0, (o0 + 3), none⟩) = (some (.slice A98 k99 k100))) ∧
    ((Mem.ld M102 ⟨b0, (o0 + 3), none⟩) = (some (.slice A86 k87 k88))) ∧
    K (.bool (n103 == ((k99 : Nat) : Int))) M102) Kp)
   (((Mem.ld M95 ⟨b0, (o0 + 3), none⟩) = (some (.slice A86 k87 k88))) ∧
    K (.bool false) M95)) Kp) Kp)) :
  ACalls Try.prog 78 ([.pointer (some ⟨b0, o0, none⟩)] : List Value).toArray M K Kp :=
  acalls_vc (C := Cx) good [(2000000, .loop [(11, .c (.int .i64))]), (7, .reg [0, 1, 0, 4, 12, 28, 0, 124, 252, 508, 1023, 2047, 4095, 8191, 4095, 20479, 53247, 118783, 4095, 511999, 1036287, 2084863, 4194303, 8388607, 16777215, 33554431, 67108863, 134217727, 67108863, 536870911, 1073741823] (.step 0 (.step 2 (.step 3 (.step 4 (.step 6 (.prom 5 (.step 7 (.step 8 (.prom 9 (.step 1 (.step 10 (.step 11 (.step 12 (.step 14 (.step 15 (.step 16 (.step 18 (.prom 17 (.step 19 (.step 20 (.prom 21 (.step 13 (.step 22 (.step 23 (.step 24 (.step 25 (.step 26 (.step 28 (.step 27 (.step 29 (.step 30 .done)))))))))))))))))))))))))))))))), (10, .reg [0, 1, 3, 7, 15, 0, 32, 96, 224, 511, 1023, 2047, 4095, 8191, 16383, 32767, 65535, 4095, 135167, 397311, 921599, 1970175, 4194303, 8388607, 16777215] (.step 0 (.step 1 (.step 2 (.step 5 (.step 6 (.step 7 (.step 3 (.prom 8 (.step 4 (.step 9 (.step 10 (.step 11 (.step 12 (.step 13 (.step 14 (.step 17 (.step 18 (.step 19 (.step 15 (.prom 20 (.step 21 (.step 16 (.step 22 (.step 23 (.step 24 .done))))))))))))))))))))))))))] Try.func78 (by kernel_rfl) (by kernel_rfl) h

theorem vc_local_Global_Put {b0 o0 : Nat} {B1 : Option Addr} {m1 c1 : Nat} {M : Mem} {K : Value → Mem → Prop} {Kp : List PanicEntry → Mem → Prop} (h :
exSl (Mem.ld M ⟨b0, o0, none⟩) fun A1 k2 k3 =>
semK Try.prog (Go.Builtin.append_ #[39, 39] 39 #[(.slice A1 k2 k3), (.slice B1 m1 c1)]) M (fun v4 M5 =>
exSl (some v4) fun A6 k7 k8 =>
stc M5 ⟨b0, o0, none⟩ (.slice A6 k7 k8) fun M9 =>
K (.tuple #[]) M9) Kp) :
  ACalls Try.prog 93 ([.pointer (some ⟨b0, o0, none⟩), .slice B1 m1 c1] : List Value).toArray M K Kp :=
  acalls_vc (C := Cx) good [] Try.func93 (by kernel_rfl) (by kernel_rfl) h

theorem vc_shunterref08_New {x0 : Int} {M : Mem} {K : Value → Mem → Prop} {Kp : List PanicEntry → Mem → Prop} (h :
nwc M (.cells #[(.int .i64 0), (.slice none 0 0), (.int .i64 0)] 172 (0, 0)) fun k1 M2 =>
stc M2 ⟨k1, 0, none⟩ (.int .i64 (-1)) fun M3 =>
stc M3 ⟨k1, (0 + 1), none⟩ (.slice none 0 0) fun M4 =>
stc M4 ⟨k1, (0 + 2), none⟩ (.int .i64 (if ((if (1024 : Int) < x0 then 1024 else x0) : Int) > 1 then (if (1024 : Int) < x0 then 1024 else x0) else 1)) fun M5 =>
exI (Mem.ld M5 ⟨k1, 0, none⟩) .i64 fun n6 =>
exSl (Mem.ld M5 ⟨k1, (0 + 1), none⟩) fun A7 k8 k9 =>
exI (Mem.ld M5 ⟨k1, (0 + 2), none⟩) .i64 fun n10 =>
K (.agg #[(.int .i64 n6), (.slice A7 k8 k9), (.int .i64 n10)]) M5) :
  ACalls Try.prog 95 ([.int .i64 x0] : List Value).toArray M K Kp :=
  acalls_vc (C := Cx) good [] Try.func95 (by kernel_rfl) (by kernel_rfl) h

theorem vc_shunterref08_Ready {x0_0 : Int} {B0_1 : Option Addr} {m0_1 c0_1 : Nat} {x0_2 : Int} {x1 : Int} {B2 : Option Addr} {m2 c2 : Nat} {M : Mem} {K : Value → Mem → Prop} {Kp : List PanicEntry → Mem → Prop} (h :
nwc M (.cells #[(.int .i64 x0_0), (.slice B0_1 m0_1 c0_1), (.int .i64 x0_2)] 172 (0, 0)) fun k1 M2 =>
nwc M2 (.cells #[(.int .i64 0), (.slice none 0 0), (.int .i64 0)] 172 (0, 0)) fun k3 M4 =>
exI (Mem.ld M4 ⟨k1, 0, none⟩) .i64 fun n5 =>
stc M4 ⟨k1, 0, none⟩ (.int .i64 x1) fun M6 =>
bsp (decide ((n5 : Int) < 0))
 (exI (Mem.ld M6 ⟨k1, 0, none⟩) .i64 fun n7 =>
  exSl (Mem.ld M6 ⟨k1, (0 + 1), none⟩) fun A8 k9 k10 =>
  exI (Mem.ld M6 ⟨k1, (0 + 2), none⟩) .i64 fun n11 =>
  stc M6 ⟨k3, 0, none⟩ (.int .i64 n7) fun M12 =>
  stc M12 ⟨k3, (0 + 1), none⟩ (.slice A8 k9 k10) fun M13 =>
  stc M13 ⟨k3, (0 + 2), none⟩ (.int .i64 n11) fun M14 =>
  exI (Mem.ld M14 ⟨k3, 0, none⟩) .i64 fun n15 =>
  exSl (Mem.ld M14 ⟨k3, (0 + 1), none⟩) fun A16 k17 k18 =>
  exI (Mem.ld M14 ⟨k3, (0 + 2), none⟩) .i64 fun n19 =>
  K (.tuple #[(.agg #[(.int .i64 n15), (.slice A16 k17 k18), (.int .i64 n19)]), (.slice B2 m2 c2), (.int .i64 0)]) M14)
 (exI (Mem.ld M6 ⟨k1, 0, none⟩) .i64 fun n20 =>
  exSl (Mem.ld M6 ⟨k1, (0 + 1), none⟩) fun A21 k22 k23 =>
  exI (Mem.ld M6 ⟨k1, (0 + 2), none⟩) .i64 fun n24 =>
  ACalls Try.prog 97 #[(.agg #[(.int .i64 n20), (.slice A21 k22 k23), (.int .i64 n24)]), (.int .i64 n5), (.slice B2 m2 c2)] M6 (fun v25 M26 =>
  ∃ n27 : Int, ∃ A28 : Option Addr, ∃ k29 : Nat, ∃ k30 : Nat, ∃ n31 : Int, ∃ A32 : Option Addr, ∃ k33 : Nat, ∃ k34 : Nat, ∃ n35 : Int, (v25 = (.tuple #[(.agg #[(.int .i64 n27), (.slice A28 k29 k30), (.int .i64 n31)]), (.slice A32 k33 k34), (.int .i64 n35)])) ∧
  stc M26 ⟨k3, 0, none⟩ (.int .i64 n27) fun M36 =>
  stc M36 ⟨k3, (0 + 1), none⟩ (.slice A28 k29 k30) fun M37 =>
  stc M37 ⟨k3, (0 + 2), none⟩ (.int .i64 n31) fun M38 =>
  exI (Mem.ld M38 ⟨k3, 0, none⟩) .i64 fun n39 =>
  exSl (Mem.ld M38 ⟨k3, (0 + 1), none⟩) fun A40 k41 k42 =>
  exI (Mem.ld M38 ⟨k3, (0 + 2), none⟩) .i64 fun n43 =>
  K (.tuple #[(.agg #[(.int .i64 n39), (.slice A40 k41 k42), (.int .i64 n43)]), (.slice A32 k33 k34), (.int .i64 n35)]) M38) Kp)) :
  ACalls Try.prog 96 ([.agg #[.int .i64 x0_0, .slice B0_1 m0_1 c0_1, .int .i64 x0_2], .int .i64 x1, .slice B2 m2 c2] : List Value).toArray M K Kp :=
  acalls_vc (C := Cx) good [] Try.func96 (by kernel_rfl) (by kernel_rfl) h

theorem vc_shunterref08_Put {x0_0 : Int} {B0_1 : Option Addr} {m0_1 c0_1 : Nat} {x0_2 : Int} {x1 : Int} {B2 : Option Addr} {m2 c2 : Nat} {M : Mem} {K : Value → Mem → Prop} {Kp : List PanicEntry → Mem → Prop} (h :
nwc M (.cells #[(.int .i64 x0_0), (.slice B0_1 m0_1 c0_1), (.int .i64 x0_2)] 172 (0, 0)) fun k1 M2 =>
nwc M2 (.cells #[(.int .i64 0), (.slice none 0 0), (.int .i64 0)] 172 (0, 0)) fun k3 M4 =>
exSl (Mem.ld M4 ⟨k1, (0 + 1), none⟩) fun A5 k6 k7 =>
exI (Mem.ld M4 ⟨k1, (0 + 2), none⟩) .i64 fun n8 =>
bsp (decide ((((k6 : Nat) : Int) : Int) < n8))
 (exSl (Mem.ld M4 ⟨k1, (0 + 1), none⟩) fun A9 k10 k11 =>
  nwc M4 (.cells #[(.int .i64 x1)] 3 (0, 0)) fun k12 M13 =>
  ACalls Try.prog 110 #[(.slice A9 k10 k11), (.slice (some ⟨k12, 0, none⟩) 1 1)] M13 (fun v14 M15 =>
  exSl (some v14) fun A16 k17 k18 =>
  stc M15 ⟨k1, (0 + 1), none⟩ (.slice A16 k17 k18) fun M19 =>
  exI (Mem.ld M19 ⟨k1, 0, none⟩) .i64 fun n20 =>
  exSl (Mem.ld M19 ⟨k1, (0 + 1), none⟩) fun A21 k22 k23 =>
  exI (Mem.ld M19 ⟨k1, (0 + 2), none⟩) .i64 fun n24 =>
  stc M19 ⟨k3, 0, none⟩ (.int .i64 n20) fun M25 =>
  stc M25 ⟨k3, (0 + 1), none⟩ (.slice A21 k22 k23) fun M26 =>
  stc M26 ⟨k3, (0 + 2), none⟩ (.int .i64 n24) fun M27 =>
  exI (Mem.ld M27 ⟨k3, 0, none⟩) .i64 fun n28 =>
  exSl (Mem.ld M27 ⟨k3, (0 + 1), none⟩) fun A29 k30 k31 =>
  exI (Mem.ld M27 ⟨k3, (0 + 2), none⟩) .i64 fun n32 =>
  K (.tuple #[(.agg #[(.int .i64 n28), (.slice A29 k30 k31), (.int .i64 n32)]), (.slice B2 m2 c2), (.int .i64 0)]) M27) Kp)
 (exSl (Mem.ld M4 ⟨k1, (0 + 1), none⟩) fun A33 k34 k35 =>
  ((2 : Int) ≠ 0) ∧
  exSl (Mem.ld M4 ⟨k1, (0 + 1), none⟩) fun A36 k37 k38 =>
  ((0 : Int) ≤ ((k38 : Nat) : Int)) ∧
  ((((k38 : Nat) : Int) : Int) ≤ ((k38 : Nat) : Int)) ∧
  ((0 : Int) ≤ (IntKind.wrap .i64 (Int.tdiv ((k34 : Nat) : Int) 2))) ∧
  (((IntKind.wrap .i64 (Int.tdiv ((k34 : Nat) : Int) 2)) : Int) ≤ ((k38 : Nat) : Int)) ∧
  ((0 : Int) ≤ 0) ∧
  ((0 : Int) ≤ (IntKind.wrap .i64 (Int.tdiv ((k34 : Nat) : Int) 2))) ∧
  ACalls Try.prog 110 #[(.slice B2 m2 c2), (.slice (slA A36 0 (Int.toNat ((k38 : Nat) : Int)) 1) ((Int.toNat (IntKind.wrap .i64 (Int.tdiv ((k34 : Nat) : Int) 2))) - 0) ((Int.toNat ((k38 : Nat) : Int)) - 0))] M4 (fun v39 M40 =>
  exSl (some v39) fun A41 k42 k43 =>
  nwc M40 (.cells #[(.int .i64 x1)] 3 (0, 0)) fun k44 M45 =>
  ACalls Try.prog 110 #[(.slice A41 k42 k43), (.slice (some ⟨k44, 0, none⟩) 1 1)] M45 (fun v46 M47 =>
  exSl (some v46) fun A48 k49 k50 =>
  exSl (Mem.ld M47 ⟨k1, (0 + 1), none⟩) fun A51 k52 k53 =>
  ((0 : Int) ≤ ((k53 : Nat) : Int)) ∧
  ((((k53 : Nat) : Int) : Int) ≤ ((k53 : Nat) : Int)) ∧
  ((0 : Int) ≤ ((k52 : Nat) : Int)) ∧
  ((((k52 : Nat) : Int) : Int) ≤ ((k53 : Nat) : Int)) ∧
  ((0 : Int) ≤ (IntKind.wrap .i64 (Int.tdiv ((k34 : Nat) : Int) 2))) ∧
  (((IntKind.wrap .i64 (Int.tdiv ((k34 : Nat) : Int) 2)) : Int) ≤ ((k52 : Nat) : Int)) ∧
  ACalls Try.prog 110 #[(.slice none 0 0), (.slice (slA A51 (Int.toNat (IntKind.wrap .i64 (Int.tdiv ((k34 : Nat) : Int) 2))) (Int.toNat ((k53 : Nat) : Int)) 1) ((Int.toNat ((k52 : Nat) : Int)) - (Int.toNat (IntKind.wrap .i64 (Int.tdiv ((k34 : Nat) : Int) 2)))) ((Int.toNat ((k53 : Nat) : Int)) - (Int.toNat (IntKind.wrap .i64 (Int.tdiv ((k34 : Nat) : Int) 2)))))] M47 (fun v54 M55 =>
  exSl (some v54) fun A56 k57 k58 =>
  stc M55 ⟨k1, (0 + 1), none⟩ (.slice A56 k57 k58) fun M59 =>
  exI (Mem.ld M59 ⟨k1, 0, none⟩) .i64 fun n60 =>
  exSl (Mem.ld M59 ⟨k1, (0 + 1), none⟩) fun A61 k62 k63 =>
  exI (Mem.ld M59 ⟨k1, (0 + 2), none⟩) .i64 fun n64 =>
  stc M59 ⟨k3, 0, none⟩ (.int .i64 n60) fun M65 =>
  stc M65 ⟨k3, (0 + 1), none⟩ (.slice A61 k62 k63) fun M66 =>
  stc M66 ⟨k3, (0 + 2), none⟩ (.int .i64 n64) fun M67 =>
  exI (Mem.ld M67 ⟨k3, 0, none⟩) .i64 fun n68 =>
  exSl (Mem.ld M67 ⟨k3, (0 + 1), none⟩) fun A69 k70 k71 =>
  exI (Mem.ld M67 ⟨k3, (0 + 2), none⟩) .i64 fun n72 =>
  K (.tuple #[(.agg #[(.int .i64 n68), (.slice A69 k70 k71), (.int .i64 n72)]), (.slice A48 k49 k50), (.int .i64 (IntKind.wrap .i64 ((IntKind.wrap .i64 (Int.tdiv ((k34 : Nat) : Int) 2)) + 1)))]) M67) Kp) Kp) Kp)) :
  ACalls Try.prog 97 ([.agg #[.int .i64 x0_0, .slice B0_1 m0_1 c0_1, .int .i64 x0_2], .int .i64 x1, .slice B2 m2 c2] : List Value).toArray M K Kp :=
  acalls_vc (C := Cx) good [] Try.func97 (by kernel_rfl) (by kernel_rfl) h

theorem vc_shunterref08_Get {x0_0 : Int} {B0_1 : Option Addr} {m0_1 c0_1 : Nat} {x0_2 : Int} {M : Mem} {K : Value → Mem → Prop} {Kp : List PanicEntry → Mem → Prop} (h :
nwc M (.cells #[(.int .i64 x0_0), (.slice B0_1 m0_1 c0_1), (.int .i64 x0_2)] 172 (0, 0)) fun k1 M2 =>
nwc M2 (.cells #[(.int .i64 0), (.slice none 0 0), (.int .i64 0)] 172 (0, 0)) fun k3 M4 =>
exI (Mem.ld M4 ⟨k1, 0, none⟩) .i64 fun n5 =>
bsp (decide ((n5 : Int) ≥ 0))
 (stc M4 ⟨k1, 0, none⟩ (.int .i64 (-1)) fun M6 =>
  exI (Mem.ld M6 ⟨k1, 0, none⟩) .i64 fun n7 =>
  exSl (Mem.ld M6 ⟨k1, (0 + 1), none⟩) fun A8 k9 k10 =>
  exI (Mem.ld M6 ⟨k1, (0 + 2), none⟩) .i64 fun n11 =>
  stc M6 ⟨k3, 0, none⟩ (.int .i64 n7) fun M12 =>
  stc M12 ⟨k3, (0 + 1), none⟩ (.slice A8 k9 k10) fun M13 =>
  stc M13 ⟨k3, (0 + 2), none⟩ (.int .i64 n11) fun M14 =>
  exI (Mem.ld M14 ⟨k3, 0, none⟩) .i64 fun n15 =>
  exSl (Mem.ld M14 ⟨k3, (0 + 1), none⟩) fun A16 k17 k18 =>
  exI (Mem.ld M14 ⟨k3, (0 + 2), none⟩) .i64 fun n19 =>
  K (.tuple #[(.agg #[(.int .i64 n15), (.slice A16 k17 k18), (.int .i64 n19)]), (.int .i64 n5)]) M14)
 (exSl (Mem.ld M4 ⟨k1, (0 + 1), none⟩) fun A20 k21 k22 =>
  bsp (((k21 : Nat) : Int) == 0)
   (exI (Mem.ld M4 ⟨k1, 0, none⟩) .i64 fun n23 =>
    exSl (Mem.ld M4 ⟨k1, (0 + 1), none⟩) fun A24 k25 k26 =>
    exI (Mem.ld M4 ⟨k1, (0 + 2), none⟩) .i64 fun n27 =>
    stc M4 ⟨k3, 0, none⟩ (.int .i64 n23) fun M28 =>
    stc M28 ⟨k3, (0 + 1), none⟩ (.slice A24 k25 k26) fun M29 =>
    stc M29 ⟨k3, (0 + 2), none⟩ (.int .i64 n27) fun M30 =>
    exI (Mem.ld M30 ⟨k3, 0, none⟩) .i64 fun n31 =>
    exSl (Mem.ld M30 ⟨k3, (0 + 1), none⟩) fun A32 k33 k34 =>
    exI (Mem.ld M30 ⟨k3, (0 + 2), none⟩) .i64 fun n35 =>
    K (.tuple #[(.agg #[(.int .i64 n31), (.slice A32 k33 k34), (.int .i64 n35)]), (.int .i64 (-1))]) M30)
   (exSl (Mem.ld M4 ⟨k1, (0 + 1), none⟩) fun A36 k37 k38 =>
    ((0 : Int) ≤ 0) ∧
    ((0 : Int) < ((k37 : Nat) : Int)) ∧
    nilc A36 fun k39 k40 =>
    exI (Mem.ld M4 ⟨k39, (k40 + 0), none⟩) .i64 fun n41 =>
    exSl (Mem.ld M4 ⟨k1, (0 + 1), none⟩) fun A42 k43 k44 =>
    ((0 : Int) ≤ ((k44 : Nat) : Int)) ∧
    ((((k44 : Nat) : Int) : Int) ≤ ((k44 : Nat) : Int)) ∧
    ((0 : Int) ≤ ((k43 : Nat) : Int)) ∧
    ((((k43 : Nat) : Int) : Int) ≤ ((k44 : Nat) : Int)) ∧
    ((0 : Int) ≤ 1) ∧
    ((1 : Int) ≤ ((k43 : Nat) : Int)) ∧
    ACalls Try.prog 110 #[(.slice none 0 0), (.slice (slA A42 1 (Int.toNat ((k44 : Nat) : Int)) 1) ((Int.toNat ((k43 : Nat) : Int)) - 1) ((Int.toNat ((k44 : Nat) : Int)) - 1))] M4 (fun v45 M46 =>
    exSl (some v45) fun A47 k48 k49 =>
    stc M46 ⟨k1, (0 + 1), none⟩ (.slice A47 k48 k49) fun M50 =>
    exI (Mem.ld M50 ⟨k1, 0, none⟩) .i64 fun n51 =>
    exSl (Mem.ld M50 ⟨k1, (0 + 1), none⟩) fun A52 k53 k54 =>
    exI (Mem.ld M50 ⟨k1, (0 + 2), none⟩) .i64 fun n55 =>
    stc M50 ⟨k3, 0, none⟩ (.int .i64 n51) fun M56 =>
    stc M56 ⟨k3, (0 + 1), none⟩ (.slice A52 k53 k54) fun M57 =>
    stc M57 ⟨k3, (0 + 2), none⟩ (.int .i64 n55) fun M58 =>
    exI (Mem.ld M58 ⟨k3, 0, none⟩) .i64 fun n59 =>
    exSl (Mem.ld M58 ⟨k3, (0 + 1), none⟩) fun A60 k61 k62 =>
    exI (Mem.ld M58 ⟨k3, (0 + 2), none⟩) .i64 fun n63 =>
    K (.tuple #[(.agg #[(.int .i64 n59), (.slice A60 k61 k62), (.int .i64 n63)]), (.int .i64 n41)]) M58) Kp))) :
  ACalls Try.prog 98 ([.agg #[.int .i64 x0_0, .slice B0_1 m0_1 c0_1, .int .i64 x0_2]] : List Value).toArray M K Kp :=
  acalls_vc (C := Cx) good [] Try.func98 (by kernel_rfl) (by kernel_rfl) h

theorem vc_shunterlaw08_world_got {b0 o0 : Nat} {x1 : Int} {q2 : Bool} {x3 : Int} {M : Mem} {K : Value → Mem → Prop} {Kp : List PanicEntry → Mem → Prop} (h :
bsp (decide ((x3 : Int) ≥ 0))
 (exSl (Mem.ld M ⟨b0, (o0 + 5), none⟩) fun A1 k2 k3 =>
  nwc M (.cells #[(.int .i64 x3)] 3 (0, 0)) fun k4 M5 =>
  semK Try.prog (Go.Builtin.append_ #[39, 39] 39 #[(.slice A1 k2 k3), (.slice (some ⟨k4, 0, none⟩) 1 1)]) M5 (fun v6 M7 =>
  exSl (some v6) fun A8 k9 k10 =>
  stc M7 ⟨b0, (o0 + 5), none⟩ (.slice A8 k9 k10) fun M11 =>
  bsp (x1 == x3)
   (K (.bool (q2 == (decide ((x3 : Int) ≥ 0)))) M11)
   (K (.bool false) M11)) Kp)
 (bsp (x1 == x3)
   (K (.bool (q2 == (decide ((x3 : Int) ≥ 0)))) M)
   (K (.bool false) M))) :
  ACalls Try.prog 99 ([.pointer (some ⟨b0, o0, none⟩), .int .i64 x1, .bool q2, .int .i64 x3] : List Value).toArray M K Kp :=
  acalls_vc (C := Cx) good [] Try.func99 (by kernel_rfl) (by kernel_rfl) h

theorem vc_local_Local_Fetch {b0 o0 : Nat} {b1 o1 : Nat} {x2 : Int} {M : Mem} {K : Value → Mem → Prop} {Kp : List PanicEntry → Mem → Prop} (h :
exP (Mem.ld M ⟨b0, (o0 + 1), none⟩) fun A1 =>
exP (Mem.ld M ⟨b0, (o0 + 1), none⟩) fun A2 =>
ACalls Try.prog 60 #[(.pointer (some ⟨b1, o1, none⟩))] M (fun v3 M4 =>
exI (some v3) .i64 fun n5 =>
((Mem.ld M4 ⟨b0, (o0 + 1), none⟩) = (some (.pointer A2))) ∧
((Mem.ld M4 ⟨b0, (o0 + 1), none⟩) = (some (.pointer A1))) ∧
(((if (1 : Int) > x2 then 1 else x2) : Int) ≠ 0) ∧
ACalls Try.prog 28 #[(.pointer A1)] M4 (fun v6 M7 =>
exI (some v6) .i64 fun n8 =>
((Mem.ld M7 ⟨b0, (o0 + 1), none⟩) = (some (.pointer A2))) ∧
((Mem.ld M7 ⟨b0, (o0 + 1), none⟩) = (some (.pointer A1))) ∧
ACalls Try.prog 31 #[(.pointer A2)] M7 (fun v9 M10 =>
exI (some v9) .i64 fun n11 =>
((Mem.ld M10 ⟨b0, (o0 + 1), none⟩) = (some (.pointer A2))) ∧
((Mem.ld M10 ⟨b0, (o0 + 1), none⟩) = (some (.pointer A1))) ∧
bsp (decide ((x2 : Int) < 1))
 (ACalls Try.prog 105 #[(.pointer (some ⟨b1, o1, none⟩)), (.int .i64 1)] M10 (fun v12 M13 =>
  exSl (some v12) fun A14 k15 k16 =>
  bsp (((k15 : Nat) : Int) == 0)
   (K (.tuple #[(.int .i64 (-1)), (.bool false)]) M13)
   (((0 : Int) ≤ ((k16 : Nat) : Int)) ∧
    ((((k16 : Nat) : Int) : Int) ≤ ((k16 : Nat) : Int)) ∧
    ((0 : Int) ≤ ((k15 : Nat) : Int)) ∧
    ((((k15 : Nat) : Int) : Int) ≤ ((k16 : Nat) : Int)) ∧
    ((0 : Int) ≤ 1) ∧
    ((1 : Int) ≤ ((k15 : Nat) : Int)) ∧
    ∃ I17 : Nat → List Value → Mem → Prop, (∃ k18 : Nat, I17 k18 [(.int .i64 0)] M13) ∧
    ∀ k19 : Nat, ∀ junk20 : Nat → Value, ∀ n21 : Int, ∀ M22 : Mem, (I17 k19 [(.int .i64 n21)] M22) → bsp (decide ((n21 : Int) < ((((Int.toNat ((k15 : Nat) : Int)) - 1) : Nat) : Int)))
     (((0 : Int) ≤ n21) ∧
      ((n21 : Int) < ((((Int.toNat ((k15 : Nat) : Int)) - 1) : Nat) : Int)) ∧
      nilc (slA A14 1 (Int.toNat ((k16 : Nat) : Int)) 1) fun k23 k24 =>
      exI (Mem.ld M22 ⟨k23, (k24 + (Int.toNat n21)), none⟩) .i64 fun n25 =>
      exP (Mem.ld M22 ⟨b0, (o0 + 1), none⟩) fun A26 =>
      ACalls Try.prog 29 #[(.pointer A26), (.int .i64 n25)] M22 (fun v27 M28 =>
      exB (some v27) fun t29 =>
      ∃ k30 : Nat, (k30 < k19) ∧
      I17 k30 [(.int .i64 (IntKind.wrap .i64 (n21 + 1)))] M28) Kp)
     (((0 : Int) ≤ 0) ∧
      ((0 : Int) < ((k15 : Nat) : Int)) ∧
      nilc A14 fun k31 k32 =>
      exI (Mem.ld M22 ⟨k31, (k32 + 0), none⟩) .i64 fun n33 =>
      K (.tuple #[(.int .i64 n33), (.bool true)]) M22))) Kp)
 (ACalls Try.prog 105 #[(.pointer (some ⟨b1, o1, none⟩)), (.int .i64 (if ((IntKind.wrap .i64 ((IntKind.wrap .i64 (n8 - n11)) + 1)) : Int) < (IntKind.wrap .i64 ((IntKind.wrap .i64 (Int.tdiv n5 (if (1 : Int) > x2 then 1 else x2))) + 1)) then (IntKind.wrap .i64 ((IntKind.wrap .i64 (n8 - n11)) + 1)) else (IntKind.wrap .i64 ((IntKind.wrap .i64 (Int.tdiv n5 (if (1 : Int) > x2 then 1 else x2))) + 1))))] M10 (fun v34 M35 =>
  exSl (some v34) fun A36 k37 k38 =>
  bsp (((k37 : Nat) : Int) == 0)
   (K (.tuple #[(.int .i64 (-1)), (.bool false)]) M35)
   (((0 : Int) ≤ ((k38 : Nat) : Int)) ∧
    ((((k38 : Nat) : Int) : Int) ≤ ((k38 : Nat) : Int)) ∧
    ((0 : Int) ≤ ((k37 : Nat) : Int)) ∧
    ((((k37 : Nat) : Int) : Int) ≤ ((k38 : Nat) : Int)) ∧
    ((0 : Int) ≤ 1) ∧
    ((1 : Int) ≤ ((k37 : Nat) : Int)) ∧
    ∃ I39 : Nat → List Value → Mem → Prop, (∃ k40 : Nat, I39 k40 [(.int .i64 0)] M35) ∧
    ∀ k41 : Nat, ∀ junk42 : Nat → Value, ∀ n43 : Int, ∀ M44 : Mem, (I39 k41 [(.int .i64 n43)] M44) → bsp (decide ((n43 : Int) < ((((Int.toNat ((k37 : Nat) : Int)) - 1) : Nat) : Int)))
     (((0 : Int) ≤ n43) ∧
      ((n43 : Int) < ((((Int.toNat ((k37 : Nat) : Int)) - 1) : Nat) : Int)) ∧
      nilc (slA A36 1 (Int.toNat ((k38 : Nat) : Int)) 1) fun k45 k46 =>
      exI (Mem.ld M44 ⟨k45, (k46 + (Int.toNat n43)), none⟩) .i64 fun n47 =>
      exP (Mem.ld M44 ⟨b0, (o0 + 1), none⟩) fun A48 =>
      ACalls Try.prog 29 #[(.pointer A48), (.int .i64 n47)] M44 (fun v49 M50 =>
      exB (some v49) fun t51 =>
      ∃ k52 : Nat, (k52 < k41) ∧
      I39 k52 [(.int .i64 (IntKind.wrap .i64 (n43 + 1)))] M50) Kp)
     (((0 : Int) ≤ 0) ∧
      ((0 : Int) < ((k37 : Nat) : Int)) ∧
      nilc A36 fun k53 k54 =>
      exI (Mem.ld M44 ⟨k53, (k54 + 0), none⟩) .i64 fun n55 =>
      K (.tuple #[(.int .i64 n55), (.bool true)]) M44))) Kp)) Kp) Kp) Kp) :
  ACalls Try.prog 100 ([.pointer (some ⟨b0, o0, none⟩), .pointer (some ⟨b1, o1, none⟩), .int .i64 x2] : List Value).toArray M K Kp :=
  acalls_vc (C := Cx) good [(1, .reg [0, 1, 0, 4, 15, 31, 0, 64, 192, 448, 963, 0, 2048, 6144, 14336, 32707, 65475, 131011, 262143, 524287] (.step 0 (.step 2 (.step 3 (.step 6 (.step 7 (.step 8 (.step 11 (.step 12 (.step 13 (.prom 9 (.prom 14 (.step 1 (.step 4 (.step 5 (.step 10 (.step 15 (.step 16 (.step 17 (.step 18 (.step 19 .done))))))))))))))))))))), (2000000, .loop [(42, .c (.int .i64))])] Try.func100 (by kernel_rfl) (by kernel_rfl) h

theorem vc_shunterref08_Fetch {x0_0 : Int} {B0_1 : Option Addr} {m0_1 c0_1 : Nat} {x0_2 : Int} {B1 : Option Addr} {m1 c1 : Nat} {x2 : Int} {M : Mem} {K : Value → Mem → Prop} {Kp : List PanicEntry → Mem → Prop} (h :
nwc M (.cells #[(.int .i64 x0_0), (.slice B0_1 m0_1 c0_1), (.int .i64 x0_2)] 172 (0, 0)) fun k1 M2 =>
nwc M2 (.cells #[(.int .i64 0), (.slice none 0 0), (.int .i64 0)] 172 (0, 0)) fun k3 M4 =>
bsp (decide ((x2 : Int) > 0))
 (((x2 : Int) ≠ 0) ∧
  exI (Mem.ld M4 ⟨k1, (0 + 2), none⟩) .i64 fun n5 =>
  exSl (Mem.ld M4 ⟨k1, (0 + 1), none⟩) fun A6 k7 k8 =>
  bsp ((if (((m1 : Nat) : Int) : Int) < (if ((IntKind.wrap .i64 ((IntKind.wrap .i64 (n5 - ((k7 : Nat) : Int))) + 1)) : Int) < (IntKind.wrap .i64 ((IntKind.wrap .i64 (Int.tdiv ((m1 : Nat) : Int) x2)) + 1)) then (IntKind.wrap .i64 ((IntKind.wrap .i64 (n5 - ((k7 : Nat) : Int))) + 1)) else (IntKind.wrap .i64 ((IntKind.wrap .i64 (Int.tdiv ((m1 : Nat) : Int) x2)) + 1))) then ((m1 : Nat) : Int) else (if ((IntKind.wrap .i64 ((IntKind.wrap .i64 (n5 - ((k7 : Nat) : Int))) + 1)) : Int) < (IntKind.wrap .i64 ((IntKind.wrap .i64 (Int.tdiv ((m1 : Nat) : Int) x2)) + 1)) then (IntKind.wrap .i64 ((IntKind.wrap .i64 (n5 - ((k7 : Nat) : Int))) + 1)) else (IntKind.wrap .i64 ((IntKind.wrap .i64 (Int.tdiv ((m1 : Nat) : Int) x2)) + 1)))) == 0)
   (exI (Mem.ld M4 ⟨k1, 0, none⟩) .i64 fun n9 =>
    exSl (Mem.ld M4 ⟨k1, (0 + 1), none⟩) fun A10 k11 k12 =>
    exI (Mem.ld M4 ⟨k1, (0 + 2), none⟩) .i64 fun n13 =>
    stc M4 ⟨k3, 0, none⟩ (.int .i64 n9) fun M14 =>
    stc M14 ⟨k3, (0 + 1), none⟩ (.slice A10 k11 k12) fun M15 =>
    stc M15 ⟨k3, (0 + 2), none⟩ (.int .i64 n13) fun M16 =>
    exI (Mem.ld M16 ⟨k3, 0, none⟩) .i64 fun n17 =>
    exSl (Mem.ld M16 ⟨k3, (0 + 1), none⟩) fun A18 k19 k20 =>
    exI (Mem.ld M16 ⟨k3, (0 + 2), none⟩) .i64 fun n21 =>
    K (.tuple #[(.agg #[(.int .i64 n17), (.slice A18 k19 k20), (.int .i64 n21)]), (.slice B1 m1 c1), (.int .i64 (-1))]) M16)
   (((0 : Int) ≤ ((c1 : Nat) : Int)) ∧
    ((((c1 : Nat) : Int) : Int) ≤ ((c1 : Nat) : Int)) ∧
    ((0 : Int) ≤ (if (((m1 : Nat) : Int) : Int) < (if ((IntKind.wrap .i64 ((IntKind.wrap .i64 (n5 - ((k7 : Nat) : Int))) + 1)) : Int) < (IntKind.wrap .i64 ((IntKind.wrap .i64 (Int.tdiv ((m1 : Nat) : Int) x2)) + 1)) then (IntKind.wrap .i64 ((IntKind.wrap .i64 (n5 - ((k7 : Nat) : Int))) + 1)) else (IntKind.wrap .i64 ((IntKind.wrap .i64 (Int.tdiv ((m1 : Nat) : Int) x2)) + 1))) then ((m1 : Nat) : Int) else (if ((IntKind.wrap .i64 ((IntKind.wrap .i64 (n5 - ((k7 : Nat) : Int))) + 1)) : Int) < (IntKind.wrap .i64 ((IntKind.wrap .i64 (Int.tdiv ((m1 : Nat) : Int) x2)) + 1)) then (IntKind.wrap .i64 ((IntKind.wrap .i64 (n5 - ((k7 : Nat) : Int))) + 1)) else (IntKind.wrap .i64 ((IntKind.wrap .i64 (Int.tdiv ((m1 : Nat) : Int) x2)) + 1))))) ∧
    (((if (((m1 : Nat) : Int) : Int) < (if ((IntKind.wrap .i64 ((IntKind.wrap .i64 (n5 - ((k7 : Nat) : Int))) + 1)) : Int) < (IntKind.wrap .i64 ((IntKind.wrap .i64 (Int.tdiv ((m1 : Nat) : Int) x2)) + 1)) then (IntKind.wrap .i64 ((IntKind.wrap .i64 (n5 - ((k7 : Nat) : Int))) + 1)) else (IntKind.wrap .i64 ((IntKind.wrap .i64 (Int.tdiv ((m1 : Nat) : Int) x2)) + 1))) then ((m1 : Nat) : Int) else (if ((IntKind.wrap .i64 ((IntKind.wrap .i64 (n5 - ((k7 : Nat) : Int))) + 1)) : Int) < (IntKind.wrap .i64 ((IntKind.wrap .i64 (Int.tdiv ((m1 : Nat) : Int) x2)) + 1)) then (IntKind.wrap .i64 ((IntKind.wrap .i64 (n5 - ((k7 : Nat) : Int))) + 1)) else (IntKind.wrap .i64 ((IntKind.wrap .i64 (Int.tdiv ((m1 : Nat) : Int) x2)) + 1)))) : Int) ≤ ((c1 : Nat) : Int)) ∧
    ((0 : Int) ≤ 1) ∧
    ((1 : Int) ≤ (if (((m1 : Nat) : Int) : Int) < (if ((IntKind.wrap .i64 ((IntKind.wrap .i64 (n5 - ((k7 : Nat) : Int))) + 1)) : Int) < (IntKind.wrap .i64 ((IntKind.wrap .i64 (Int.tdiv ((m1 : Nat) : Int) x2)) + 1)) then (IntKind.wrap .i64 ((IntKind.wrap .i64 (n5 - ((k7 : Nat) : Int))) + 1)) else (IntKind.wrap .i64 ((IntKind.wrap .i64 (Int.tdiv ((m1 : Nat) : Int) x2)) + 1))) then ((m1 : Nat) : Int) else (if ((IntKind.wrap .i64 ((IntKind.wrap .i64 (n5 - ((k7 : Nat) : Int))) + 1)) : Int) < (IntKind.wrap .i64 ((IntKind.wrap .i64 (Int.tdiv ((m1 : Nat) : Int) x2)) + 1)) then (IntKind.wrap .i64 ((IntKind.wrap .i64 (n5 - ((k7 : Nat) : Int))) + 1)) else (IntKind.wrap .i64 ((IntKind.wrap .i64 (Int.tdiv ((m1 : Nat) : Int) x2)) + 1))))) ∧
    exSl (Mem.ld M4 ⟨k1, (0 + 1), none⟩) fun A22 k23 k24 =>
    ACalls Try.prog 110 #[(.slice A22 k23 k24), (.slice (slA B1 1 (Int.toNat ((c1 : Nat) : Int)) 1) ((Int.toNat (if (((m1 : Nat) : Int) : Int) < (if ((IntKind.wrap .i64 ((IntKind.wrap .i64 (n5 - ((k7 : Nat) : Int))) + 1)) : Int) < (IntKind.wrap .i64 ((IntKind.wrap .i64 (Int.tdiv ((m1 : Nat) : Int) x2)) + 1)) then (IntKind.wrap .i64 ((IntKind.wrap .i64 (n5 - ((k7 : Nat) : Int))) + 1)) else (IntKind.wrap .i64 ((IntKind.wrap .i64 (Int.tdiv ((m1 : Nat) : Int) x2)) + 1))) then ((m1 : Nat) : Int) else (if ((IntKind.wrap .i64 ((IntKind.wrap .i64 (n5 - ((k7 : Nat) : Int))) + 1)) : Int) < (IntKind.wrap .i64 ((IntKind.wrap .i64 (Int.tdiv ((m1 : Nat) : Int) x2)) + 1)) then (IntKind.wrap .i64 ((IntKind.wrap .i64 (n5 - ((k7 : Nat) : Int))) + 1)) else (IntKind.wrap .i64 ((IntKind.wrap .i64 (Int.tdiv ((m1 : Nat) : Int) x2)) + 1))))) - 1) ((Int.toNat ((c1 : Nat) : Int)) - 1))] M4 (fun v25 M26 =>
    exSl (some v25) fun A27 k28 k29 =>
    stc M26 ⟨k1, (0 + 1), none⟩ (.slice A27 k28 k29) fun M30 =>
    ((0 : Int) ≤ ((c1 : Nat) : Int)) ∧
    ((((c1 : Nat) : Int) : Int) ≤ ((c1 : Nat) : Int)) ∧
    ((0 : Int) ≤ ((m1 : Nat) : Int)) ∧
    ((((m1 : Nat) : Int) : Int) ≤ ((c1 : Nat) : Int)) ∧
    ((0 : Int) ≤ (if (((m1 : Nat) : Int) : Int) < (if ((IntKind.wrap .i64 ((IntKind.wrap .i64 (n5 - ((k7 : Nat) : Int))) + 1)) : Int) < (IntKind.wrap .i64 ((IntKind.wrap .i64 (Int.tdiv ((m1 : Nat) : Int) x2)) + 1)) then (IntKind.wrap .i64 ((IntKind.wrap .i64 (n5 - ((k7 : Nat) : Int))) + 1)) else (IntKind.wrap .i64 ((IntKind.wrap .i64 (Int.tdiv ((m1 : Nat) : Int) x2)) + 1))) then ((m1 : Nat) : Int) else (if ((IntKind.wrap .i64 ((IntKind.wrap .i64 (n5 - ((k7 : Nat) : Int))) + 1)) : Int) < (IntKind.wrap .i64 ((IntKind.wrap .i64 (Int.tdiv ((m1 : Nat) : Int) x2)) + 1)) then (IntKind.wrap .i64 ((IntKind.wrap .i64 (n5 - ((k7 : Nat) : Int))) + 1)) else (IntKind.wrap .i64 ((IntKind.wrap .i64 (Int.tdiv ((m1 : Nat) : Int) x2)) + 1))))) ∧
    (((if (((m1 : Nat) : Int) : Int) < (if ((IntKind.wrap .i64 ((IntKind.wrap .i64 (n5 - ((k7 : Nat) : Int))) + 1)) : Int) < (IntKind.wrap .i64 ((IntKind.wrap .i64 (Int.tdiv ((m1 : Nat) : Int) x2)) + 1)) then (IntKind.wrap .i64 ((IntKind.wrap .i64 (n5 - ((k7 : Nat) : Int))) + 1)) else (IntKind.wrap .i64 ((IntKind.wrap .i64 (Int.tdiv ((m1 : Nat) : Int) x2)) + 1))) then ((m1 : Nat) : Int) else (if ((IntKind.wrap .i64 ((IntKind.wrap .i64 (n5 - ((k7 : Nat) : Int))) + 1)) : Int) < (IntKind.wrap .i64 ((IntKind.wrap .i64 (Int.tdiv ((m1 : Nat) : Int) x2)) + 1)) then (IntKind.wrap .i64 ((IntKind.wrap .i64 (n5 - ((k7 : Nat) : Int))) + 1)) else (IntKind.wrap .i64 ((IntKind.wrap .i64 (Int.tdiv ((m1 : Nat) : Int) x2)) + 1)))) : Int) ≤ ((m1 : Nat) : Int)) ∧
    ((0 : Int) ≤ 0) ∧
    ((0 : Int) < ((m1 : Nat) : Int)) ∧
    nilc B1 fun k31 k32 =>
    exI (Mem.ld M30 ⟨k1, 0, none⟩) .i64 fun n33 =>
    exSl (Mem.ld M30 ⟨k1, (0 + 1), none⟩) fun A34 k35 k36 =>
    exI (Mem.ld M30 ⟨k1, (0 + 2), none⟩) .i64 fun n37 =>
    exI (Mem.ld M30 ⟨k31, (k32 + 0), none⟩) .i64 fun n38 =>
    ACalls Try.prog 110 #[(.slice none 0 0), (.slice (slA B1 (Int.toNat (if (((m1 : Nat) : Int) : Int) < (if ((IntKind.wrap .i64 ((IntKind.wrap .i64 (n5 - ((k7 : Nat) : Int))) + 1)) : Int) < (IntKind.wrap .i64 ((IntKind.wrap .i64 (Int.tdiv ((m1 : Nat) : Int) x2)) + 1)) then (IntKind.wrap .i64 ((IntKind.wrap .i64 (n5 - ((k7 : Nat) : Int))) + 1)) else (IntKind.wrap .i64 ((IntKind.wrap .i64 (Int.tdiv ((m1 : Nat) : Int) x2)) + 1))) then ((m1 : Nat) : Int) else (if ((IntKind.wrap .i64 ((IntKind.wrap .i64 (n5 - ((k7 : Nat) : Int))) + 1)) : Int) < (IntKind.wrap .i64 ((IntKind.wrap .i64 (Int.tdiv ((m1 : Nat) : Int) x2)) + 1)) then (IntKind.wrap .i64 ((IntKind.wrap .i64 (n5 - ((k7 : Nat) : Int))) + 1)) else (IntKind.wrap .i64 ((IntKind.wrap .i64 (Int.tdiv ((m1 : Nat) : Int) x2)) + 1))))) (Int.toNat ((c1 : Nat) : Int)) 1) ((Int.toNat ((m1 : Nat) : Int)) - (Int.toNat (if (((m1 : Nat) : Int) : Int) < (if ((IntKind.wrap .i64 ((IntKind.wrap .i64 (n5 - ((k7 : Nat) : Int))) + 1)) : Int) < (IntKind.wrap .i64 ((IntKind.wrap .i64 (Int.tdiv ((m1 : Nat) : Int) x2)) + 1)) then (IntKind.wrap .i64 ((IntKind.wrap .i64 (n5 - ((k7 : Nat) : Int))) + 1)) else (IntKind.wrap .i64 ((IntKind.wrap .i64 (Int.tdiv ((m1 : Nat) : Int) x2)) + 1))) then ((m1 : Nat) : Int) else (if ((IntKind.wrap .i64 ((IntKind.wrap .i64 (n5 - ((k7 : Nat) : Int))) + 1)) : Int) < (IntKind.wrap .i64 ((IntKind.wrap .i64 (Int.tdiv ((m1 : Nat) : Int) x2)) + 1)) then (IntKind.wrap .i64 ((IntKind.wrap .i64 (n5 - ((k7 : Nat) : Int))) + 1)) else (IntKind.wrap .i64 ((IntKind.wrap .i64 (Int.tdiv ((m1 : Nat) : Int) x2)) + 1)))))) ((Int.toNat ((c1 : Nat) : Int)) - (Int.toNat (if (((m1 : Nat) : Int) : Int) < (if ((IntKind.wrap .i64 ((IntKind.wrap .i64 (n5 - ((k7 : Nat) : Int))) + 1)) : Int) < (IntKind.wrap .i64 ((IntKind.wrap .i64 (Int.tdiv ((m1 : Nat) : Int) x2)) + 1)) then (IntKind.wrap .i64 ((IntKind.wrap .i64 (n5 - ((k7 : Nat) : Int))) + 1)) else (IntKind.wrap .i64 ((IntKind.wrap .i64 (Int.tdiv ((m1 : Nat) : Int) x2)) + 1))) then ((m1 : Nat) : Int) else (if ((IntKind.wrap .i64 ((IntKind.wrap .i64 (n5 - ((k7 : Nat) : Int))) + 1)) : Int) < (IntKind.wrap .i64 ((IntKind.wrap .i64 (Int.tdiv ((m1 : Nat) : Int) x2)) + 1)) then (IntKind.wrap .i64 ((IntKind.wrap .i64 (n5 - ((k7 : Nat) : Int))) + 1)) else (IntKind.wrap .i64 ((IntKind.wrap .i64 (Int.tdiv ((m1 : Nat) : Int) x2)) + 1)))))))] M30 (fun v39 M40 =>
    exSl (some v39) fun A41 k42 k43 =>
    ((Mem.ld M40 ⟨k31, (k32 + 0), none⟩) = (some (.int .i64 n38))) ∧
    ((Mem.lds M40 ⟨k1, 0, none⟩ 0 3) = some [(.int .i64 n33), (.slice A34 k35 k36), (.int .i64 n37)]) ∧
    stc M40 ⟨k3, 0, none⟩ (.int .i64 n33) fun M44 =>
    stc M44 ⟨k3, (0 + 1), none⟩ (.slice A34 k35 k36) fun M45 =>
    stc M45 ⟨k3, (0 + 2), none⟩ (.int .i64 n37) fun M46 =>
    ((Mem.ld M46 ⟨k31, (k32 + 0), none⟩) = (some (.int .i64 n38))) ∧
    ((Mem.lds M46 ⟨k1, 0, none⟩ 0 3) = some [(.int .i64 n33), (.slice A34 k35 k36), (.int .i64 n37)]) ∧
    exI (Mem.ld M46 ⟨k3, 0, none⟩) .i64 fun n47 =>
    exSl (Mem.ld M46 ⟨k3, (0 + 1), none⟩) fun A48 k49 k50 =>
    exI (Mem.ld M46 ⟨k3, (0 + 2), none⟩) .i64 fun n51 =>
    K (.tuple #[(.agg #[(.int .i64 n47), (.slice A48 k49 k50), (.int .i64 n51)]), (.slice A41 k42 k43), (.int .i64 n38)]) M46) Kp) Kp))
 (exI (Mem.ld M4 ⟨k1, (0 + 2), none⟩) .i64 fun n52 =>
  exSl (Mem.ld M4 ⟨k1, (0 + 1), none⟩) fun A53 k54 k55 =>
  bsp ((if (((m1 : Nat) : Int) : Int) < (if ((IntKind.wrap .i64 ((IntKind.wrap .i64 (n52 - ((k54 : Nat) : Int))) + 1)) : Int) < 1 then (IntKind.wrap .i64 ((IntKind.wrap .i64 (n52 - ((k54 : Nat) : Int))) + 1)) else 1) then ((m1 : Nat) : Int) else (if ((IntKind.wrap .i64 ((IntKind.wrap .i64 (n52 - ((k54 : Nat) : Int))) + 1)) : Int) < 1 then (IntKind.wrap .i64 ((IntKind.wrap .i64 (n52 - ((k54 : Nat) : Int))) + 1)) else 1)) == 0)
   (exI (Mem.ld M4 ⟨k1, 0, none⟩) .i64 fun n56 =>
    exSl (Mem.ld M4 ⟨k1, (0 + 1), none⟩) fun A57 k58 k59 =>
    exI (Mem.ld M4 ⟨k1, (0 + 2), none⟩) .i64 fun n60 =>
    stc M4 ⟨k3, 0, none⟩ (.int .i64 n56) fun M61 =>
    stc M61 ⟨k3, (0 + 1), none⟩ (.slice A57 k58 k59) fun M62 =>
    stc M62 ⟨k3, (0 + 2), none⟩ (.int .i64 n60) fun M63 =>
    exI (Mem.ld M63 ⟨k3, 0, none⟩) .i64 fun n64 =>
    exSl (Mem.ld M63 ⟨k3, (0 + 1), none⟩) fun A65 k66 k67 =>
    exI (Mem.ld M63 ⟨k3, (0 + 2), none⟩) .i64 fun n68 =>
    K (.tuple #[(.agg #[(.int .i64 n64), (.slice A65 k66 k67), (.int .i64 n68)]), (.slice B1 m1 c1), (.int .i64 (-1))]) M63)
   (((0 : Int) ≤ ((c1 : Nat) : Int)) ∧
    ((((c1 : Nat) : Int) : Int) ≤ ((c1 : Nat) : Int)) ∧
    ((0 : Int) ≤ (if (((m1 : Nat) : Int) : Int) < (if ((IntKind.wrap .i64 ((IntKind.wrap .i64 (n52 - ((k54 : Nat) : Int))) + 1)) : Int) < 1 then (IntKind.wrap .i64 ((IntKind.wrap .i64 (n52 - ((k54 : Nat) : Int))) + 1)) else 1) then ((m1 : Nat) : Int) else (if ((IntKind.wrap .i64 ((IntKind.wrap .i64 (n52 - ((k54 : Nat) : Int))) + 1)) : Int) < 1 then (IntKind.wrap .i64 ((IntKind.wrap .i64 (n52 - ((k54 : Nat) : Int))) + 1)) else 1))) ∧
    (((if (((m1 : Nat) : Int) : Int) < (if ((IntKind.wrap .i64 ((IntKind.wrap .i64 (n52 - ((k54 : Nat) : Int))) + 1)) : Int) < 1 then (IntKind.wrap .i64 ((IntKind.wrap .i64 (n52 - ((k54 : Nat) : Int))) + 1)) else 1) then ((m1 : Nat) : Int) else (if ((IntKind.wrap .i64 ((IntKind.wrap .i64 (n52 - ((k54 : Nat) : Int))) + 1)) : Int) < 1 then (IntKind.wrap .i64 ((IntKind.wrap .i64 (n52 - ((k54 : Nat) : Int))) + 1)) else 1)) : Int) ≤ ((c1 : Nat) : Int)) ∧
    ((0 : Int) ≤ 1) ∧
    ((1 : Int) ≤ (if (((m1 : Nat) : Int) : Int) < (if ((IntKind.wrap .i64 ((IntKind.wrap .i64 (n52 - ((k54 : Nat) : Int))) + 1)) : Int) < 1 then (IntKind.wrap .i64 ((IntKind.wrap .i64 (n52 - ((k54 : Nat) : Int))) + 1)) else 1) then ((m1 : Nat) : Int) else (if ((IntKind.wrap .i64 ((IntKind.wrap .i64 (n52 - ((k54 : Nat) : Int))) + 1)) : Int) < 1 then (IntKind.wrap .i64 ((IntKind.wrap .i64 (n52 - ((k54 : Nat) : Int))) + 1)) else 1))) ∧
    exSl (Mem.ld M4 ⟨k1, (0 + 1), none⟩) fun A69 k70 k71 =>
    ACalls Try.prog 110 #[(.slice A69 k70 k71), (.slice (slA B1 1 (Int.toNat ((c1 : Nat) : Int)) 1) ((Int.toNat (if (((m1 : Nat) : Int) : Int) < (if ((IntKind.wrap .i64 ((IntKind.wrap .i64 (n52 - ((k54 : Nat) : Int))) + 1)) : Int) < 1 then (IntKind.wrap .i64 ((IntKind.wrap .i64 (n52 - ((k54 : Nat) : Int))) + 1)) else 1) then ((m1 : Nat) : Int) else (if ((IntKind.wrap .i64 ((IntKind.wrap .i64 (n52 - ((k54 : Nat) : Int))) + 1)) : Int) < 1 then (IntKind.wrap .i64 ((IntKind.wrap .i64 (n52 - ((k54 : Nat) : Int))) + 1)) else 1))) - 1) ((Int.toNat ((c1 : Nat) : Int)) - 1))] M4 (fun v72 M73 =>
    exSl (some v72) fun A74 k75 k76 =>
    stc M73 ⟨k1, (0 + 1), none⟩ (.slice A74 k75 k76) fun M77 =>
    ((0 : Int) ≤ ((c1 : Nat) : Int)) ∧
    ((((c1 : Nat) : Int) : Int) ≤ ((c1 : Nat) : Int)) ∧
    ((0 : Int) ≤ ((m1 : Nat) : Int)) ∧
    ((((m1 : Nat) : Int) : Int) ≤ ((c1 : Nat) : Int)) ∧
    ((0 : Int) ≤ (if (((m1 : Nat) : Int) : Int) < (if ((IntKind.wrap .i64 ((IntKind.wrap .i64 (n52 - ((k54 : Nat) : Int))) + 1)) : Int) < 1 then (IntKind.wrap .i64 ((IntKind.wrap .i64 (n52 - ((k54 : Nat) : Int))) + 1)) else 1) then ((m1 : Nat) : Int) else (if ((IntKind.wrap .i64 ((IntKind.wrap .i64 (n52 - ((k54 : Nat) : Int))) + 1)) : Int) < 1 then (IntKind.wrap .i64 ((IntKind.wrap .i64 (n52 - ((k54 : Nat) : Int))) + 1)) else 1))) ∧
    (((if (((m1 : Nat) : Int) : Int) < (if ((IntKind.wrap .i64 ((IntKind.wrap .i64 (n52 - ((k54 : Nat) : Int))) + 1)) : Int) < 1 then (IntKind.wrap .i64 ((IntKind.wrap .i64 (n52 - ((k54 : Nat) : Int))) + 1)) else 1) then ((m1 : Nat) : Int) else (if ((IntKind.wrap .i64 ((IntKind.wrap .i64 (n52 - ((k54 : Nat) : Int))) + 1)) : Int) < 1 then (IntKind.wrap .i64 ((IntKind.wrap .i64 (n52 - ((k54 : Nat) : Int))) + 1)) else 1)) : Int) ≤ ((m1 : Nat) : Int)) ∧
    ((0 : Int) ≤ 0) ∧
    ((0 : Int) < ((m1 : Nat) : Int)) ∧
    nilc B1 fun k78 k79 =>
    exI (Mem.ld M77 ⟨k1, 0, none⟩) .i64 fun n80 =>
    exSl (Mem.ld M77 ⟨k1, (0 + 1), none⟩) fun A81 k82 k83 =>
    exI (Mem.ld M77 ⟨k1, (0 + 2), none⟩) .i64 fun n84 =>
    exI (Mem.ld M77 ⟨k78, (k79 + 0), none⟩) .i64 fun n85 =>
    ACalls Try.prog 110 #[(.slice none 0 0), (.slice (slA B1 (Int.toNat (if (((m1 : Nat) : Int) : Int) < (if ((IntKind.wrap .i64 ((IntKind.wrap .i64 (n52 - ((k54 : Nat) : Int))) + 1)) : Int) < 1 then (IntKind.wrap .i64 ((IntKind.wrap .i64 (n52 - ((k54 : Nat) : Int))) + 1)) else 1) then ((m1 : Nat) : Int) else (if ((IntKind.wrap .i64 ((IntKind.wrap .i64 (n52 - ((k54 : Nat) : Int))) + 1)) : Int) < 1 then (IntKind.wrap .i64 ((IntKind.wrap .i64 (n52 - ((k54 : Nat) : Int))) + 1)) else 1))) (Int.toNat ((c1 : Nat) : Int)) 1) ((Int.toNat ((m1 : Nat) : Int)) - (Int.toNat (if (((m1 : Nat) : Int) : Int) < (if ((IntKind.wrap .i64 ((IntKind.wrap .i64 (n52 - ((k54 : Nat) : Int))) + 1)) : Int) < 1 then (IntKind.wrap .i64 ((IntKind.wrap .i64 (n52 - ((k54 : Nat) : Int))) + 1)) else 1) then ((m1 : Nat) : Int) else (if ((IntKind.wrap .i64 ((IntKind.wrap .i64 (n52 - ((k54 : Nat) : Int))) + 1)) : Int) < 1 then (IntKind.wrap .i64 ((IntKind.wrap .i64 (n52 - ((k54 : Nat) : Int))) + 1)) else 1)))) ((Int.toNat ((c1 : Nat) : Int)) - (Int.toNat (if (((m1 : Nat) : Int) : Int) < (if ((IntKind.wrap .i64 ((IntKind.wrap .i64 (n52 - ((k54 : Nat) : Int))) + 1)) : Int) < 1 then (IntKind.wrap .i64 ((IntKind.wrap .i64 (n52 - ((k54 : Nat) : Int))) + 1)) else 1) then ((m1 : Nat) : Int) else (if ((IntKind.wrap .i64 ((IntKind.wrap .i64 (n52 - ((k54 : Nat) : Int))) + 1)) : Int) < 1 then (IntKind.wrap .i64 ((IntKind.wrap .i64 (n52 - ((k54 : Nat) : Int))) + 1)) else 1)))))] M77 (fun v86 M87 =>
    exSl (some v86) fun A88 k89 k90 =>
    ((Mem.ld M87 ⟨k78, (k79 + 0), none⟩) = (some (.int .i64 n85))) ∧
    ((Mem.lds M87 ⟨k1, 0, none⟩ 0 3) = some [(.int .i64 n80), (.slice A81 k82 k83), (.int .i64 n84)]) ∧
    stc M87 ⟨k3, 0, none⟩ (.int .i64 n80) fun M91 =>
    stc M91 ⟨k3, (0 + 1), none⟩ (.slice A81 k82 k83) fun M92 =>
    stc M92 ⟨k3, (0 + 2), none⟩ (.int .i64 n84) fun M93 =>
    ((Mem.ld M93 ⟨k78, (k79 + 0), none⟩) = (some (.int .i64 n85))) ∧
    ((Mem.lds M93 ⟨k1, 0, none⟩ 0 3) = some [(.int .i64 n80), (.slice A81 k82 k83), (.int .i64 n84)]) ∧
    exI (Mem.ld M93 ⟨k3, 0, none⟩) .i64 fun n94 =>
    exSl (Mem.ld M93 ⟨k3, (0 + 1), none⟩) fun A95 k96 k97 =>
    exI (Mem.ld M93 ⟨k3, (0 + 2), none⟩) .i64 fun n98 =>
    K (.tuple #[(.agg #[(.int .i64 n94), (.slice A95 k96 k97), (.int .i64 n98)]), (.slice A88 k89 k90), (.int .i64 n85)]) M93) Kp) Kp))) :
  ACalls Try.prog 101 ([.agg #[.int .i64 x0_0, .slice B0_1 m0_1 c0_1, .int .i64 x0_2], .slice B1 m1 c1, .int .i64 x2] : List Value).toArray M K Kp :=
  acalls_vc (C := Cx) good [(7, .reg [0, 1, 0, 0, 12, 31, 63, 127] (.step 0 (.step 2 (.step 3 (.step 4 (.step 1 (.step 5 (.step 6 (.step 7 .done))))))))), (8, .reg [0, 0, 0, 6, 14, 0, 32, 96, 31, 287, 1023] (.step 1 (.step 2 (.step 3 (.step 5 (.step 6 (.prom 0 (.prom 7 (.step 4 (.step 8 (.step 9 (.step 10 .done))))))))))))] Try.func101 (by kernel_rfl) (by kernel_rfl) h

theorem vc_shunterref08_Steal {x0_0 : Int} {B0_1 : Option Addr} {m0_1 c0_1 : Nat} {x0_2 : Int} {x1_0 : Int} {B1_1 : Option Addr} {m1_1 c1_1 : Nat} {x1_2 : Int} {M : Mem} {K : Value → Mem → Prop} {Kp : List PanicEntry → Mem → Prop} (h :
nwc M (.cells #[(.int .i64 x0_0), (.slice B0_1 m0_1 c0_1), (.int .i64 x0_2)] 172 (0, 0)) fun k1 M2 =>
nwc M2 (.cells #[(.int .i64 x1_0), (.slice B1_1 m1_1 c1_1), (.int .i64 x1_2)] 172 (0, 0)) fun k3 M4 =>
nwc M4 (.cells #[(.int .i64 0), (.slice none 0 0), (.int .i64 0)] 172 (0, 0)) fun k5 M6 =>
nwc M6 (.cells #[(.int .i64 0), (.slice none 0 0), (.int .i64 0)] 172 (0, 0)) fun k7 M8 =>
exSl (Mem.ld M8 ⟨k3, (0 + 1), none⟩) fun A9 k10 k11 =>
bsp (((k10 : Nat) : Int) == 0)
 (exI (Mem.ld M8 ⟨k3, 0, none⟩) .i64 fun n12 =>
  stc M8 ⟨k3, 0, none⟩ (.int .i64 (-1)) fun M13 =>
  exI (Mem.ld M13 ⟨k1, 0, none⟩) .i64 fun n14 =>
  exSl (Mem.ld M13 ⟨k1, (0 + 1), none⟩) fun A15 k16 k17 =>
  exI (Mem.ld M13 ⟨k1, (0 + 2), none⟩) .i64 fun n18 =>
  exI (Mem.ld M13 ⟨k3, 0, none⟩) .i64 fun n19 =>
  exSl (Mem.ld M13 ⟨k3, (0 + 1), none⟩) fun A20 k21 k22 =>
  exI (Mem.ld M13 ⟨k3, (0 + 2), none⟩) .i64 fun n23 =>
  stc M13 ⟨k5, 0, none⟩ (.int .i64 n14) fun M24 =>
  stc M24 ⟨k5, (0 + 1), none⟩ (.slice A15 k16 k17) fun M25 =>
  stc M25 ⟨k5, (0 + 2), none⟩ (.int .i64 n18) fun M26 =>
  ((Mem.lds M26 ⟨k3, 0, none⟩ 0 3) = some [(.int .i64 n19), (.slice A20 k21 k22), (.int .i64 n23)]) ∧
  stc M26 ⟨k7, 0, none⟩ (.int .i64 n19) fun M27 =>
  stc M27 ⟨k7, (0 + 1), none⟩ (.slice A20 k21 k22) fun M28 =>
  stc M28 ⟨k7, (0 + 2), none⟩ (.int .i64 n23) fun M29 =>
  ((Mem.lds M29 ⟨k3, 0, none⟩ 0 3) = some [(.int .i64 n19), (.slice A20 k21 k22), (.int .i64 n23)]) ∧
  exI (Mem.ld M29 ⟨k5, 0, none⟩) .i64 fun n30 =>
  exSl (Mem.ld M29 ⟨k5, (0 + 1), none⟩) fun A31 k32 k33 =>
  exI (Mem.ld M29 ⟨k5, (0 + 2), none⟩) .i64 fun n34 =>
  exI (Mem.ld M29 ⟨k7, 0, none⟩) .i64 fun n35 =>
  exSl (Mem.ld M29 ⟨k7, (0 + 1), none⟩) fun A36 k37 k38 =>
  exI (Mem.ld M29 ⟨k7, (0 + 2), none⟩) .i64 fun n39 =>
  K (.tuple #[(.agg #[(.int .i64 n30), (.slice A31 k32 k33), (.int .i64 n34)]), (.agg #[(.int .i64 n35), (.slice A36 k37 k38), (.int .i64 n39)]), (.int .i64 n12)]) M29)
 (((2 : Int) ≠ 0) ∧
  exI (Mem.ld M8 ⟨k1, (0 + 2), none⟩) .i64 fun n40 =>
  exSl (Mem.ld M8 ⟨k1, (0 + 1), none⟩) fun A41 k42 k43 =>
  exSl (Mem.ld M8 ⟨k1, (0 + 1), none⟩) fun A44 k45 k46 =>
  exSl (Mem.ld M8 ⟨k3, (0 + 1), none⟩) fun A47 k48 k49 =>
  ((0 : Int) ≤ ((k49 : Nat) : Int)) ∧
  ((((k49 : Nat) : Int) : Int) ≤ ((k49 : Nat) : Int)) ∧
  ((0 : Int) ≤ (if ((IntKind.wrap .i64 ((IntKind.wrap .i64 (n40 - ((k42 : Nat) : Int))) + 1)) : Int) < (IntKind.wrap .i64 (Int.tdiv (IntKind.wrap .i64 (((k10 : Nat) : Int) + 1)) 2)) then (IntKind.wrap .i64 ((IntKind.wrap .i64 (n40 - ((k42 : Nat) : Int))) + 1)) else (IntKind.wrap .i64 (Int.tdiv (IntKind.wrap .i64 (((k10 : Nat) : Int) + 1)) 2)))) ∧
  (((if ((IntKind.wrap .i64 ((IntKind.wrap .i64 (n40 - ((k42 : Nat) : Int))) + 1)) : Int) < (IntKind.wrap .i64 (Int.tdiv (IntKind.wrap .i64 (((k10 : Nat) : Int) + 1)) 2)) then (IntKind.wrap .i64 ((IntKind.wrap .i64 (n40 - ((k42 : Nat) : Int))) + 1)) else (IntKind.wrap .i64 (Int.tdiv (IntKind.wrap .i64 (((k10 : Nat) : Int) + 1)) 2))) : Int) ≤ ((k49 : Nat) : Int)) ∧
  ((0 : Int) ≤ 1) ∧
  ((1 : Int) ≤ (if ((IntKind.wrap .i64 ((IntKind.wrap .i64 (n40 - ((k42 : Nat) : Int))) + 1)) : Int) < (IntKind.wrap .i64 (Int.tdiv (IntKind.wrap .i64 (((k10 : Nat) : Int) + 1)) 2)) then (IntKind.wrap .i64 ((IntKind.wrap .i64 (n40 - ((k42 : Nat) : Int))) + 1)) else (IntKind.wrap .i64 (Int.tdiv (IntKind.wrap .i64 (((k10 : Nat) : Int) + 1)) 2)))) ∧
  ACalls Try.prog 110 #[(.slice A44 k45 k46), (.slice (slA A47 1 (Int.toNat ((k49 : Nat) : Int)) 1) ((Int.toNat (if ((IntKind.wrap .i64 ((IntKind.wrap .i64 (n40 - ((k42 : Nat) : Int))) + 1)) : Int) < (IntKind.wrap .i64 (Int.tdiv (IntKind.wrap .i64 (((k10 : Nat) : Int) + 1)) 2)) then (IntKind.wrap .i64 ((IntKind.wrap .i64 (n40 - ((k42 : Nat) : Int))) + 1)) else (IntKind.wrap .i64 (Int.tdiv (IntKind.wrap .i64 (((k10 : Nat) : Int) + 1)) 2)))) - 1) ((Int.toNat ((k49 : Nat) : Int)) - 1))] M8 (fun v50 M51 =>
  exSl (some v50) fun A52 k53 k54 =>
  stc M51 ⟨k1, (0 + 1), none⟩ (.slice A52 k53 k54) fun M55 =>
  exSl (Mem.ld M55 ⟨k3, (0 + 1), none⟩) fun A56 k57 k58 =>
  ((0 : Int) ≤ 0) ∧
  ((0 : Int) < ((k57 : Nat) : Int)) ∧
  nilc A56 fun k59 k60 =>
  exI (Mem.ld M55 ⟨k59, (k60 + 0), none⟩) .i64 fun n61 =>
  exSl (Mem.ld M55 ⟨k3, (0 + 1), none⟩) fun A62 k63 k64 =>
  ((0 : Int) ≤ ((k64 : Nat) : Int)) ∧
  ((((k64 : Nat) : Int) : Int) ≤ ((k64 : Nat) : Int)) ∧
  ((0 : Int) ≤ ((k63 : Nat) : Int)) ∧
  ((((k63 : Nat) : Int) : Int) ≤ ((k64 : Nat) : Int)) ∧
  ((0 : Int) ≤ (if ((IntKind.wrap .i64 ((IntKind.wrap .i64 (n40 - ((k42 : Nat) : Int))) + 1)) : Int) < (IntKind.wrap .i64 (Int.tdiv (IntKind.wrap .i64 (((k10 : Nat) : Int) + 1)) 2)) then (IntKind.wrap .i64 ((IntKind.wrap .i64 (n40 - ((k42 : Nat) : Int))) + 1)) else (IntKind.wrap .i64 (Int.tdiv (IntKind.wrap .i64 (((k10 : Nat) : Int) + 1)) 2)))) ∧
  (((if ((IntKind.wrap .i64 ((IntKind.wrap .i64 (n40 - ((k42 : Nat) : Int))) + 1)) : Int) < (IntKind.wrap .i64 (Int.tdiv (IntKind.wrap .i64 (((k10 : Nat) : Int) + 1)) 2)) then (IntKind.wrap .i64 ((IntKind.wrap .i64 (n40 - ((k42 : Nat) : Int))) + 1)) else (IntKind.wrap .i64 (Int.tdiv (IntKind.wrap .i64 (((k10 : Nat) : Int) + 1)) 2))) : Int) ≤ ((k63 : Nat) : Int)) ∧
  ACalls Try.prog 110 #[(.slice none 0 0), (.slice (slA A62 (Int.toNat (if ((IntKind.wrap .i64 ((IntKind.wrap .i64 (n40 - ((k42 : Nat) : Int))) + 1)) : Int) < (IntKind.wrap .i64 (Int.tdiv (IntKind.wrap .i64 (((k10 : Nat) : Int) + 1)) 2)) then (IntKind.wrap .i64 ((IntKind.wrap .i64 (n40 - ((k42 : Nat) : Int))) + 1)) else (IntKind.wrap .i64 (Int.tdiv (IntKind.wrap .i64 (((k10 : Nat) : Int) + 1)) 2)))) (Int.toNat ((k64 : Nat) : Int)) 1) ((Int.toNat ((k63 : Nat) : Int)) - (Int.toNat (if ((IntKind.wrap .i64 ((IntKind.wrap .i64 (n40 - ((k42 : Nat) : Int))) + 1)) : Int) < (IntKind.wrap .i64 (Int.tdiv (IntKind.wrap .i64 (((k10 : Nat) : Int) + 1)) 2)) then (IntKind.wrap .i64 ((IntKind.wrap .i64 (n40 - ((k42 : Nat) : Int))) + 1)) else (IntKind.wrap .i64 (Int.tdiv (IntKind.wrap .i64 (((k10 : Nat) : Int) + 1)) 2))))) ((Int.toNat ((k64 : Nat) : Int)) - (Int.toNat (if ((IntKind.wrap .i64 ((IntKind.wrap .i64 (n40 - ((k42 : Nat) : Int))) + 1)) : Int) < (IntKind.wrap .i64 (Int.tdiv (IntKind.wrap .i64 (((k10 : Nat) : Int) + 1)) 2)) then (IntKind.wrap .i64 ((IntKind.wrap .i64 (n40 - ((k42 : Nat) : Int))) + 1)) else (IntKind.wrap .i64 (Int.tdiv (IntKind.wrap .i64 (((k10 : Nat) : Int) + 1)) 2))))))] M55 (fun v65 M66 =>
  exSl (some v65) fun A67 k68 k69 =>
  stc M66 ⟨k3, (0 + 1), none⟩ (.slice A67 k68 k69) fun M70 =>
  exI (Mem.ld M70 ⟨k1, 0, none⟩) .i64 fun n71 =>
  exSl (Mem.ld M70 ⟨k1, (0 + 1), none⟩) fun A72 k73 k74 =>
  exI (Mem.ld M70 ⟨k1, (0 + 2), none⟩) .i64 fun n75 =>
  exI (Mem.ld M70 ⟨k3, 0, none⟩) .i64 fun n76 =>
  exSl (Mem.ld M70 ⟨k3, (0 + 1), none⟩) fun A77 k78 k79 =>
  exI (Mem.ld M70 ⟨k3, (0 + 2), none⟩) .i64 fun n80 =>
  stc M70 ⟨k5, 0, none⟩ (.int .i64 n71) fun M81 =>
  stc M81 ⟨k5, (0 + 1), none⟩ (.slice A72 k73 k74) fun M82 =>
  stc M82 ⟨k5, (0 + 2), none⟩ (.int .i64 n75) fun M83 =>
  ((Mem.lds M83 ⟨k3, 0, none⟩ 0 3) = some [(.int .i64 n76), (.slice A77 k78 k79), (.int .i64 n80)]) ∧
  stc M83 ⟨k7, 0, none⟩ (.int .i64 n76) fun M84 =>
  stc M84 ⟨k7, (0 + 1), none⟩ (.slice A77 k78 k79) fun M85 =>
  stc M85 ⟨k7, (0 + 2), none⟩ (.int .i64 n80) fun M86 =>
  ((Mem.lds M86 ⟨k3, 0, none⟩ 0 3) = some [(.int .i64 n76), (.slice A77 k78 k79), (.int .i64 n80)]) ∧
  exI (Mem.ld M86 ⟨k5, 0, none⟩) .i64 fun n87 =>
  exSl (Mem.ld M86 ⟨k5, (0 + 1), none⟩) fun A88 k89 k90 =>
  exI (Mem.ld M86 ⟨k5, (0 + 2), none⟩) .i64 fun n91 =>
  exI (Mem.ld M86 ⟨k7, 0, none⟩) .i64 fun n92 =>
  exSl (Mem.ld M86 ⟨k7, (0 + 1), none⟩) fun A93 k94 k95 =>
  exI (Mem.ld M86 ⟨k7, (0 + 2), none⟩) .i64 fun n96 =>
  K (.tuple #[(.agg #[(.int .i64 n87), (.slice A88 k89 k90), (.int .i64 n91)]), (.agg #[(.int .i64 n92), (.slice A93 k94 k95), (.int .i64 n96)]), (.int .i64 n61)]) M86) Kp) Kp)) :
  ACalls Try.prog 102 ([.agg #[.int .i64 x0_0, .slice B0_1 m0_1 c0_1, .int .i64 x0_2], .agg #[.int .i64 x1_0, .slice B1_1 m1_1 c1_1, .int .i64 x1_2]] : List Value).toArray M K Kp :=
  acalls_vc (C := Cx) good [(5, .reg [0, 0, 0, 1, 11, 31] (.step 2 (.step 0 (.prom 1 (.step 3 (.step 4 (.step 5 .done))))))), (7, .reg [0, 1, 0, 4, 0, 28, 63, 127, 255] (.step 0 (.step 2 (.step 4 (.step 1 (.step 3 (.step 5 (.step 6 (.step 7 (.step 8 .done)))))))))), (10, .reg [0, 0, 0, 1, 11, 31] (.step 2 (.step 0 (.prom 1 (.step 3 (.step 4 (.step 5 .done)))))))] Try.func102 (by kernel_rfl) (by kernel_rfl) h

theorem vc_local_Local_Turn {b0 o0 : Nat} {b1 o1 : Nat} {M : Mem} {K : Value → Mem → Prop} {Kp : List PanicEntry → Mem → Prop} (h :
exI (Mem.ld M ⟨b0, o0, none⟩) .i64 fun n1 =>
bsp (n1 == (-1))
 (K (.int .i64 0) M)
 (stc M ⟨b0, o0, none⟩ (.int .i64 (-1)) fun M2 =>
  ACalls Try.prog 57 #[(.pointer (some ⟨b0, o0, none⟩)), (.int .i64 n1), (.pointer (some ⟨b1, o1, none⟩))] M2 (fun v3 M4 =>
  exI (some v3) .i64 fun n5 =>
  K (.int .i64 n5) M4) Kp)) :
  ACalls Try.prog 103 ([.pointer (some ⟨b0, o0, none⟩), .pointer (some ⟨b1, o1, none⟩)] : List Value).toArray M K Kp :=
  acalls_vc (C := Cx) good [] Try.func103 (by kernel_rfl) (by kernel_rfl) h

theorem vc_shunterref08_Turn {x0_0 : Int} {B0_1 : Option Addr} {m0_1 c0_1 : Nat} {x0_2 : Int} {B1 : Option Addr} {m1 c1 : Nat} {M : Mem} {K : Value → Mem → Prop} {Kp : List PanicEntry → Mem → Prop} (h :
nwc M (.cells #[(.int .i64 x0_0), (.slice B0_1 m0_1 c0_1), (.int .i64 x0_2)] 172 (0, 0)) fun k1 M2 =>
nwc M2 (.cells #[(.int .i64 0), (.slice none 0 0), (.int .i64 0)] 172 (0, 0)) fun k3 M4 =>
exI (Mem.ld M4 ⟨k1, 0, none⟩) .i64 fun n5 =>
stc M4 ⟨k1, 0, none⟩ (.int .i64 (-1)) fun M6 =>
bsp (decide ((n5 : Int) < 0))
 (exI (Mem.ld M6 ⟨k1, 0, none⟩) .i64 fun n7 =>
  exSl (Mem.ld M6 ⟨k1, (0 + 1), none⟩) fun A8 k9 k10 =>
  exI (Mem.ld M6 ⟨k1, (0 + 2), none⟩) .i64 fun n11 =>
  stc M6 ⟨k3, 0, none⟩ (.int .i64 n7) fun M12 =>
  stc M12 ⟨k3, (0 + 1), none⟩ (.slice A8 k9 k10) fun M13 =>
  stc M13 ⟨k3, (0 + 2), none⟩ (.int .i64 n11) fun M14 =>
  exI (Mem.ld M14 ⟨k3, 0, none⟩) .i64 fun n15 =>
  exSl (Mem.ld M14 ⟨k3, (0 + 1), none⟩) fun A16 k17 k18 =>
  exI (Mem.ld M14 ⟨k3, (0 + 2), none⟩) .i64 fun n19 =>
  K (.tuple #[(.agg #[(.int .i64 n15), (.slice A16 k17 k18), (.int .i64 n19)]), (.slice B1 m1 c1), (.int .i64 0)]) M14)
 (exI (Mem.ld M6 ⟨k1, 0, none⟩) .i64 fun n20 =>
  exSl (Mem.ld M6 ⟨k1, (0 + 1), none⟩) fun A21 k22 k23 =>
  exI (Mem.ld M6 ⟨k1, (0 + 2), none⟩) .i64 fun n24 =>
  ACalls Try.prog 97 #[(.agg #[(.int .i64 n20), (.slice A21 k22 k23), (.int .i64 n24)]), (.int .i64 n5), (.slice B1 m1 c1)] M6 (fun v25 M26 =>
  ∃ n27 : Int, ∃ A28 : Option Addr, ∃ k29 : Nat, ∃ k30 : Nat, ∃ n31 : Int, ∃ A32 : Option Addr, ∃ k33 : Nat, ∃ k34 : Nat, ∃ n35 : Int, (v25 = (.tuple #[(.agg #[(.int .i64 n27), (.slice A28 k29 k30), (.int .i64 n31)]), (.slice A32 k33 k34), (.int .i64 n35)])) ∧
  stc M26 ⟨k3, 0, none⟩ (.int .i64 n27) fun M36 =>
  stc M36 ⟨k3, (0 + 1), none⟩ (.slice A28 k29 k30) fun M37 =>
  stc M37 ⟨k3, (0 + 2), none⟩ (.int .i64 n31) fun M38 =>
  exI (Mem.ld M38 ⟨k3, 0, none⟩) .i64 fun n39 =>
  exSl (Mem.ld M38 ⟨k3, (0 + 1), none⟩) fun A40 k41 k42 =>
  exI (Mem.ld M38 ⟨k3, (0 + 2), none⟩) .i64 fun n43 =>
  K (.tuple #[(.agg #[(.int .i64 n39), (.slice A40 k41 k42), (.int .i64 n43)]), (.slice A32 k33 k34), (.int .i64 n35)]) M38) Kp)) :
  ACalls Try.prog 104 ([.agg #[.int .i64 x0_0, .slice B0_1 m0_1 c0_1, .int .i64 x0_2], .slice B1 m1 c1] : List Value).toArray M K Kp :=
  acalls_vc (C := Cx) good [] Try.func104 (by kernel_rfl) (by kernel_rfl) h

theorem vc_local_Global_Take {b0 o0 : Nat} {x1 : Int} {M : Mem} {K : Value → Mem → Prop} {Kp : List PanicEntry → Mem → Prop} (h :
exSl (Mem.ld M ⟨b0, o0, none⟩) fun A1 k2 k3 =>
nwc M (.cells #[] 3 (0, 0)) fun k4 M5 =>
exSl (Mem.ld M5 ⟨b0, o0, none⟩) fun A6 k7 k8 =>
((0 : Int) ≤ ((k8 : Nat) : Int)) ∧
((((k8 : Nat) : Int) : Int) ≤ ((k8 : Nat) : Int)) ∧
((0 : Int) ≤ (if (((k2 : Nat) : Int) : Int) < (if (0 : Int) > x1 then 0 else x1) then ((k2 : Nat) : Int) else (if (0 : Int) > x1 then 0 else x1))) ∧
(((if (((k2 : Nat) : Int) : Int) < (if (0 : Int) > x1 then 0 else x1) then ((k2 : Nat) : Int) else (if (0 : Int) > x1 then 0 else x1)) : Int) ≤ ((k8 : Nat) : Int)) ∧
((0 : Int) ≤ 0) ∧
((0 : Int) ≤ (if (((k2 : Nat) : Int) : Int) < (if (0 : Int) > x1 then 0 else x1) then ((k2 : Nat) : Int) else (if (0 : Int) > x1 then 0 else x1))) ∧
semK Try.prog (Go.Builtin.append_ #[39, 39] 39 #[(.slice (some ⟨k4, 0, none⟩) 0 0), (.slice (slA A6 0 (Int.toNat ((k8 : Nat) : Int)) 1) ((Int.toNat (if (((k2 : Nat) : Int) : Int) < (if (0 : Int) > x1 then 0 else x1) then ((k2 : Nat) : Int) else (if (0 : Int) > x1 then 0 else x1))) - 0) ((Int.toNat ((k8 : Nat) : Int)) - 0))]) M5 (fun v9 M10 =>
exSl (some v9) fun A11 k12 k13 =>
nwc M10 (.cells #[] 3 (0, 0)) fun k14 M15 =>
exSl (Mem.ld M15 ⟨b0, o0, none⟩) fun A16 k17 k18 =>
((0 : Int) ≤ ((k18 : Nat) : Int)) ∧
((((k18 : Nat) : Int) : Int) ≤ ((k18 : Nat) : Int)) ∧
((0 : Int) ≤ ((k17 : Nat) : Int)) ∧
((((k17 : Nat) : Int) : Int) ≤ ((k18 : Nat) : Int)) ∧
((0 : Int) ≤ (if (((k2 : Nat) : Int) : Int) < (if (0 : Int) > x1 then 0 else x1) then ((k2 : Nat) : Int) else (if (0 : Int) > x1 then 0 else x1))) ∧
(((if (((k2 : Nat) : Int) : Int) < (if (0 : Int) > x1 then 0 else x1) then ((k2 : Nat) : Int) else (if (0 : Int) > x1 then 0 else x1)) : Int) ≤ ((k17 : Nat) : Int)) ∧
semK Try.prog (Go.Builtin.append_ #[39, 39] 39 #[(.slice (some ⟨k14, 0, none⟩) 0 0), (.slice (slA A16 (Int.toNat (if (((k2 : Nat) : Int) : Int) < (if (0 : Int) > x1 then 0 else x1) then ((k2 : Nat) : Int) else (if (0 : Int) > x1 then 0 else x1))) (Int.toNat ((k18 : Nat) : Int)) 1) ((Int.toNat ((k17 : Nat) : Int)) - (Int.toNat (if (((k2 : Nat) : Int) : Int) < (if (0 : Int) > x1 then 0 else x1) then ((k2 : Nat) : Int) else (if (0 : Int) > x1 then 0 else x1)))) ((Int.toNat ((k18 : Nat) : Int)) - (Int.toNat (if (((k2 : Nat) : Int) : Int) < (if (0 : Int) > x1 then 0 else x1) then ((k2 : Nat) : Int) else (if (0 : Int) > x1 then 0 else x1)))))]) M15 (fun v19 M20 =>
exSl (some v19) fun A21 k22 k23 =>
stc M20 ⟨b0, o0, none⟩ (.slice A21 k22 k23) fun M24 =>
K (.slice A11 k12 k13) M24) Kp) Kp) :
  ACalls Try.prog 105 ([.pointer (some ⟨b0, o0, none⟩), .int .i64 x1] : List Value).toArray M K Kp :=
  acalls_vc (C := Cx) good [] Try.func105 (by kernel_rfl) (by kernel_rfl) h

theorem vc_shunterref08_join {B0 : Option Addr} {m0 c0 : Nat} {B1 : Option Addr} {m1 c1 : Nat} {M : Mem} {K : Value → Mem → Prop} {Kp : List PanicEntry → Mem → Prop} (h :
nwc M (.cells #[] 3 (0, 0)) fun k1 M2 =>
semK Try.prog (Go.Builtin.append_ #[39, 39] 39 #[(.slice (some ⟨k1, 0, none⟩) 0 0), (.slice B0 m0 c0)]) M2 (fun v3 M4 =>
exSl (some v3) fun A5 k6 k7 =>
semK Try.prog (Go.Builtin.append_ #[39, 39] 39 #[(.slice A5 k6 k7), (.slice B1 m1 c1)]) M4 (fun v8 M9 =>
exSl (some v8) fun A10 k11 k12 =>
K (.slice A10 k11 k12) M9) Kp) Kp) :
  ACalls Try.prog 110 ([.slice B0 m0 c0, .slice B1 m1 c1] : List Value).toArray M K Kp :=
  acalls_vc (C := Cx) good [] Try.func110 (by kernel_rfl) (by kernel_rfl) h

theorem vc_ring_New {x0 : Int} {M : Mem} {K : Value → Mem → Prop} {Kp : List PanicEntry → Mem → Prop} (h :
semK Try.prog (Go.Instr.makeSlice 39 (.int .i64 (if (1024 : Int) < (if (1 : Int) > x0 then 1 else x0) then 1024 else (if (1 : Int) > x0 then 1 else x0))) (.int .i64 (if (1024 : Int) < (if (1 : Int) > x0 then 1 else x0) then 1024 else (if (1 : Int) > x0 then 1 else x0)))) M (fun v1 M2 =>
exSl (some v1) fun A3 k4 k5 =>
nwc M2 (.cells #[(.slice A3 k4 k5), (.int .i64 0), (.int .i64 0)] 146 (0, 0)) fun k6 M7 =>
K (.pointer (some ⟨k6, 0, none⟩)) M7) Kp) :
  ACalls Try.prog 27 ([.int .i64 x0] : List Value).toArray M K Kp :=
  acalls_vc (C := Cx) good [] Try.func27 (by kernel_rfl) (by kernel_rfl) h

theorem vc_ring_Ring_Room {b0 o0 : Nat} {M : Mem} {K : Value → Mem → Prop} {Kp : List PanicEntry → Mem → Prop} (h :
exSl (Mem.ld M ⟨b0, o0, none⟩) fun A1 k2 k3 =>
K (.int .i64 ((k2 : Nat) : Int)) M) :
  ACalls Try.prog 28 ([.pointer (some ⟨b0, o0, none⟩)] : List Value).toArray M K Kp :=
  acalls_vc (C := Cx) good [] Try.func28 (by kernel_rfl) (by kernel_rfl) h

theorem vc_ring_Ring_Push {b0 o0 : Nat} {x1 : Int} {M : Mem} {K : Value → Mem → Prop} {Kp : List PanicEntry → Mem → Prop} (h :
exI (Mem.ld M ⟨b0, (o0 + 2), none⟩) .i64 fun n1 =>
exSl (Mem.ld M ⟨b0, o0, none⟩) fun A2 k3 k4 =>
bsp (n1 == ((k3 : Nat) : Int))
 (K (.bool false) M)
 (exSl (Mem.ld M ⟨b0, o0, none⟩) fun A5 k6 k7 =>
  exI (Mem.ld M ⟨b0, (o0 + 1), none⟩) .i64 fun n8 =>
  exI (Mem.ld M ⟨b0, (o0 + 2), none⟩) .i64 fun n9 =>
  exSl (Mem.ld M ⟨b0, o0, none⟩) fun A10 k11 k12 =>
  ((((k11 : Nat) : Int) : Int) ≠ 0) ∧
  ((0 : Int) ≤ (Int.tmod (IntKind.wrap .i64 (n8 + n9)) ((k11 : Nat) : Int))) ∧
  (((Int.tmod (IntKind.wrap .i64 (n8 + n9)) ((k11 : Nat) : Int)) : Int) < ((k6 : Nat) : Int)) ∧
  nilc A5 fun k13 k14 =>
  stc M ⟨k13, (k14 + (Int.toNat (Int.tmod (IntKind.wrap .i64 (n8 + n9)) ((k11 : Nat) : Int)))), none⟩ (.int .i64 x1) fun M15 =>
  exI (Mem.ld M15 ⟨b0, (o0 + 2), none⟩) .i64 fun n16 =>
  stc M15 ⟨b0, (o0 + 2), none⟩ (.int .i64 (IntKind.wrap .i64 (n16 + 1))) fun M17 =>
  K (.bool true) M17)) :
  ACalls Try.prog 29 ([.pointer (some ⟨b0, o0, none⟩), .int .i64 x1] : List Value).toArray M K Kp :=
  acalls_vc (C := Cx) good [(1, .reg [0, 1, 3, 7, 0, 16, 48, 112, 240, 511] (.step 0 (.step 1 (.step 2 (.step 4 (.step 5 (.step 6 (.step 3 (.step 7 (.step 8 (.step 9 .done))))))))))), (3, .reg [0, 1, 3, 7, 0, 16, 48, 112, 0, 256, 768, 1792, 4080, 0, 8192, 24576, 57344, 122880, 262128, 0, 1048575, 2097151] (.step 0 (.step 1 (.step 2 (.step 4 (.step 5 (.step 6 (.step 8 (.step 9 (.step 10 (.step 13 (.step 14 (.step 15 (.step 19 (.step 3 (.step 7 (.step 11 (.step 12 (.step 16 (.step 17 (.step 18 (.step 20 (.step 21 .done)))))))))))))))))))))))] Try.func29 (by kernel_rfl) (by kernel_rfl) h

theorem vc_ring_Ring_Pop {b0 o0 : Nat} {M : Mem} {K : Value → Mem → Prop} {Kp : List PanicEntry → Mem → Prop} (h :
exI (Mem.ld M ⟨b0, (o0 + 2), none⟩) .i64 fun n1 =>
bsp (n1 == 0)
 (K (.tuple #[(.int .i64 0), (.bool false)]) M)
 (exSl (Mem.ld M ⟨b0, o0, none⟩) fun A2 k3 k4 =>
  exI (Mem.ld M ⟨b0, (o0 + 1), none⟩) .i64 fun n5 =>
  ((0 : Int) ≤ n5) ∧
  ((n5 : Int) < ((k3 : Nat) : Int)) ∧
  nilc A2 fun k6 k7 =>
  exI (Mem.ld M ⟨k6, (k7 + (Int.toNat n5)), none⟩) .i64 fun n8 =>
  exI (Mem.ld M ⟨b0, (o0 + 1), none⟩) .i64 fun n9 =>
  exSl (Mem.ld M ⟨b0, o0, none⟩) fun A10 k11 k12 =>
  ((((k11 : Nat) : Int) : Int) ≠ 0) ∧
  stc M ⟨b0, (o0 + 1), none⟩ (.int .i64 (Int.tmod (IntKind.wrap .i64 (n9 + 1)) ((k11 : Nat) : Int))) fun M13 =>
  exI (Mem.ld M13 ⟨b0, (o0 + 2), none⟩) .i64 fun n14 =>
  stc M13 ⟨b0, (o0 + 2), none⟩ (.int .i64 (IntKind.wrap .i64 (n14 - 1))) fun M15 =>
  K (.tuple #[(.int .i64 n8), (.bool true)]) M15)) :
  ACalls Try.prog 30 ([.pointer (some ⟨b0, o0, none⟩)] : List Value).toArray M K Kp :=
  acalls_vc (C := Cx) good [(3, .reg [0, 1, 3, 7, 0, 16, 48, 112, 255, 511, 1023] (.step 0 (.step 1 (.step 2 (.step 4 (.step 5 (.step 6 (.step 3 (.step 7 (.step 8 (.step 9 (.step 10 .done)))))))))))), (4, .reg [0, 0, 2, 6, 14, 30, 0, 64, 192, 448, 960, 2046, 4095, 8191, 16383] (.step 0 (.step 1 (.step 2 (.step 3 (.step 6 (.step 7 (.step 8 (.step 4 (.step 5 (.step 9 (.step 10 (.step 11 (.step 12 (.step 13 (.step 14 .done))))))))))))))))] Try.func30 (by kernel_rfl) (by kernel_rfl) h

theorem vc_ring_Ring_Len {b0 o0 : Nat} {M : Mem} {K : Value → Mem → Prop} {Kp : List PanicEntry → Mem → Prop} (h :
exI (Mem.ld M ⟨b0, (o0 + 2), none⟩) .i64 fun n1 =>
K (.int .i64 n1) M) :
  ACalls Try.prog 31 ([.pointer (some ⟨b0, o0, none⟩)] : List Value).toArray M K Kp :=
  acalls_vc (C := Cx) good [] Try.func31 (by kernel_rfl) (by kernel_rfl) h

theorem vc_ring_Ring_Take {b0 o0 : Nat} {x1 : Int} {M : Mem} {K : Value → Mem → Prop} {Kp : List PanicEntry → Mem → Prop} (h :
∃ I1 : Nat → List Value → Mem → Prop, (∃ k2 : Nat, I1 k2 [(.slice none 0 0)] M) ∧
∀ k3 : Nat, ∀ junk4 : Nat → Value, ∀ A5 : Option Addr, ∀ k6 : Nat, ∀ k7 : Nat, ∀ M8 : Mem, (I1 k3 [(.slice A5 k6 k7)] M8) → bsp (decide ((((k6 : Nat) : Int) : Int) < x1))
 (ACalls Try.prog 30 #[(.pointer (some ⟨b0, o0, none⟩))] M8 (fun v9 M10 =>
  ∃ n11 : Int, ∃ t12 : Bool, (v9 = (.tuple #[(.int .i64 n11), (.bool t12)])) ∧
  bsp (!t12)
   (K (.slice A5 k6 k7) M10)
   (nwc M10 (.cells #[(.int .i64 n11)] 3 (0, 0)) fun k13 M14 =>
    semK Try.prog (Go.Builtin.append_ #[39, 39] 39 #[(.slice A5 k6 k7), (.slice (some ⟨k13, 0, none⟩) 1 1)]) M14 (fun v15 M16 =>
    exSl (some v15) fun A17 k18 k19 =>
    ∃ k20 : Nat, (k20 < k3) ∧
    I1 k20 [(.slice A17 k18 k19)] M16) Kp)) Kp)
 (K (.slice A5 k6 k7) M8)) :
  ACalls Try.prog 32 ([.pointer (some ⟨b0, o0, none⟩), .int .i64 x1] : List Value).toArray M K Kp :=
  acalls_vc (C := Cx) good [(2000000, .loop [(5, .c .sl)])] Try.func32 (by kernel_rfl) (by kernel_rfl) h

theorem vc_ring_Ring_List {b0 o0 : Nat} {M : Mem} {K : Value → Mem → Prop} {Kp : List PanicEntry → Mem → Prop} (h :
exI (Mem.ld M ⟨b0, (o0 + 2), none⟩) .i64 fun n1 =>
∃ I2 : Nat → List Value → Mem → Prop, (∃ k3 : Nat, I2 k3 [(.slice none 0 0), (.int .i64 0)] M) ∧
∀ k4 : Nat, ∀ junk5 : Nat → Value, ∀ A6 : Option Addr, ∀ k7 : Nat, ∀ k8 : Nat, ∀ n9 : Int, ∀ M10 : Mem, (I2 k4 [(.slice A6 k7 k8), (.int .i64 n9)] M10) → bsp (decide ((n9 : Int) < n1))
 (exSl (Mem.ld M10 ⟨b0, o0, none⟩) fun A11 k12 k13 =>
  exI (Mem.ld M10 ⟨b0, (o0 + 1), none⟩) .i64 fun n14 =>
  exSl (Mem.ld M10 ⟨b0, o0, none⟩) fun A15 k16 k17 =>
  ((((k16 : Nat) : Int) : Int) ≠ 0) ∧
  ((0 : Int) ≤ (Int.tmod (IntKind.wrap .i64 (n14 + n9)) ((k16 : Nat) : Int))) ∧
  (((Int.tmod (IntKind.wrap .i64 (n14 + n9)) ((k16 : Nat) : Int)) : Int) < ((k12 : Nat) : Int)) ∧
  nilc A11 fun k18 k19 =>
  exI (Mem.ld M10 ⟨k18, (k19 + (Int.toNat (Int.tmod (IntKind.wrap .i64 (n14 + n9)) ((k16 : Nat) : Int)))), none⟩) .i64 fun n20 =>
  nwc M10 (.cells #[(.int .i64 n20)] 3 (0, 0)) fun k21 M22 =>
  semK Try.prog (Go.Builtin.append_ #[39, 39] 39 #[(.slice A6 k7 k8), (.slice (some ⟨k21, 0, none⟩) 1 1)]) M22 (fun v23 M24 =>
  exSl (some v23) fun A25 k26 k27 =>
  ∃ k28 : Nat, (k28 < k4) ∧
  I2 k28 [(.slice A25 k26 k27), (.int .i64 (IntKind.wrap .i64 (n9 + 1)))] M24) Kp)
 (K (.slice A6 k7 k8) M10)) :
  ACalls Try.prog 43 ([.pointer (some ⟨b0, o0, none⟩)] : List Value).toArray M K Kp :=
  acalls_vc (C := Cx) good [(2000000, .loop [(3, .c .sl), (9, .c (.int .i64))]), (5, .reg [0, 0, 2, 6, 14, 0, 32, 96, 224, 0, 992, 0, 2048, 6144, 14336, 30720, 65504, 131070, 262142, 524286, 1048575, 2097151] (.step 0 (.step 1 (.step 2 (.step 3 (.step 5 (.step 6 (.step 7 (.step 9 (.step 11 (.step 12 (.step 13 (.step 4 (.step 8 (.step 10 (.step 14 (.step 15 (.step 16 (.step 17 (.step 18 (.step 19 (.step 20 (.step 21 .done)))))))))))))))))))))))] Try.func43 (by kernel_rfl) (by kernel_rfl) h

theorem vc_shunterlaw08_LocalLost {x0_0 : Int} {x0_1 : Int} {x0_2 : Int} {x0_3 : Int} {B1 : Option Addr} {m1 c1 : Nat} {M : Mem} {K : Value → Mem → Prop} {Kp : List PanicEntry → Mem → Prop} (h :
nwc M (.cells #[(.int .i64 x0_0), (.int .i64 x0_1), (.int .i64 x0_2), (.int .i64 x0_3)] 129 (0, 0)) fun k1 M2 =>
ACalls Try.prog 55 #[] M2 (fun v3 M4 =>
exB (some v3) fun t5 =>
bsp (!t5)
 (K (.bool false) M4)
 (exI (Mem.ld M4 ⟨k1, 0, none⟩) .i64 fun n6 =>
  exI (Mem.ld M4 ⟨k1, (0 + 1), none⟩) .i64 fun n7 =>
  exI (Mem.ld M4 ⟨k1, (0 + 2), none⟩) .i64 fun n8 =>
  exI (Mem.ld M4 ⟨k1, (0 + 3), none⟩) .i64 fun n9 =>
  ACalls Try.prog 74 #[(.agg #[(.int .i64 n6), (.int .i64 n7), (.int .i64 n8), (.int .i64 n9)])] M4 (fun v10 M11 =>
  exP (some v10) fun A12 =>
  ∃ I13 : Nat → List Value → Mem → Prop, (∃ k14 : Nat, I13 k14 [(.int .i64 0)] M11) ∧
  ∀ k15 : Nat, ∀ junk16 : Nat → Value, ∀ n17 : Int, ∀ M18 : Mem, (I13 k15 [(.int .i64 n17)] M18) → bsp (decide ((n17 : Int) < ((m1 : Nat) : Int)))
   (bsp (decide ((n17 : Int) < 60))
     (((0 : Int) ≤ n17) ∧
      ((n17 : Int) < ((m1 : Nat) : Int)) ∧
      nilc B1 fun k19 k20 =>
      exI (Mem.ld M18 ⟨k19, (k20 + ((Int.toNat n17) * 3)), none⟩) .i64 fun n21 =>
      exI (Mem.ld M18 ⟨k19, ((k20 + ((Int.toNat n17) * 3)) + 1), none⟩) .i64 fun n22 =>
      exI (Mem.ld M18 ⟨k19, ((k20 + ((Int.toNat n17) * 3)) + 2), none⟩) .i64 fun n23 =>
      ACalls Try.prog 75 #[(.pointer A12), (.agg #[(.int .i64 n21), (.int .i64 n22), (.int .i64 n23)])] M18 (fun v24 M25 =>
      exB (some v24) fun t26 =>
      bsp (!t26)
       (K (.bool false) M25)
       (∃ k27 : Nat, (k27 < k15) ∧
        I13 k27 [(.int .i64 (IntKind.wrap .i64 (n17 + 1)))] M25)) Kp)
     (nwc M18 (.map #[] 0) fun k28 M29 =>
      nilc A12 fun k30 k31 =>
      exSl (Mem.ld M29 ⟨k30, (k31 + 5), none⟩) fun A32 k33 k34 =>
      ∃ I35 : Nat → List Value → Mem → Prop, (∃ k36 : Nat, I35 k36 [(.int .i64 0)] M29) ∧
      ∀ k37 : Nat, ∀ junk38 : Nat → Value, ∀ n39 : Int, ∀ M40 : Mem, (I35 k37 [(.int .i64 n39)] M40) → bsp (decide ((n39 : Int) < ((k33 : Nat) : Int)))
       (((0 : Int) ≤ n39) ∧
        ((n39 : Int) < ((k33 : Nat) : Int)) ∧
        nilc A32 fun k41 k42 =>
        exI (Mem.ld M40 ⟨k41, (k42 + (Int.toNat n39)), none⟩) .i64 fun n43 =>
        semK Try.prog (Go.Instr.lookup 136 (.map (some k28)) (.int .i64 n43) false) M40 (fun v44 M45 =>
        exI (some v44) .i64 fun n46 =>
        semU Try.prog (Go.Instr.mapUpdate 136 (.map (some k28)) (.int .i64 n43) (.int .i64 (IntKind.wrap .i64 (n46 + 1)))) M45 (fun M47 =>
        ∃ k48 : Nat, (k48 < k37) ∧
        I35 k48 [(.int .i64 (IntKind.wrap .i64 (n39 + 1)))] M47) Kp) Kp)
       (nilc A12 fun k49 k50 =>
        exSl (Mem.ld M40 ⟨k49, k50, none⟩) fun A51 k52 k53 =>
        ∃ I54 : Nat → List Value → Mem → Prop, (∃ k55 : Nat, I54 k55 [(.int .i64 0)] M40) ∧
        ∀ k56 : Nat, ∀ junk57 : Nat → Value, ∀ n58 : Int, ∀ M59 : Mem, (I54 k56 [(.int .i64 n58)] M59) → bsp (decide ((n58 : Int) < ((k52 : Nat) : Int)))
         (((0 : Int) ≤ n58) ∧
          ((n58 : Int) < ((k52 : Nat) : Int)) ∧
          nilc A51 fun k60 k61 =>
          exP (Mem.ld M59 ⟨k60, (k61 + (Int.toNat n58)), none⟩) fun A62 =>
          ACalls Try.prog 63 #[(.pointer A62)] M59 (fun v63 M64 =>
          exSl (some v63) fun A65 k66 k67 =>
          ∃ I68 : Nat → List Value → Mem → Prop, (∃ k69 : Nat, I68 k69 [(.int .i64 0)] M64) ∧
          ∀ k70 : Nat, ∀ junk71 : Nat → Value, ∀ n72 : Int, ∀ M73 : Mem, (I68 k70 [(.int .i64 n72)] M73) → bsp (decide ((n72 : Int) < ((k66 : Nat) : Int)))
           (((0 : Int) ≤ n72) ∧
            ((n72 : Int) < ((k66 : Nat) : Int)) ∧
            nilc A65 fun k74 k75 =>
            exI (Mem.ld M73 ⟨k74, (k75 + (Int.toNat n72)), none⟩) .i64 fun n76 =>
            semK Try.prog (Go.Instr.lookup 136 (.map (some k28)) (.int .i64 n76) false) M73 (fun v77 M78 =>
            exI (some v77) .i64 fun n79 =>
            semU Try.prog (Go.Instr.mapUpdate 136 (.map (some k28)) (.int .i64 n76) (.int .i64 (IntKind.wrap .i64 (n79 + 1)))) M78 (fun M80 =>
            ∃ k81 : Nat, (k81 < k70) ∧
            I68 k81 [(.int .i64 (IntKind.wrap .i64 (n72 + 1)))] M80) Kp) Kp)
           (ACalls Try.prog 76 #[(.pointer A62)] M73 (fun v82 M83 =>
            exI (some v82) .i64 fun n84 =>
            bsp (n84 != (-1))
             (ACalls Try.prog 76 #[(.pointer A62)] M83 (fun v85 M86 =>
              exI (some v85) .i64 fun n87 =>
              semK Try.prog (Go.Instr.lookup 136 (.map (some k28)) (.int .i64 n87) false) M86 (fun v88 M89 =>
              exI (some v88) .i64 fun n90 =>
              semU Try.prog (Go.Instr.mapUpdate 136 (.map (some k28)) (.int .i64 n87) (.int .i64 (IntKind.wrap .i64 (n90 + 1)))) M89 (fun M91 =>
              ∃ k92 : Nat, (k92 < k56) ∧
              I54 k92 [(.int .i64 (IntKind.wrap .i64 (n58 + 1)))] M91) Kp) Kp) Kp)
             (∃ k93 : Nat, (k93 < k56) ∧
              I54 k93 [(.int .i64 (IntKind.wrap .i64 (n58 + 1)))] M83)) Kp)) Kp)
         (nilc A12 fun k94 k95 =>
          exP (Mem.ld M59 ⟨k94, (k95 + 1), none⟩) fun A96 =>
          ACalls Try.prog 77 #[(.pointer A96)] M59 (fun v97 M98 =>
          exSl (some v97) fun A99 k100 k101 =>
          ∃ I102 : Nat → List Value → Mem → Prop, (∃ k103 : Nat, I102 k103 [(.int .i64 0)] M98) ∧
          ∀ k104 : Nat, ∀ junk105 : Nat → Value, ∀ n106 : Int, ∀ M107 : Mem, (I102 k104 [(.int .i64 n106)] M107) → bsp (decide ((n106 : Int) < ((k100 : Nat) : Int)))
           (((0 : Int) ≤ n106) ∧
            ((n106 : Int) < ((k100 : Nat) : Int)) ∧
            nilc A99 fun k108 k109 =>
            exI (Mem.ld M107 ⟨k108, (k109 + (Int.toNat n106)), none⟩) .i64 fun n110 =>
            semK Try.prog (Go.Instr.lookup 136 (.map (some k28)) (.int .i64 n110) false) M107 (fun v111 M112 =>
            exI (some v111) .i64 fun n113 =>
            semU Try.prog (Go.Instr.mapUpdate 136 (.map (some k28)) (.int .i64 n110) (.int .i64 (IntKind.wrap .i64 (n113 + 1)))) M112 (fun M114 =>
            ∃ k115 : Nat, (k115 < k104) ∧
            I102 k115 [(.int .i64 (IntKind.wrap .i64 (n106 + 1)))] M114) Kp) Kp)
           (nilc A12 fun k116 k117 =>
            exI (Mem.ld M107 ⟨k116, (k117 + 4), none⟩) .i64 fun n118 =>
            ∃ I119 : Nat → List Value → Mem → Prop, (∃ k120 : Nat, I119 k120 [(.int .i64 0)] M107) ∧
            ∀ k121 : Nat, ∀ junk122 : Nat → Value, ∀ n123 : Int, ∀ M124 : Mem, (I119 k121 [(.int .i64 n123)] M124) → bsp (decide ((n123 : Int) < n118))
             (semK Try.prog (Go.Instr.lookup 136 (.map (some k28)) (.int .i64 n123) false) M124 (fun v125 M126 =>
              exI (some v125) .i64 fun n127 =>
              bsp (n127 != 1)
               (K (.bool false) M126)
               (∃ k128 : Nat, (k128 < k121) ∧
                I119 k128 [(.int .i64 (IntKind.wrap .i64 (n123 + 1)))] M126)) Kp)
             (nilc A12 fun k129 k130 =>
              exI (Mem.ld M124 ⟨k129, (k130 + 4), none⟩) .i64 fun n131 =>
              semK Try.prog (Go.Builtin.len_ #[136] 3 #[(.map (some k28))]) M124 (fun v132 M133 =>
              exI (some v132) .i64 fun n134 =>
              ((Mem.ld M133 ⟨k129, (k130 + 4), none⟩) = (some (.int .i64 n131))) ∧
              K (.bool (n134 == n131)) M133) Kp))) Kp))))
   (nwc M18 (.map #[] 0) fun k135 M136 =>
    nilc A12 fun k137 k138 =>
    exSl (Mem.ld M136 ⟨k137, (k138 + 5), none⟩) fun A139 k140 k141 =>
    ∃ I142 : Nat → List Value → Mem → Prop, (∃ k143 : Nat, I142 k143 [(.int .i64 0)] M136) ∧
    ∀ k144 : Nat, ∀ junk145 : Nat → Value, ∀ n146 : Int, ∀ M147 : Mem, (I142 k144 [(.int .i64 n146)] M147) → bsp (decide ((n146 : Int) < ((k140 : Nat) : Int)))
     (((0 : Int) ≤ n146) ∧
      ((n146 : Int) < ((k140 : Nat) : Int)) ∧
      nilc A139 fun k148 k149 =>
      exI (Mem.ld M147 ⟨k148, (k149 + (Int.toNat n146)), none⟩) .i64 fun n150 =>
      semK Try.prog (Go.Instr.lookup 136 (.map (some k135)) (.int .i64 n150) false) M147 (fun v151 M152 =>
      exI (some v151) .i64 fun n153 =>
      semU Try.prog (Go.Instr.mapUpdate 136 (.map (some k135)) (.int .i64 n150) (.int .i64 (IntKind.wrap .i64 (n153 + 1)))) M152 (fun M154 =>
      ∃ k155 : Nat, (k155 < k144) ∧
      I142 k155 [(.int .i64 (IntKind.wrap .i64 (n146 + 1)))] M154) Kp) Kp)
     (nilc A12 fun k156 k157 =>
      exSl (Mem.ld M147 ⟨k156, k157, none⟩) fun A158 k159 k160 =>
      ∃ I161 : Nat → List Value → Mem → Prop, (∃ k162 : Nat, I161 k162 [(.int .i64 0)] M147) ∧
      ∀ k163 : Nat, ∀ junk164 : Nat → Value, ∀ n165 : Int, ∀ M166 : Mem, (I161 k163 [(.int .i64 n165)] M166) → bsp (decide ((n165 : Int) < ((k159 : Nat) : Int)))
       (((0 : Int) ≤ n165) ∧
        ((n165 : Int) < ((k159 : Nat) : Int)) ∧
        nilc A158 fun k167 k168 =>
        exP (Mem.ld M166 ⟨k167, (k168 + (Int.toNat n165)), none⟩) fun A169 =>
        ACalls Try.prog 63 #[(.pointer A169)] M166 (fun v170 M171 =>
        exSl (some v170) fun A172 k173 k174 =>
        ∃ I175 : Nat → List Value → Mem → Prop, (∃ k176 : Nat, I175 k176 [(.int .i64 0)] M171) ∧
        ∀ k177 : Nat, ∀ junk178 : Nat → Value, ∀ n179 : Int, ∀ M180 : Mem, (I175 k177 [(.int .i64 n179)] M180) → bsp (decide ((n179 : Int) < ((k173 : Nat) : Int)))
         (((0 : Int) ≤ n179) ∧
          ((n179 : Int) < ((k173 : Nat) : Int)) ∧
          nilc A172 fun k181 k182 =>
          exI (Mem.ld M180 ⟨k181, (k182 + (Int.toNat n179)), none⟩) .i64 fun n183 =>
          semK Try.prog (Go.Instr.lookup 136 (.map (some k135)) (.int .i64 n183) false) M180 (fun v184 M185 =>
          exI (some v184) .i64 fun n186 =>
          semU Try.prog (Go.Instr.mapUpdate 136 (.map (some k135)) (.int .i64 n183) (.int .i64 (IntKind.wrap .i64 (n186 + 1)))) M185 (fun M187 =>
          ∃ k188 : Nat, (k188 < k177) ∧
          I175 k188 [(.int .i64 (IntKind.wrap .i64 (n179 + 1)))] M187) Kp) Kp)
         (ACalls Try.prog 76 #[(.pointer A169)] M180 (fun v189 M190 =>
          exI (some v189) .i64 fun n191 =>
          bsp (n191 != (-1))
           (ACalls Try.prog 76 #[(.pointer A169)] M190 (fun v192 M193 =>
            exI (some v192) .i64 fun n194 =>
            semK Try.prog (Go.Instr.lookup 136 (.map (some k135)) (.int .i64 n194) false) M193 (fun v195 M196 =>
            exI (some v195) .i64 fun n197 =>
            semU Try.prog (Go.Instr.mapUpdate 136 (.map (some k135)) (.int .i64 n194) (.int .i64 (IntKind.wrap .i64 (n197 + 1)))) M196 (fun M198 =>
            ∃ k199 : Nat, (k199 < k163) ∧
            I161 k199 [(.int .i64 (IntKind.wrap .i64 (n165 + 1)))] M198) Kp) Kp) Kp)
           (∃ k200 : Nat, (k200 < k163) ∧
            I161 k200 [(.int .i64 (IntKind.wrap .i64 (n165 + 1)))] M190)) Kp)) Kp)
       (nilc A12 fun k201 k202 =>
        exP (Mem.ld M166 ⟨k201, (k202 + 1), none⟩) fun A203 =>
        ACalls Try.prog 77 #[(.pointer A203)] M166 (fun v204 M205 =>
        exSl (some v204) fun A206 k207 k208 =>
        ∃ I209 : Nat → List Value → Mem → Prop, (∃ k210 : Nat, I209 k210 [(.int .i64 0)] M205) ∧
        ∀ k211 : Nat, ∀ junk212 : Nat → Value, ∀ n213 : Int, ∀ M214 : Mem, (I209 k211 [(.int .i64 n213)] M214) → bsp (decide ((n213 : Int) < ((k207 : Nat) : Int)))
         (((0 : Int) ≤ n213) ∧
          ((n213 : Int) < ((k207 : Nat) : Int)) ∧
          nilc A206 fun k215 k216 =>
          exI (Mem.ld M214 ⟨k215, (k216 + (Int.toNat n213)), none⟩) .i64 fun n217 =>
          semK Try.prog (Go.Instr.lookup 136 (.map (some k135)) (.int .i64 n217) false) M214 (fun v218 M219 =>
          exI (some v218) .i64 fun n220 =>
          semU Try.prog (Go.Instr.mapUpdate 136 (.map (some k135)) (.int .i64 n217) (.int .i64 (IntKind.wrap .i64 (n220 + 1)))) M219 (fun M221 =>
          ∃ k222 : Nat, (k222 < k211) ∧
          I209 k222 [(.int .i64 (IntKind.wrap .i64 (n213 + 1)))] M221) Kp) Kp)
         (nilc A12 fun k223 k224 =>
          exI (Mem.ld M214 ⟨k223, (k224 + 4), none⟩) .i64 fun n225 =>
          ∃ I226 : Nat → List Value → Mem → Prop, (∃ k227 : Nat, I226 k227 [(.int .i64 0)] M214) ∧
          ∀ k228 : Nat, ∀ junk229 : Nat → Value, ∀ n230 : Int, ∀ M231 : Mem, (I226 k228 [(.int .i64 n230)] M231) → bsp (decide ((n230 : Int) < n225))
           (semK Try.prog (Go.Instr.lookup 136 (.map (some k135)) (.int .i64 n230) false) M231 (fun v232 M233 =>
            exI (some v232) .i64 fun n234 =>
            bsp (n234 != 1)
             (K (.bool false) M233)
             (∃ k235 : Nat, (k235 < k228) ∧
              I226 k235 [(.int .i64 (IntKind.wrap .i64 (n230 + 1)))] M233)) Kp)
           (nilc A12 fun k236 k237 =>
            exI (Mem.ld M231 ⟨k236, (k237 + 4), none⟩) .i64 fun n238 =>
            semK Try.prog (Go.Builtin.len_ #[136] 3 #[(.map (some k135))]) M231 (fun v239 M240 =>
            exI (some v239) .i64 fun n241 =>
            ((Mem.ld M240 ⟨k236, (k237 + 4), none⟩) = (some (.int .i64 n238))) ∧
            K (.bool (n241 == n238)) M240) Kp))) Kp)))) Kp)) Kp) :
  ACalls Try.prog 16 ([.agg #[.int .i64 x0_0, .int .i64 x0_1, .int .i64 x0_2, .int .i64 x0_3], .slice B1 m1 c1] : List Value).toArray M K Kp :=
  acalls_vc (C := Cx) good [(2000000, .loop [(6, .c (.int .i64))]), (2000002, .loop [(44, .c (.int .i64))]), (2000004, .loop [(58, .c (.int .i64))]), (2000006, .loop [(65, .c (.int .i64))]), (2000008, .loop [(89, .c (.int .i64))]), (2000010, .loop [(102, .c (.int .i64))]), (37, .reg [0, 1, 0, 4, 12, 28, 63, 127] (.step 0 (.step 2 (.step 3 (.step 4 (.prom 5 (.step 1 (.step 6 (.step 7 .done)))))))))] Try.func16 (by kernel_rfl) (by kernel_rfl) h

theorem vc_shunterlaw08_LocalPlays {x0_0 : Int} {x0_1 : Int} {x0_2 : Int} {x0_3 : Int} {B1 : Option Addr} {m1 c1 : Nat} {M : Mem} {K : Value → Mem → Prop} {Kp : List PanicEntry → Mem → Prop} (h :
nwc M (.cells #[(.int .i64 x0_0), (.int .i64 x0_1), (.int .i64 x0_2), (.int .i64 x0_3)] 129 (0, 0)) fun k1 M2 =>
ACalls Try.prog 55 #[] M2 (fun v3 M4 =>
exB (some v3) fun t5 =>
bsp (!t5)
 (K (.bool false) M4)
 (exI (Mem.ld M4 ⟨k1, 0, none⟩) .i64 fun n6 =>
  exI (Mem.ld M4 ⟨k1, (0 + 1), none⟩) .i64 fun n7 =>
  exI (Mem.ld M4 ⟨k1, (0 + 2), none⟩) .i64 fun n8 =>
  exI (Mem.ld M4 ⟨k1, (0 + 3), none⟩) .i64 fun n9 =>
  ACalls Try.prog 74 #[(.agg #[(.int .i64 n6), (.int .i64 n7), (.int .i64 n8), (.int .i64 n9)])] M4 (fun v10 M11 =>
  exP (some v10) fun A12 =>
  ∃ I13 : Nat → List Value → Mem → Prop, (∃ k14 : Nat, I13 k14 [(.int .i64 0)] M11) ∧
  ∀ k15 : Nat, ∀ junk16 : Nat → Value, ∀ n17 : Int, ∀ M18 : Mem, (I13 k15 [(.int .i64 n17)] M18) → bsp (decide ((n17 : Int) < ((m1 : Nat) : Int)))
   (bsp (decide ((n17 : Int) < 60))
     (((0 : Int) ≤ n17) ∧
      ((n17 : Int) < ((m1 : Nat) : Int)) ∧
      nilc B1 fun k19 k20 =>
      exI (Mem.ld M18 ⟨k19, (k20 + ((Int.toNat n17) * 3)), none⟩) .i64 fun n21 =>
      exI (Mem.ld M18 ⟨k19, ((k20 + ((Int.toNat n17) * 3)) + 1), none⟩) .i64 fun n22 =>
      exI (Mem.ld M18 ⟨k19, ((k20 + ((Int.toNat n17) * 3)) + 2), none⟩) .i64 fun n23 =>
      ACalls Try.prog 75 #[(.pointer A12), (.agg #[(.int .i64 n21), (.int .i64 n22), (.int .i64 n23)])] M18 (fun v24 M25 =>
      exB (some v24) fun t26 =>
      bsp (!t26)
       (K (.bool false) M25)
       (ACalls Try.prog 78 #[(.pointer A12)] M25 (fun v27 M28 =>
        exB (some v27) fun t29 =>
        bsp (!t29)
         (K (.bool false) M28)
         (∃ k30 : Nat, (k30 < k15) ∧
          I13 k30 [(.int .i64 (IntKind.wrap .i64 (n17 + 1)))] M28)) Kp)) Kp)
     (K (.bool true) M18))
   (K (.bool true) M18)) Kp)) Kp) :
  ACalls Try.prog 17 ([.agg #[.int .i64 x0_0, .int .i64 x0_1, .int .i64 x0_2, .int .i64 x0_3], .slice B1 m1 c1] : List Value).toArray M K Kp :=
  acalls_vc (C := Cx) good [(2000000, .loop [(6, .c (.int .i64))])] Try.func17 (by kernel_rfl) (by kernel_rfl) h

end Go.Proofs
