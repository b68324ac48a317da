/- A part of proofs about functions of one program: a condition over a partial memory that is enough for a call, and what calls answer by it. No condition of its own. -/
import Derived.Test.YtodeolmcinekoaaCx
namespace Go.Proofs
open Go.AF
set_option linter.unusedVariables false
set_option maxRecDepth 100000
theorem vc_shunterlaw13_awake  (M : Mem) (K : Value → Mem → Prop) (Kp : List PanicEntry → Mem → Prop) (h :
ACalls Try.prog 34 #[(.int .i64 1)] M (fun v1 M2 =>
exP (some v1) fun A3 =>
bsp (Option.isNone A3)
 (K (.bool false) M2)
 (ACalls Try.prog 38 #[(.pointer A3), (.int .i64 5)] M2 (fun v4 M5 =>
  ∃ n6 : Int, ∃ n7 : Int, ∃ n8 : Int, ∃ t9 : Bool, ∃ n10 : Int, (v4 = (.tuple #[(.agg #[(.int .i64 n6), (.int .i64 n7), (.int .i64 n8)]), (.bool t9), (.int .i64 n10)])) ∧
  ∀ k11 : Nat, (M5 k11 = none) → (Mem.wr (Mem.set M5 k11 (.cells #[(.int .i64 0), (.int .i64 0), (.int .i64 0)] 54 (0, 0))) ⟨k11, 0, none⟩ = true) ∧
  (Mem.wr (Mem.put (Mem.set M5 k11 (.cells #[(.int .i64 0), (.int .i64 0), (.int .i64 0)] 54 (0, 0))) ⟨k11, 0, none⟩ (.int .i64 n6)) ⟨k11, (0 + 1), none⟩ = true) ∧
  (Mem.wr (Mem.put (Mem.put (Mem.set M5 k11 (.cells #[(.int .i64 0), (.int .i64 0), (.int .i64 0)] 54 (0, 0))) ⟨k11, 0, none⟩ (.int .i64 n6)) ⟨k11, (0 + 1), none⟩ (.int .i64 n7)) ⟨k11, (0 + 2), none⟩ = true) ∧
  ACalls Try.prog 38 #[(.pointer A3), (.int .i64 6)] (Mem.put (Mem.put (Mem.put (Mem.set M5 k11 (.cells #[(.int .i64 0), (.int .i64 0), (.int .i64 0)] 54 (0, 0))) ⟨k11, 0, none⟩ (.int .i64 n6)) ⟨k11, (0 + 1), none⟩ (.int .i64 n7)) ⟨k11, (0 + 2), none⟩ (.int .i64 n8)) (fun v12 M13 =>
  ∃ n14 : Int, ∃ n15 : Int, ∃ n16 : Int, ∃ t17 : Bool, ∃ n18 : Int, (v12 = (.tuple #[(.agg #[(.int .i64 n14), (.int .i64 n15), (.int .i64 n16)]), (.bool t17), (.int .i64 n18)])) ∧
  ∀ k19 : Nat, (M13 k19 = none) → (Mem.wr (Mem.set M13 k19 (.cells #[(.int .i64 0), (.int .i64 0), (.int .i64 0)] 54 (0, 0))) ⟨k19, 0, none⟩ = true) ∧
  (Mem.wr (Mem.put (Mem.set M13 k19 (.cells #[(.int .i64 0), (.int .i64 0), (.int .i64 0)] 54 (0, 0))) ⟨k19, 0, none⟩ (.int .i64 n14)) ⟨k19, (0 + 1), none⟩ = true) ∧
  (Mem.wr (Mem.put (Mem.put (Mem.set M13 k19 (.cells #[(.int .i64 0), (.int .i64 0), (.int .i64 0)] 54 (0, 0))) ⟨k19, 0, none⟩ (.int .i64 n14)) ⟨k19, (0 + 1), none⟩ (.int .i64 n15)) ⟨k19, (0 + 2), none⟩ = true) ∧
  ACalls Try.prog 37 #[(.pointer A3)] (Mem.put (Mem.put (Mem.put (Mem.set M13 k19 (.cells #[(.int .i64 0), (.int .i64 0), (.int .i64 0)] 54 (0, 0))) ⟨k19, 0, none⟩ (.int .i64 n14)) ⟨k19, (0 + 1), none⟩ (.int .i64 n15)) ⟨k19, (0 + 2), none⟩ (.int .i64 n16)) (fun v20 M21 =>
  ∃ n22 : Int, ∃ t23 : Bool, ∃ n24 : Int, ∃ n25 : Int, ∃ n26 : Int, ∃ t27 : Bool, ∃ n28 : Int, (v20 = (.tuple #[(.agg #[(.int .i64 n22), (.bool t23), (.int .i64 n24), (.int .i64 n25), (.int .i64 n26), (.bool t27)]), (.int .i64 n28)])) ∧
  ∀ k29 : Nat, (M21 k29 = none) → (Mem.wr (Mem.set M21 k29 (.cells #[(.int .i64 0), (.bool false), (.int .i64 0), (.int .i64 0), (.int .i64 0), (.bool false)] 56 (0, 0))) ⟨k29, 0, none⟩ = true) ∧
  (Mem.wr (Mem.put (Mem.set M21 k29 (.cells #[(.int .i64 0), (.bool false), (.int .i64 0), (.int .i64 0), (.int .i64 0), (.bool false)] 56 (0, 0))) ⟨k29, 0, none⟩ (.int .i64 n22)) ⟨k29, (0 + 1), none⟩ = true) ∧
  (Mem.wr (Mem.put (Mem.put (Mem.set M21 k29 (.cells #[(.int .i64 0), (.bool false), (.int .i64 0), (.int .i64 0), (.int .i64 0), (.bool false)] 56 (0, 0))) ⟨k29, 0, none⟩ (.int .i64 n22)) ⟨k29, (0 + 1), none⟩ (.bool t23)) ⟨k29, (0 + 2), none⟩ = true) ∧
  (Mem.wr (Mem.put (Mem.put (Mem.put (Mem.set M21 k29 (.cells #[(.int .i64 0), (.bool false), (.int .i64 0), (.int .i64 0), (.int .i64 0), (.bool false)] 56 (0, 0))) ⟨k29, 0, none⟩ (.int .i64 n22)) ⟨k29, (0 + 1), none⟩ (.bool t23)) ⟨k29, (0 + 2), none⟩ (.int .i64 n24)) ⟨k29, (0 + 3), none⟩ = true) ∧
  (Mem.wr (Mem.put (Mem.put (Mem.put (Mem.put (Mem.set M21 k29 (.cells #[(.int .i64 0), (.bool false), (.int .i64 0), (.int .i64 0), (.int .i64 0), (.bool false)] 56 (0, 0))) ⟨k29, 0, none⟩ (.int .i64 n22)) ⟨k29, (0 + 1), none⟩ (.bool t23)) ⟨k29, (0 + 2), none⟩ (.int .i64 n24)) ⟨k29, (0 + 3), none⟩ (.int .i64 n25)) ⟨k29, (0 + 4), none⟩ = true) ∧
  (Mem.wr (Mem.put (Mem.put (Mem.put (Mem.put (Mem.put (Mem.set M21 k29 (.cells #[(.int .i64 0), (.bool false), (.int .i64 0), (.int .i64 0), (.int .i64 0), (.bool false)] 56 (0, 0))) ⟨k29, 0, none⟩ (.int .i64 n22)) ⟨k29, (0 + 1), none⟩ (.bool t23)) ⟨k29, (0 + 2), none⟩ (.int .i64 n24)) ⟨k29, (0 + 3), none⟩ (.int .i64 n25)) ⟨k29, (0 + 4), none⟩ (.int .i64 n26)) ⟨k29, (0 + 5), none⟩ = true) ∧
  bsp (n10 == 0)
   (bsp (n18 == 6)
     (bsp (n28 == 0)
       (exI (Mem.ld (Mem.put (Mem.put (Mem.put (Mem.put (Mem.put (Mem.put (Mem.set M21 k29 (.cells #[(.int .i64 0), (.bool false), (.int .i64 0), (.int .i64 0), (.int .i64 0), (.bool false)] 56 (0, 0))) ⟨k29, 0, none⟩ (.int .i64 n22)) ⟨k29, (0 + 1), none⟩ (.bool t23)) ⟨k29, (0 + 2), none⟩ (.int .i64 n24)) ⟨k29, (0 + 3), none⟩ (.int .i64 n25)) ⟨k29, (0 + 4), none⟩ (.int .i64 n26)) ⟨k29, (0 + 5), none⟩ (.bool t27)) ⟨k29, 0, none⟩) .i64 fun n30 =>
        bsp (n30 == 5)
         (exB (Mem.ld (Mem.put (Mem.put (Mem.put (Mem.put (Mem.put (Mem.put (Mem.set M21 k29 (.cells #[(.int .i64 0), (.bool false), (.int .i64 0), (.int .i64 0), (.int .i64 0), (.bool false)] 56 (0, 0))) ⟨k29, 0, none⟩ (.int .i64 n22)) ⟨k29, (0 + 1), none⟩ (.bool t23)) ⟨k29, (0 + 2), none⟩ (.int .i64 n24)) ⟨k29, (0 + 3), none⟩ (.int .i64 n25)) ⟨k29, (0 + 4), none⟩ (.int .i64 n26)) ⟨k29, (0 + 5), none⟩ (.bool t27)) ⟨k29, (0 + 1), none⟩) fun t31 =>
          bsp t31
           (exB (Mem.ld (Mem.put (Mem.put (Mem.put (Mem.put (Mem.put (Mem.put (Mem.set M21 k29 (.cells #[(.int .i64 0), (.bool false), (.int .i64 0), (.int .i64 0), (.int .i64 0), (.bool false)] 56 (0, 0))) ⟨k29, 0, none⟩ (.int .i64 n22)) ⟨k29, (0 + 1), none⟩ (.bool t23)) ⟨k29, (0 + 2), none⟩ (.int .i64 n24)) ⟨k29, (0 + 3), none⟩ (.int .i64 n25)) ⟨k29, (0 + 4), none⟩ (.int .i64 n26)) ⟨k29, (0 + 5), none⟩ (.bool t27)) ⟨k29, (0 + 5), none⟩) fun t32 =>
            K (.bool (!t32)) (Mem.put (Mem.put (Mem.put (Mem.put (Mem.put (Mem.put (Mem.set M21 k29 (.cells #[(.int .i64 0), (.bool false), (.int .i64 0), (.int .i64 0), (.int .i64 0), (.bool false)] 56 (0, 0))) ⟨k29, 0, none⟩ (.int .i64 n22)) ⟨k29, (0 + 1), none⟩ (.bool t23)) ⟨k29, (0 + 2), none⟩ (.int .i64 n24)) ⟨k29, (0 + 3), none⟩ (.int .i64 n25)) ⟨k29, (0 + 4), none⟩ (.int .i64 n26)) ⟨k29, (0 + 5), none⟩ (.bool t27)))
           (K (.bool false) (Mem.put (Mem.put (Mem.put (Mem.put (Mem.put (Mem.put (Mem.set M21 k29 (.cells #[(.int .i64 0), (.bool false), (.int .i64 0), (.int .i64 0), (.int .i64 0), (.bool false)] 56 (0, 0))) ⟨k29, 0, none⟩ (.int .i64 n22)) ⟨k29, (0 + 1), none⟩ (.bool t23)) ⟨k29, (0 + 2), none⟩ (.int .i64 n24)) ⟨k29, (0 + 3), none⟩ (.int .i64 n25)) ⟨k29, (0 + 4), none⟩ (.int .i64 n26)) ⟨k29, (0 + 5), none⟩ (.bool t27))))
         (K (.bool false) (Mem.put (Mem.put (Mem.put (Mem.put (Mem.put (Mem.put (Mem.set M21 k29 (.cells #[(.int .i64 0), (.bool false), (.int .i64 0), (.int .i64 0), (.int .i64 0), (.bool false)] 56 (0, 0))) ⟨k29, 0, none⟩ (.int .i64 n22)) ⟨k29, (0 + 1), none⟩ (.bool t23)) ⟨k29, (0 + 2), none⟩ (.int .i64 n24)) ⟨k29, (0 + 3), none⟩ (.int .i64 n25)) ⟨k29, (0 + 4), none⟩ (.int .i64 n26)) ⟨k29, (0 + 5), none⟩ (.bool t27))))
       (K (.bool false) (Mem.put (Mem.put (Mem.put (Mem.put (Mem.put (Mem.put (Mem.set M21 k29 (.cells #[(.int .i64 0), (.bool false), (.int .i64 0), (.int .i64 0), (.int .i64 0), (.bool false)] 56 (0, 0))) ⟨k29, 0, none⟩ (.int .i64 n22)) ⟨k29, (0 + 1), none⟩ (.bool t23)) ⟨k29, (0 + 2), none⟩ (.int .i64 n24)) ⟨k29, (0 + 3), none⟩ (.int .i64 n25)) ⟨k29, (0 + 4), none⟩ (.int .i64 n26)) ⟨k29, (0 + 5), none⟩ (.bool t27))))
     (K (.bool false) (Mem.put (Mem.put (Mem.put (Mem.put (Mem.put (Mem.put (Mem.set M21 k29 (.cells #[(.int .i64 0), (.bool false), (.int .i64 0), (.int .i64 0), (.int .i64 0), (.bool false)] 56 (0, 0))) ⟨k29, 0, none⟩ (.int .i64 n22)) ⟨k29, (0 + 1), none⟩ (.bool t23)) ⟨k29, (0 + 2), none⟩ (.int .i64 n24)) ⟨k29, (0 + 3), none⟩ (.int .i64 n25)) ⟨k29, (0 + 4), none⟩ (.int .i64 n26)) ⟨k29, (0 + 5), none⟩ (.bool t27))))
   (K (.bool false) (Mem.put (Mem.put (Mem.put (Mem.put (Mem.put (Mem.put (Mem.set M21 k29 (.cells #[(.int .i64 0), (.bool false), (.int .i64 0), (.int .i64 0), (.int .i64 0), (.bool false)] 56 (0, 0))) ⟨k29, 0, none⟩ (.int .i64 n22)) ⟨k29, (0 + 1), none⟩ (.bool t23)) ⟨k29, (0 + 2), none⟩ (.int .i64 n24)) ⟨k29, (0 + 3), none⟩ (.int .i64 n25)) ⟨k29, (0 + 4), none⟩ (.int .i64 n26)) ⟨k29, (0 + 5), none⟩ (.bool t27)))) Kp) Kp) Kp)) Kp) :
  ACalls Try.prog 33 ([] : List Value).toArray M K Kp :=
  acalls_vc (C := Cx) good [] Try.func33 (by kernel_rfl) (by kernel_rfl) h

theorem vc_chans_New (x0 : Int) (M : Mem) (K : Value → Mem → Prop) (Kp : List PanicEntry → Mem → Prop) (h :
∀ k1 : Nat, (M k1 = none) → K (.pointer (some ⟨k1, 0, none⟩)) (Mem.set M k1 (.cells #[(.int .i64 (if (16 : Int) < (if (0 : Int) > x0 then 0 else x0) then 16 else (if (0 : Int) > x0 then 0 else x0))), (.slice none 0 0), (.slice none 0 0), (.slice none 0 0), (.bool false)] 148 (0, 0)))) :
  ACalls Try.prog 34 ([.int .i64 x0] : List Value).toArray M K Kp :=
  acalls_vc (C := Cx) good [] Try.func34 (by kernel_rfl) (by kernel_rfl) h

theorem vc_chans_Chan_WaitSend (b0 o0 : Nat) (x1_0 : Int) (x1_1 : Int) (x1_2 : Int) (M : Mem) (K : Value → Mem → Prop) (Kp : List PanicEntry → Mem → Prop) (h :
∀ k1 : Nat, (M k1 = none) → exSl (Mem.ld (Mem.set M k1 (.cells #[(.int .i64 x1_0), (.int .i64 x1_1), (.int .i64 x1_2)] 54 (0, 0))) ⟨b0, (o0 + 2), none⟩) fun A2 k3 k4 =>
exI (Mem.ld (Mem.set M k1 (.cells #[(.int .i64 x1_0), (.int .i64 x1_1), (.int .i64 x1_2)] 54 (0, 0))) ⟨k1, 0, none⟩) .i64 fun n5 =>
exI (Mem.ld (Mem.set M k1 (.cells #[(.int .i64 x1_0), (.int .i64 x1_1), (.int .i64 x1_2)] 54 (0, 0))) ⟨k1, (0 + 1), none⟩) .i64 fun n6 =>
exI (Mem.ld (Mem.set M k1 (.cells #[(.int .i64 x1_0), (.int .i64 x1_1), (.int .i64 x1_2)] 54 (0, 0))) ⟨k1, (0 + 2), none⟩) .i64 fun n7 =>
∀ k8 : Nat, ((Mem.set M k1 (.cells #[(.int .i64 x1_0), (.int .i64 x1_1), (.int .i64 x1_2)] 54 (0, 0))) k8 = none) → semK Try.prog (Go.Builtin.append_ #[77, 77] 77 #[(.slice A2 k3 k4), (.slice (some ⟨k8, 0, none⟩) 1 1)]) (Mem.set (Mem.set M k1 (.cells #[(.int .i64 x1_0), (.int .i64 x1_1), (.int .i64 x1_2)] 54 (0, 0))) k8 (.cells #[(.int .i64 n5), (.int .i64 n6), (.int .i64 n7)] 54 (0, 0))) (fun v9 M10 =>
exSl (some v9) fun A11 k12 k13 =>
(Mem.wr M10 ⟨b0, (o0 + 2), none⟩ = true) ∧
K (.tuple #[]) (Mem.put M10 ⟨b0, (o0 + 2), none⟩ (.slice A11 k12 k13))) Kp) :
  ACalls Try.prog 35 ([.pointer (some ⟨b0, o0, none⟩), .agg #[.int .i64 x1_0, .int .i64 x1_1, .int .i64 x1_2]] : List Value).toArray M K Kp :=
  acalls_vc (C := Cx) good [(1, .reg [0, 0, 2, 6, 14, 0, 32, 126, 255, 511, 1023] (.step 0 (.step 1 (.step 2 (.step 3 (.step 4 (.step 5 (.step 6 (.step 7 (.step 8 (.step 9 (.step 10 .done))))))))))))] Try.func35 (by kernel_rfl) (by kernel_rfl) h

theorem vc_chans_Chan_WaitRecv (b0 o0 : Nat) (x1_0 : Int) (x1_1 : Int) (x1_2 : Int) (M : Mem) (K : Value → Mem → Prop) (Kp : List PanicEntry → Mem → Prop) (h :
∀ k1 : Nat, (M k1 = none) → exSl (Mem.ld (Mem.set M k1 (.cells #[(.int .i64 x1_0), (.int .i64 x1_1), (.int .i64 x1_2)] 54 (0, 0))) ⟨b0, (o0 + 3), none⟩) fun A2 k3 k4 =>
exI (Mem.ld (Mem.set M k1 (.cells #[(.int .i64 x1_0), (.int .i64 x1_1), (.int .i64 x1_2)] 54 (0, 0))) ⟨k1, 0, none⟩) .i64 fun n5 =>
exI (Mem.ld (Mem.set M k1 (.cells #[(.int .i64 x1_0), (.int .i64 x1_1), (.int .i64 x1_2)] 54 (0, 0))) ⟨k1, (0 + 1), none⟩) .i64 fun n6 =>
exI (Mem.ld (Mem.set M k1 (.cells #[(.int .i64 x1_0), (.int .i64 x1_1), (.int .i64 x1_2)] 54 (0, 0))) ⟨k1, (0 + 2), none⟩) .i64 fun n7 =>
∀ k8 : Nat, ((Mem.set M k1 (.cells #[(.int .i64 x1_0), (.int .i64 x1_1), (.int .i64 x1_2)] 54 (0, 0))) k8 = none) → semK Try.prog (Go.Builtin.append_ #[77, 77] 77 #[(.slice A2 k3 k4), (.slice (some ⟨k8, 0, none⟩) 1 1)]) (Mem.set (Mem.set M k1 (.cells #[(.int .i64 x1_0), (.int .i64 x1_1), (.int .i64 x1_2)] 54 (0, 0))) k8 (.cells #[(.int .i64 n5), (.int .i64 n6), (.int .i64 n7)] 54 (0, 0))) (fun v9 M10 =>
exSl (some v9) fun A11 k12 k13 =>
(Mem.wr M10 ⟨b0, (o0 + 3), none⟩ = true) ∧
K (.tuple #[]) (Mem.put M10 ⟨b0, (o0 + 3), none⟩ (.slice A11 k12 k13))) Kp) :
  ACalls Try.prog 36 ([.pointer (some ⟨b0, o0, none⟩), .agg #[.int .i64 x1_0, .int .i64 x1_1, .int .i64 x1_2]] : List Value).toArray M K Kp :=
  acalls_vc (C := Cx) good [(1, .reg [0, 0, 2, 6, 14, 0, 32, 126, 255, 511, 1023] (.step 0 (.step 1 (.step 2 (.step 3 (.step 4 (.step 5 (.step 6 (.step 7 (.step 8 (.step 9 (.step 10 .done))))))))))))] Try.func36 (by kernel_rfl) (by kernel_rfl) h

theorem vc_chans_Chan_Recv (b0 o0 : Nat) (M : Mem) (K : Value → Mem → Prop) (Kp : List PanicEntry → Mem → Prop) (h :
∀ k1 : Nat, (M k1 = none) → ∀ k2 : Nat, ((Mem.set M k1 (.cells #[(.int .i64 0), (.bool false), (.int .i64 0), (.int .i64 0), (.int .i64 0), (.bool false)] 56 (0, 0))) k2 = none) → exSl (Mem.ld (Mem.set (Mem.set M k1 (.cells #[(.int .i64 0), (.bool false), (.int .i64 0), (.int .i64 0), (.int .i64 0), (.bool false)] 56 (0, 0))) k2 (.cells #[(.int .i64 0), (.bool false), (.int .i64 0), (.int .i64 0), (.int .i64 0), (.bool false)] 56 (0, 0))) ⟨b0, (o0 + 2), none⟩) fun A3 k4 k5 =>
∃ J6 : List Value → Mem → Prop, (bsp (decide ((((k4 : Nat) : Int) : Int) > 0))
  (exSl (Mem.ld (Mem.set (Mem.set M k1 (.cells #[(.int .i64 0), (.bool false), (.int .i64 0), (.int .i64 0), (.int .i64 0), (.bool false)] 56 (0, 0))) k2 (.cells #[(.int .i64 0), (.bool false), (.int .i64 0), (.int .i64 0), (.int .i64 0), (.bool false)] 56 (0, 0))) ⟨b0, (o0 + 2), none⟩) fun A7 k8 k9 =>
   ACalls Try.prog 80 #[(.slice A7 k8 k9)] (Mem.set (Mem.set M k1 (.cells #[(.int .i64 0), (.bool false), (.int .i64 0), (.int .i64 0), (.int .i64 0), (.bool false)] 56 (0, 0))) k2 (.cells #[(.int .i64 0), (.bool false), (.int .i64 0), (.int .i64 0), (.int .i64 0), (.bool false)] 56 (0, 0))) (fun v10 M11 =>
   ∃ n12 : Int, ∃ n13 : Int, ∃ n14 : Int, ∃ A15 : Option Addr, ∃ k16 : Nat, ∃ k17 : Nat, (v10 = (.tuple #[(.agg #[(.int .i64 n12), (.int .i64 n13), (.int .i64 n14)]), (.slice A15 k16 k17)])) ∧
   (Mem.wr M11 ⟨k2, (0 + 2), none⟩ = true) ∧
   (Mem.wr (Mem.put M11 ⟨k2, (0 + 2), none⟩ (.int .i64 n12)) ⟨k2, ((0 + 2) + 1), none⟩ = true) ∧
   (Mem.wr (Mem.put (Mem.put M11 ⟨k2, (0 + 2), none⟩ (.int .i64 n12)) ⟨k2, ((0 + 2) + 1), none⟩ (.int .i64 n13)) ⟨k2, ((0 + 2) + 2), none⟩ = true) ∧
   (Mem.wr (Mem.put (Mem.put (Mem.put M11 ⟨k2, (0 + 2), none⟩ (.int .i64 n12)) ⟨k2, ((0 + 2) + 1), none⟩ (.int .i64 n13)) ⟨k2, ((0 + 2) + 2), none⟩ (.int .i64 n14)) ⟨b0, (o0 + 2), none⟩ = true) ∧
   (Mem.wr (Mem.put (Mem.put (Mem.put (Mem.put M11 ⟨k2, (0 + 2), none⟩ (.int .i64 n12)) ⟨k2, ((0 + 2) + 1), none⟩ (.int .i64 n13)) ⟨k2, ((0 + 2) + 2), none⟩ (.int .i64 n14)) ⟨b0, (o0 + 2), none⟩ (.slice A15 k16 k17)) ⟨k2, (0 + 5), none⟩ = true) ∧
   exSl (Mem.ld (Mem.put (Mem.put (Mem.put (Mem.put (Mem.put M11 ⟨k2, (0 + 2), none⟩ (.int .i64 n12)) ⟨k2, ((0 + 2) + 1), none⟩ (.int .i64 n13)) ⟨k2, ((0 + 2) + 2), none⟩ (.int .i64 n14)) ⟨b0, (o0 + 2), none⟩ (.slice A15 k16 k17)) ⟨k2, (0 + 5), none⟩ (.bool true)) ⟨b0, (o0 + 1), none⟩) fun A18 k19 k20 =>
   exI (Mem.ld (Mem.put (Mem.put (Mem.put (Mem.put (Mem.put M11 ⟨k2, (0 + 2), none⟩ (.int .i64 n12)) ⟨k2, ((0 + 2) + 1), none⟩ (.int .i64 n13)) ⟨k2, ((0 + 2) + 2), none⟩ (.int .i64 n14)) ⟨b0, (o0 + 2), none⟩ (.slice A15 k16 k17)) ⟨k2, (0 + 5), none⟩ (.bool true)) ⟨k2, ((0 + 2) + 2), none⟩) .i64 fun n21 =>
   ∀ k22 : Nat, ((Mem.put (Mem.put (Mem.put (Mem.put (Mem.put M11 ⟨k2, (0 + 2), none⟩ (.int .i64 n12)) ⟨k2, ((0 + 2) + 1), none⟩ (.int .i64 n13)) ⟨k2, ((0 + 2) + 2), none⟩ (.int .i64 n14)) ⟨b0, (o0 + 2), none⟩ (.slice A15 k16 k17)) ⟨k2, (0 + 5), none⟩ (.bool true)) k22 = none) → semK Try.prog (Go.Builtin.append_ #[49, 49] 49 #[(.slice A18 k19 k20), (.slice (some ⟨k22, 0, none⟩) 1 1)]) (Mem.set (Mem.put (Mem.put (Mem.put (Mem.put (Mem.put M11 ⟨k2, (0 + 2), none⟩ (.int .i64 n12)) ⟨k2, ((0 + 2) + 1), none⟩ (.int .i64 n13)) ⟨k2, ((0 + 2) + 2), none⟩ (.int .i64 n14)) ⟨b0, (o0 + 2), none⟩ (.slice A15 k16 k17)) ⟨k2, (0 + 5), none⟩ (.bool true)) k22 (.cells #[(.int .i64 n21)] 2 (0, 0))) (fun v23 M24 =>
   exSl (some v23) fun A25 k26 k27 =>
   (Mem.wr M24 ⟨b0, (o0 + 1), none⟩ = true) ∧
   J6 [] (Mem.put M24 ⟨b0, (o0 + 1), none⟩ (.slice A25 k26 k27))) Kp) Kp)
  (J6 [] (Mem.set (Mem.set M k1 (.cells #[(.int .i64 0), (.bool false), (.int .i64 0), (.int .i64 0), (.int .i64 0), (.bool false)] 56 (0, 0))) k2 (.cells #[(.int .i64 0), (.bool false), (.int .i64 0), (.int .i64 0), (.int .i64 0), (.bool false)] 56 (0, 0))))) ∧
∀ junk28 : Nat → Value, ∀ M29 : Mem, (J6 [] M29) → exSl (Mem.ld M29 ⟨b0, (o0 + 1), none⟩) fun A30 k31 k32 =>
bsp (decide ((((k31 : Nat) : Int) : Int) > 0))
 (exSl (Mem.ld M29 ⟨b0, (o0 + 1), none⟩) fun A33 k34 k35 =>
  ((0 : Int) ≤ 0) ∧
  ((0 : Int) < ((k34 : Nat) : Int)) ∧
  nilc A33 fun k36 k37 =>
  exI (Mem.ld M29 ⟨k36, (k37 + 0), none⟩) .i64 fun n38 =>
  (Mem.wr M29 ⟨k2, 0, none⟩ = true) ∧
  (Mem.wr (Mem.put M29 ⟨k2, 0, none⟩ (.int .i64 n38)) ⟨k2, (0 + 1), none⟩ = true) ∧
  ∀ k39 : Nat, ((Mem.put (Mem.put M29 ⟨k2, 0, none⟩ (.int .i64 n38)) ⟨k2, (0 + 1), none⟩ (.bool true)) k39 = none) → exSl (Mem.ld (Mem.set (Mem.put (Mem.put M29 ⟨k2, 0, none⟩ (.int .i64 n38)) ⟨k2, (0 + 1), none⟩ (.bool true)) k39 (.cells #[] 2 (0, 0))) ⟨b0, (o0 + 1), none⟩) fun A40 k41 k42 =>
  ((0 : Int) ≤ ((k42 : Nat) : Int)) ∧
  ((((k42 : Nat) : Int) : Int) ≤ ((k42 : Nat) : Int)) ∧
  ((0 : Int) ≤ ((k41 : Nat) : Int)) ∧
  ((((k41 : Nat) : Int) : Int) ≤ ((k42 : Nat) : Int)) ∧
  ((0 : Int) ≤ 1) ∧
  ((1 : Int) ≤ ((k41 : Nat) : Int)) ∧
  semK Try.prog (Go.Builtin.append_ #[49, 49] 49 #[(.slice (some ⟨k39, 0, none⟩) 0 0), (.slice (slA A40 1 (Int.toNat ((k42 : Nat) : Int)) 1) ((Int.toNat ((k41 : Nat) : Int)) - 1) ((Int.toNat ((k42 : Nat) : Int)) - 1))]) (Mem.set (Mem.put (Mem.put M29 ⟨k2, 0, none⟩ (.int .i64 n38)) ⟨k2, (0 + 1), none⟩ (.bool true)) k39 (.cells #[] 2 (0, 0))) (fun v43 M44 =>
  exSl (some v43) fun A45 k46 k47 =>
  (Mem.wr M44 ⟨b0, (o0 + 1), none⟩ = true) ∧
  exI (Mem.ld (Mem.put M44 ⟨b0, (o0 + 1), none⟩ (.slice A45 k46 k47)) ⟨k2, 0, none⟩) .i64 fun n48 =>
  exB (Mem.ld (Mem.put M44 ⟨b0, (o0 + 1), none⟩ (.slice A45 k46 k47)) ⟨k2, (0 + 1), none⟩) fun t49 =>
  exI (Mem.ld (Mem.put M44 ⟨b0, (o0 + 1), none⟩ (.slice A45 k46 k47)) ⟨k2, (0 + 2), none⟩) .i64 fun n50 =>
  exI (Mem.ld (Mem.put M44 ⟨b0, (o0 + 1), none⟩ (.slice A45 k46 k47)) ⟨k2, (0 + 3), none⟩) .i64 fun n51 =>
  exI (Mem.ld (Mem.put M44 ⟨b0, (o0 + 1), none⟩ (.slice A45 k46 k47)) ⟨k2, (0 + 4), none⟩) .i64 fun n52 =>
  exB (Mem.ld (Mem.put M44 ⟨b0, (o0 + 1), none⟩ (.slice A45 k46 k47)) ⟨k2, (0 + 5), none⟩) fun t53 =>
  (Mem.wr (Mem.put M44 ⟨b0, (o0 + 1), none⟩ (.slice A45 k46 k47)) ⟨k1, 0, none⟩ = true) ∧
  (Mem.wr (Mem.put (Mem.put M44 ⟨b0, (o0 + 1), none⟩ (.slice A45 k46 k47)) ⟨k1, 0, none⟩ (.int .i64 n48)) ⟨k1, (0 + 1), none⟩ = true) ∧
  (Mem.wr (Mem.put (Mem.put (Mem.put M44 ⟨b0, (o0 + 1), none⟩ (.slice A45 k46 k47)) ⟨k1, 0, none⟩ (.int .i64 n48)) ⟨k1, (0 + 1), none⟩ (.bool t49)) ⟨k1, (0 + 2), none⟩ = true) ∧
  (Mem.wr (Mem.put (Mem.put (Mem.put (Mem.put M44 ⟨b0, (o0 + 1), none⟩ (.slice A45 k46 k47)) ⟨k1, 0, none⟩ (.int .i64 n48)) ⟨k1, (0 + 1), none⟩ (.bool t49)) ⟨k1, (0 + 2), none⟩ (.int .i64 n50)) ⟨k1, (0 + 3), none⟩ = true) ∧
  (Mem.wr (Mem.put (Mem.put (Mem.put (Mem.put (Mem.put M44 ⟨b0, (o0 + 1), none⟩ (.slice A45 k46 k47)) ⟨k1, 0, none⟩ (.int .i64 n48)) ⟨k1, (0 + 1), none⟩ (.bool t49)) ⟨k1, (0 + 2), none⟩ (.int .i64 n50)) ⟨k1, (0 + 3), none⟩ (.int .i64 n51)) ⟨k1, (0 + 4), none⟩ = true) ∧
  (Mem.wr (Mem.put (Mem.put (Mem.put (Mem.put (Mem.put (Mem.put M44 ⟨b0, (o0 + 1), none⟩ (.slice A45 k46 k47)) ⟨k1, 0, none⟩ (.int .i64 n48)) ⟨k1, (0 + 1), none⟩ (.bool t49)) ⟨k1, (0 + 2), none⟩ (.int .i64 n50)) ⟨k1, (0 + 3), none⟩ (.int .i64 n51)) ⟨k1, (0 + 4), none⟩ (.int .i64 n52)) ⟨k1, (0 + 5), none⟩ = true) ∧
  exI (Mem.ld (Mem.put (Mem.put (Mem.put (Mem.put (Mem.put (Mem.put (Mem.put M44 ⟨b0, (o0 + 1), none⟩ (.slice A45 k46 k47)) ⟨k1, 0, none⟩ (.int .i64 n48)) ⟨k1, (0 + 1), none⟩ (.bool t49)) ⟨k1, (0 + 2), none⟩ (.int .i64 n50)) ⟨k1, (0 + 3), none⟩ (.int .i64 n51)) ⟨k1, (0 + 4), none⟩ (.int .i64 n52)) ⟨k1, (0 + 5), none⟩ (.bool t53)) ⟨k1, 0, none⟩) .i64 fun n54 =>
  exB (Mem.ld (Mem.put (Mem.put (Mem.put (Mem.put (Mem.put (Mem.put (Mem.put M44 ⟨b0, (o0 + 1), none⟩ (.slice A45 k46 k47)) ⟨k1, 0, none⟩ (.int .i64 n48)) ⟨k1, (0 + 1), none⟩ (.bool t49)) ⟨k1, (0 + 2), none⟩ (.int .i64 n50)) ⟨k1, (0 + 3), none⟩ (.int .i64 n51)) ⟨k1, (0 + 4), none⟩ (.int .i64 n52)) ⟨k1, (0 + 5), none⟩ (.bool t53)) ⟨k1, (0 + 1), none⟩) fun t55 =>
  exI (Mem.ld (Mem.put (Mem.put (Mem.put (Mem.put (Mem.put (Mem.put (Mem.put M44 ⟨b0, (o0 + 1), none⟩ (.slice A45 k46 k47)) ⟨k1, 0, none⟩ (.int .i64 n48)) ⟨k1, (0 + 1), none⟩ (.bool t49)) ⟨k1, (0 + 2), none⟩ (.int .i64 n50)) ⟨k1, (0 + 3), none⟩ (.int .i64 n51)) ⟨k1, (0 + 4), none⟩ (.int .i64 n52)) ⟨k1, (0 + 5), none⟩ (.bool t53)) ⟨k1, (0 + 2), none⟩) .i64 fun n56 =>
  exI (Mem.ld (Mem.put (Mem.put (Mem.put (Mem.put (Mem.put (Mem.put (Mem.put M44 ⟨b0, (o0 + 1), none⟩ (.slice A45 k46 k47)) ⟨k1, 0, none⟩ (.int .i64 n48)) ⟨k1, (0 + 1), none⟩ (.bool t49)) ⟨k1, (0 + 2), none⟩ (.int .i64 n50)) ⟨k1, (0 + 3), none⟩ (.int .i64 n51)) ⟨k1, (0 + 4), none⟩ (.int .i64 n52)) ⟨k1, (0 + 5), none⟩ (.bool t53)) ⟨k1, (0 + 3), none⟩) .i64 fun n57 =>
  exI (Mem.ld (Mem.put (Mem.put (Mem.put (Mem.put (Mem.put (Mem.put (Mem.put M44 ⟨b0, (o0 + 1), none⟩ (.slice A45 k46 k47)) ⟨k1, 0, none⟩ (.int .i64 n48)) ⟨k1, (0 + 1), none⟩ (.bool t49)) ⟨k1, (0 + 2), none⟩ (.int .i64 n50)) ⟨k1, (0 + 3), none⟩ (.int .i64 n51)) ⟨k1, (0 + 4), none⟩ (.int .i64 n52)) ⟨k1, (0 + 5), none⟩ (.bool t53)) ⟨k1, (0 + 4), none⟩) .i64 fun n58 =>
  exB (Mem.ld (Mem.put (Mem.put (Mem.put (Mem.put (Mem.put (Mem.put (Mem.put M44 ⟨b0, (o0 + 1), none⟩ (.slice A45 k46 k47)) ⟨k1, 0, none⟩ (.int .i64 n48)) ⟨k1, (0 + 1), none⟩ (.bool t49)) ⟨k1, (0 + 2), none⟩ (.int .i64 n50)) ⟨k1, (0 + 3), none⟩ (.int .i64 n51)) ⟨k1, (0 + 4), none⟩ (.int .i64 n52)) ⟨k1, (0 + 5), none⟩ (.bool t53)) ⟨k1, (0 + 5), none⟩) fun t59 =>
  K (.tuple #[(.agg #[(.int .i64 n54), (.bool t55), (.int .i64 n56), (.int .i64 n57), (.int .i64 n58), (.bool t59)]), (.int .i64 0)]) (Mem.put (Mem.put (Mem.put (Mem.put (Mem.put (Mem.put (Mem.put M44 ⟨b0, (o0 + 1), none⟩ (.slice A45 k46 k47)) ⟨k1, 0, none⟩ (.int .i64 n48)) ⟨k1, (0 + 1), none⟩ (.bool t49)) ⟨k1, (0 + 2), none⟩ (.int .i64 n50)) ⟨k1, (0 + 3), none⟩ (.int .i64 n51)) ⟨k1, (0 + 4), none⟩ (.int .i64 n52)) ⟨k1, (0 + 5), none⟩ (.bool t53))) Kp)
 (exB (Mem.ld M29 ⟨b0, (o0 + 4), none⟩) fun t60 =>
  bsp t60
   (exI (Mem.ld M29 ⟨k2, 0, none⟩) .i64 fun n61 =>
    exB (Mem.ld M29 ⟨k2, (0 + 1), none⟩) fun t62 =>
    exI (Mem.ld M29 ⟨k2, (0 + 2), none⟩) .i64 fun n63 =>
    exI (Mem.ld M29 ⟨k2, (0 + 3), none⟩) .i64 fun n64 =>
    exI (Mem.ld M29 ⟨k2, (0 + 4), none⟩) .i64 fun n65 =>
    exB (Mem.ld M29 ⟨k2, (0 + 5), none⟩) fun t66 =>
    (Mem.wr M29 ⟨k1, 0, none⟩ = true) ∧
    (Mem.wr (Mem.put M29 ⟨k1, 0, none⟩ (.int .i64 n61)) ⟨k1, (0 + 1), none⟩ = true) ∧
    (Mem.wr (Mem.put (Mem.put M29 ⟨k1, 0, none⟩ (.int .i64 n61)) ⟨k1, (0 + 1), none⟩ (.bool t62)) ⟨k1, (0 + 2), none⟩ = true) ∧
    (Mem.wr (Mem.put (Mem.put (Mem.put M29 ⟨k1, 0, none⟩ (.int .i64 n61)) ⟨k1, (0 + 1), none⟩ (.bool t62)) ⟨k1, (0 + 2), none⟩ (.int .i64 n63)) ⟨k1, (0 + 3), none⟩ = true) ∧
    (Mem.wr (Mem.put (Mem.put (Mem.put (Mem.put M29 ⟨k1, 0, none⟩ (.int .i64 n61)) ⟨k1, (0 + 1), none⟩ (.bool t62)) ⟨k1, (0 + 2), none⟩ (.int .i64 n63)) ⟨k1, (0 + 3), none⟩ (.int .i64 n64)) ⟨k1, (0 + 4), none⟩ = true) ∧
    (Mem.wr (Mem.put (Mem.put (Mem.put (Mem.put (Mem.put M29 ⟨k1, 0, none⟩ (.int .i64 n61)) ⟨k1, (0 + 1), none⟩ (.bool t62)) ⟨k1, (0 + 2), none⟩ (.int .i64 n63)) ⟨k1, (0 + 3), none⟩ (.int .i64 n64)) ⟨k1, (0 + 4), none⟩ (.int .i64 n65)) ⟨k1, (0 + 5), none⟩ = true) ∧
    exI (Mem.ld (Mem.put (Mem.put (Mem.put (Mem.put (Mem.put (Mem.put M29 ⟨k1, 0, none⟩ (.int .i64 n61)) ⟨k1, (0 + 1), none⟩ (.bool t62)) ⟨k1, (0 + 2), none⟩ (.int .i64 n63)) ⟨k1, (0 + 3), none⟩ (.int .i64 n64)) ⟨k1, (0 + 4), none⟩ (.int .i64 n65)) ⟨k1, (0 + 5), none⟩ (.bool t66)) ⟨k1, 0, none⟩) .i64 fun n67 =>
    exB (Mem.ld (Mem.put (Mem.put (Mem.put (Mem.put (Mem.put (Mem.put M29 ⟨k1, 0, none⟩ (.int .i64 n61)) ⟨k1, (0 + 1), none⟩ (.bool t62)) ⟨k1, (0 + 2), none⟩ (.int .i64 n63)) ⟨k1, (0 + 3), none⟩ (.int .i64 n64)) ⟨k1, (0 + 4), none⟩ (.int .i64 n65)) ⟨k1, (0 + 5), none⟩ (.bool t66)) ⟨k1, (0 + 1), none⟩) fun t68 =>
    exI (Mem.ld (Mem.put (Mem.put (Mem.put (Mem.put (Mem.put (Mem.put M29 ⟨k1, 0, none⟩ (.int .i64 n61)) ⟨k1, (0 + 1), none⟩ (.bool t62)) ⟨k1, (0 + 2), none⟩ (.int .i64 n63)) ⟨k1, (0 + 3), none⟩ (.int .i64 n64)) ⟨k1, (0 + 4), none⟩ (.int .i64 n65)) ⟨k1, (0 + 5), none⟩ (.bool t66)) ⟨k1, (0 + 2), none⟩) .i64 fun n69 =>
    exI (Mem.ld (Mem.put (Mem.put (Mem.put (Mem.put (Mem.put (Mem.put M29 ⟨k1, 0, none⟩ (.int .i64 n61)) ⟨k1, (0 + 1), none⟩ (.bool t62)) ⟨k1, (0 + 2), none⟩ (.int .i64 n63)) ⟨k1, (0 + 3), none⟩ (.int .i64 n64)) ⟨k1, (0 + 4), none⟩ (.int .i64 n65)) ⟨k1, (0 + 5), none⟩ (.bool t66)) ⟨k1, (0 + 3), none⟩) .i64 fun n70 =>
    exI (Mem.ld (Mem.put (Mem.put (Mem.put (Mem.put (Mem.put (Mem.put M29 ⟨k1, 0, none⟩ (.int .i64 n61)) ⟨k1, (0 + 1), none⟩ (.bool t62)) ⟨k1, (0 + 2), none⟩ (.int .i64 n63)) ⟨k1, (0 + 3), none⟩ (.int .i64 n64)) ⟨k1, (0 + 4), none⟩ (.int .i64 n65)) ⟨k1, (0 + 5), none⟩ (.bool t66)) ⟨k1, (0 + 4), none⟩) .i64 fun n71 =>
    exB (Mem.ld (Mem.put (Mem.put (Mem.put (Mem.put (Mem.put (Mem.put M29 ⟨k1, 0, none⟩ (.int .i64 n61)) ⟨k1, (0 + 1), none⟩ (.bool t62)) ⟨k1, (0 + 2), none⟩ (.int .i64 n63)) ⟨k1, (0 + 3), none⟩ (.int .i64 n64)) ⟨k1, (0 + 4), none⟩ (.int .i64 n65)) ⟨k1, (0 + 5), none⟩ (.bool t66)) ⟨k1, (0 + 5), none⟩) fun t72 =>
    K (.tuple #[(.agg #[(.int .i64 n67), (.bool t68), (.int .i64 n69), (.int .i64 n70), (.int .i64 n71), (.bool t72)]), (.int .i64 0)]) (Mem.put (Mem.put (Mem.put (Mem.put (Mem.put (Mem.put M29 ⟨k1, 0, none⟩ (.int .i64 n61)) ⟨k1, (0 + 1), none⟩ (.bool t62)) ⟨k1, (0 + 2), none⟩ (.int .i64 n63)) ⟨k1, (0 + 3), none⟩ (.int .i64 n64)) ⟨k1, (0 + 4), none⟩ (.int .i64 n65)) ⟨k1, (0 + 5), none⟩ (.bool t66)))
   (exI (Mem.ld M29 ⟨k2, 0, none⟩) .i64 fun n73 =>
    exB (Mem.ld M29 ⟨k2, (0 + 1), none⟩) fun t74 =>
    exI (Mem.ld M29 ⟨k2, (0 + 2), none⟩) .i64 fun n75 =>
    exI (Mem.ld M29 ⟨k2, (0 + 3), none⟩) .i64 fun n76 =>
    exI (Mem.ld M29 ⟨k2, (0 + 4), none⟩) .i64 fun n77 =>
    exB (Mem.ld M29 ⟨k2, (0 + 5), none⟩) fun t78 =>
    (Mem.wr M29 ⟨k1, 0, none⟩ = true) ∧
    (Mem.wr (Mem.put M29 ⟨k1, 0, none⟩ (.int .i64 n73)) ⟨k1, (0 + 1), none⟩ = true) ∧
    (Mem.wr (Mem.put (Mem.put M29 ⟨k1, 0, none⟩ (.int .i64 n73)) ⟨k1, (0 + 1), none⟩ (.bool t74)) ⟨k1, (0 + 2), none⟩ = true) ∧
    (Mem.wr (Mem.put (Mem.put (Mem.put M29 ⟨k1, 0, none⟩ (.int .i64 n73)) ⟨k1, (0 + 1), none⟩ (.bool t74)) ⟨k1, (0 + 2), none⟩ (.int .i64 n75)) ⟨k1, (0 + 3), none⟩ = true) ∧
    (Mem.wr (Mem.put (Mem.put (Mem.put (Mem.put M29 ⟨k1, 0, none⟩ (.int .i64 n73)) ⟨k1, (0 + 1), none⟩ (.bool t74)) ⟨k1, (0 + 2), none⟩ (.int .i64 n75)) ⟨k1, (0 + 3), none⟩ (.int .i64 n76)) ⟨k1, (0 + 4), none⟩ = true) ∧
    (Mem.wr (Mem.put (Mem.put (Mem.put (Mem.put (Mem.put M29 ⟨k1, 0, none⟩ (.int .i64 n73)) ⟨k1, (0 + 1), none⟩ (.bool t74)) ⟨k1, (0 + 2), none⟩ (.int .i64 n75)) ⟨k1, (0 + 3), none⟩ (.int .i64 n76)) ⟨k1, (0 + 4), none⟩ (.int .i64 n77)) ⟨k1, (0 + 5), none⟩ = true) ∧
    exI (Mem.ld (Mem.put (Mem.put (Mem.put (Mem.put (Mem.put (Mem.put M29 ⟨k1, 0, none⟩ (.int .i64 n73)) ⟨k1, (0 + 1), none⟩ (.bool t74)) ⟨k1, (0 + 2), none⟩ (.int .i64 n75)) ⟨k1, (0 + 3), none⟩ (.int .i64 n76)) ⟨k1, (0 + 4), none⟩ (.int .i64 n77)) ⟨k1, (0 + 5), none⟩ (.bool t78)) ⟨k1, 0, none⟩) .i64 fun n79 =>
    exB (Mem.ld (Mem.put (Mem.put (Mem.put (Mem.put (Mem.put (Mem.put M29 ⟨k1, 0, none⟩ (.int .i64 n73)) ⟨k1, (0 + 1), none⟩ (.bool t74)) ⟨k1, (0 + 2), none⟩ (.int .i64 n75)) ⟨k1, (0 + 3), none⟩ (.int .i64 n76)) ⟨k1, (0 + 4), none⟩ (.int .i64 n77)) ⟨k1, (0 + 5), none⟩ (.bool t78)) ⟨k1, (0 + 1), none⟩) fun t80 =>
    exI (Mem.ld (Mem.put (Mem.put (Mem.put (Mem.put (Mem.put (Mem.put M29 ⟨k1, 0, none⟩ (.int .i64 n73)) ⟨k1, (0 + 1), none⟩ (.bool t74)) ⟨k1, (0 + 2), none⟩ (.int .i64 n75)) ⟨k1, (0 + 3), none⟩ (.int .i64 n76)) ⟨k1, (0 + 4), none⟩ (.int .i64 n77)) ⟨k1, (0 + 5), none⟩ (.bool t78)) ⟨k1, (0 + 2), none⟩) .i64 fun n81 =>
    exI (Mem.ld (Mem.put (Mem.put (Mem.put (Mem.put (Mem.put (Mem.put M29 ⟨k1, 0, none⟩ (.int .i64 n73)) ⟨k1, (0 + 1), none⟩ (.bool t74)) ⟨k1, (0 + 2), none⟩ (.int .i64 n75)) ⟨k1, (0 + 3), none⟩ (.int .i64 n76)) ⟨k1, (0 + 4), none⟩ (.int .i64 n77)) ⟨k1, (0 + 5), none⟩ (.bool t78)) ⟨k1, (0 + 3), none⟩) .i64 fun n82 =>
    exI (Mem.ld (Mem.put (Mem.put (Mem.put (Mem.put (Mem.put (Mem.put M29 ⟨k1, 0, none⟩ (.int .i64 n73)) ⟨k1, (0 + 1), none⟩ (.bool t74)) ⟨k1, (0 + 2), none⟩ (.int .i64 n75)) ⟨k1, (0 + 3), none⟩ (.int .i64 n76)) ⟨k1, (0 + 4), none⟩ (.int .i64 n77)) ⟨k1, (0 + 5), none⟩ (.bool t78)) ⟨k1, (0 + 4), none⟩) .i64 fun n83 =>
    exB (Mem.ld (Mem.put (Mem.put (Mem.put (Mem.put (Mem.put (Mem.put M29 ⟨k1, 0, none⟩ (.int .i64 n73)) ⟨k1, (0 + 1), none⟩ (.bool t74)) ⟨k1, (0 + 2), none⟩ (.int .i64 n75)) ⟨k1, (0 + 3), none⟩ (.int .i64 n76)) ⟨k1, (0 + 4), none⟩ (.int .i64 n77)) ⟨k1, (0 + 5), none⟩ (.bool t78)) ⟨k1, (0 + 5), none⟩) fun t84 =>
    K (.tuple #[(.agg #[(.int .i64 n79), (.bool t80), (.int .i64 n81), (.int .i64 n82), (.int .i64 n83), (.bool t84)]), (.int .i64 5)]) (Mem.put (Mem.put (Mem.put (Mem.put (Mem.put (Mem.put M29 ⟨k1, 0, none⟩ (.int .i64 n73)) ⟨k1, (0 + 1), none⟩ (.bool t74)) ⟨k1, (0 + 2), none⟩ (.int .i64 n75)) ⟨k1, (0 + 3), none⟩ (.int .i64 n76)) ⟨k1, (0 + 4), none⟩ (.int .i64 n77)) ⟨k1, (0 + 5), none⟩ (.bool t78))))) :
  ACalls Try.prog 37 ([.pointer (some ⟨b0, o0, none⟩)] : List Value).toArray M K Kp :=
  acalls_vc (C := Cx) good [(3000010, .cut []), (5, .reg [0, 0, 2, 6, 14, 0, 32, 96, 224, 510, 1023, 2047, 4095] (.step 0 (.step 1 (.step 2 (.step 3 (.step 5 (.step 6 (.step 4 (.step 7 (.step 8 (.step 9 (.step 10 (.step 11 (.step 12 .done))))))))))))))] Try.func37 (by kernel_rfl) (by kernel_rfl) h

theorem vc_chans_Chan_Send (b0 o0 : Nat) (x1 : Int) (M : Mem) (K : Value → Mem → Prop) (Kp : List PanicEntry → Mem → Prop) (h :
∀ k1 : Nat, (M k1 = none) → exB (Mem.ld (Mem.set M k1 (.cells #[(.int .i64 0), (.int .i64 0), (.int .i64 0)] 54 (0, 0))) ⟨b0, (o0 + 4), none⟩) fun t2 =>
bsp t2
 ((Mem.wr (Mem.set M k1 (.cells #[(.int .i64 0), (.int .i64 0), (.int .i64 0)] 54 (0, 0))) ⟨k1, 0, none⟩ = true) ∧
  (Mem.wr (Mem.put (Mem.set M k1 (.cells #[(.int .i64 0), (.int .i64 0), (.int .i64 0)] 54 (0, 0))) ⟨k1, 0, none⟩ (.int .i64 0)) ⟨k1, (0 + 1), none⟩ = true) ∧
  (Mem.wr (Mem.put (Mem.put (Mem.set M k1 (.cells #[(.int .i64 0), (.int .i64 0), (.int .i64 0)] 54 (0, 0))) ⟨k1, 0, none⟩ (.int .i64 0)) ⟨k1, (0 + 1), none⟩ (.int .i64 0)) ⟨k1, (0 + 2), none⟩ = true) ∧
  exI (Mem.ld (Mem.put (Mem.put (Mem.put (Mem.set M k1 (.cells #[(.int .i64 0), (.int .i64 0), (.int .i64 0)] 54 (0, 0))) ⟨k1, 0, none⟩ (.int .i64 0)) ⟨k1, (0 + 1), none⟩ (.int .i64 0)) ⟨k1, (0 + 2), none⟩ (.int .i64 0)) ⟨k1, 0, none⟩) .i64 fun n3 =>
  exI (Mem.ld (Mem.put (Mem.put (Mem.put (Mem.set M k1 (.cells #[(.int .i64 0), (.int .i64 0), (.int .i64 0)] 54 (0, 0))) ⟨k1, 0, none⟩ (.int .i64 0)) ⟨k1, (0 + 1), none⟩ (.int .i64 0)) ⟨k1, (0 + 2), none⟩ (.int .i64 0)) ⟨k1, (0 + 1), none⟩) .i64 fun n4 =>
  exI (Mem.ld (Mem.put (Mem.put (Mem.put (Mem.set M k1 (.cells #[(.int .i64 0), (.int .i64 0), (.int .i64 0)] 54 (0, 0))) ⟨k1, 0, none⟩ (.int .i64 0)) ⟨k1, (0 + 1), none⟩ (.int .i64 0)) ⟨k1, (0 + 2), none⟩ (.int .i64 0)) ⟨k1, (0 + 2), none⟩) .i64 fun n5 =>
  K (.tuple #[(.agg #[(.int .i64 n3), (.int .i64 n4), (.int .i64 n5)]), (.bool false), (.int .i64 10)]) (Mem.put (Mem.put (Mem.put (Mem.set M k1 (.cells #[(.int .i64 0), (.int .i64 0), (.int .i64 0)] 54 (0, 0))) ⟨k1, 0, none⟩ (.int .i64 0)) ⟨k1, (0 + 1), none⟩ (.int .i64 0)) ⟨k1, (0 + 2), none⟩ (.int .i64 0)))
 (exSl (Mem.ld (Mem.set M k1 (.cells #[(.int .i64 0), (.int .i64 0), (.int .i64 0)] 54 (0, 0))) ⟨b0, (o0 + 3), none⟩) fun A6 k7 k8 =>
  bsp (decide ((((k7 : Nat) : Int) : Int) > 0))
   (∀ k9 : Nat, ((Mem.set M k1 (.cells #[(.int .i64 0), (.int .i64 0), (.int .i64 0)] 54 (0, 0))) k9 = none) → exSl (Mem.ld (Mem.set (Mem.set M k1 (.cells #[(.int .i64 0), (.int .i64 0), (.int .i64 0)] 54 (0, 0))) k9 (.cells #[(.int .i64 0), (.int .i64 0), (.int .i64 0)] 54 (0, 0))) ⟨b0, (o0 + 3), none⟩) fun A10 k11 k12 =>
    ACalls Try.prog 80 #[(.slice A10 k11 k12)] (Mem.set (Mem.set M k1 (.cells #[(.int .i64 0), (.int .i64 0), (.int .i64 0)] 54 (0, 0))) k9 (.cells #[(.int .i64 0), (.int .i64 0), (.int .i64 0)] 54 (0, 0))) (fun v13 M14 =>
    ∃ n15 : Int, ∃ n16 : Int, ∃ n17 : Int, ∃ A18 : Option Addr, ∃ k19 : Nat, ∃ k20 : Nat, (v13 = (.tuple #[(.agg #[(.int .i64 n15), (.int .i64 n16), (.int .i64 n17)]), (.slice A18 k19 k20)])) ∧
    (Mem.wr M14 ⟨k9, 0, none⟩ = true) ∧
    (Mem.wr (Mem.put M14 ⟨k9, 0, none⟩ (.int .i64 n15)) ⟨k9, (0 + 1), none⟩ = true) ∧
    (Mem.wr (Mem.put (Mem.put M14 ⟨k9, 0, none⟩ (.int .i64 n15)) ⟨k9, (0 + 1), none⟩ (.int .i64 n16)) ⟨k9, (0 + 2), none⟩ = true) ∧
    (Mem.wr (Mem.put (Mem.put (Mem.put M14 ⟨k9, 0, none⟩ (.int .i64 n15)) ⟨k9, (0 + 1), none⟩ (.int .i64 n16)) ⟨k9, (0 + 2), none⟩ (.int .i64 n17)) ⟨b0, (o0 + 3), none⟩ = true) ∧
    (Mem.wr (Mem.put (Mem.put (Mem.put (Mem.put M14 ⟨k9, 0, none⟩ (.int .i64 n15)) ⟨k9, (0 + 1), none⟩ (.int .i64 n16)) ⟨k9, (0 + 2), none⟩ (.int .i64 n17)) ⟨b0, (o0 + 3), none⟩ (.slice A18 k19 k20)) ⟨k9, (0 + 2), none⟩ = true) ∧
    exI (Mem.ld (Mem.put (Mem.put (Mem.put (Mem.put (Mem.put M14 ⟨k9, 0, none⟩ (.int .i64 n15)) ⟨k9, (0 + 1), none⟩ (.int .i64 n16)) ⟨k9, (0 + 2), none⟩ (.int .i64 n17)) ⟨b0, (o0 + 3), none⟩ (.slice A18 k19 k20)) ⟨k9, (0 + 2), none⟩ (.int .i64 x1)) ⟨k9, 0, none⟩) .i64 fun n21 =>
    exI (Mem.ld (Mem.put (Mem.put (Mem.put (Mem.put (Mem.put M14 ⟨k9, 0, none⟩ (.int .i64 n15)) ⟨k9, (0 + 1), none⟩ (.int .i64 n16)) ⟨k9, (0 + 2), none⟩ (.int .i64 n17)) ⟨b0, (o0 + 3), none⟩ (.slice A18 k19 k20)) ⟨k9, (0 + 2), none⟩ (.int .i64 x1)) ⟨k9, (0 + 1), none⟩) .i64 fun n22 =>
    exI (Mem.ld (Mem.put (Mem.put (Mem.put (Mem.put (Mem.put M14 ⟨k9, 0, none⟩ (.int .i64 n15)) ⟨k9, (0 + 1), none⟩ (.int .i64 n16)) ⟨k9, (0 + 2), none⟩ (.int .i64 n17)) ⟨b0, (o0 + 3), none⟩ (.slice A18 k19 k20)) ⟨k9, (0 + 2), none⟩ (.int .i64 x1)) ⟨k9, (0 + 2), none⟩) .i64 fun n23 =>
    (Mem.wr (Mem.put (Mem.put (Mem.put (Mem.put (Mem.put M14 ⟨k9, 0, none⟩ (.int .i64 n15)) ⟨k9, (0 + 1), none⟩ (.int .i64 n16)) ⟨k9, (0 + 2), none⟩ (.int .i64 n17)) ⟨b0, (o0 + 3), none⟩ (.slice A18 k19 k20)) ⟨k9, (0 + 2), none⟩ (.int .i64 x1)) ⟨k1, 0, none⟩ = true) ∧
    (Mem.wr (Mem.put (Mem.put (Mem.put (Mem.put (Mem.put (Mem.put M14 ⟨k9, 0, none⟩ (.int .i64 n15)) ⟨k9, (0 + 1), none⟩ (.int .i64 n16)) ⟨k9, (0 + 2), none⟩ (.int .i64 n17)) ⟨b0, (o0 + 3), none⟩ (.slice A18 k19 k20)) ⟨k9, (0 + 2), none⟩ (.int .i64 x1)) ⟨k1, 0, none⟩ (.int .i64 n21)) ⟨k1, (0 + 1), none⟩ = true) ∧
    (Mem.wr (Mem.put (Mem.put (Mem.put (Mem.put (Mem.put (Mem.put (Mem.put M14 ⟨k9, 0, none⟩ (.int .i64 n15)) ⟨k9, (0 + 1), none⟩ (.int .i64 n16)) ⟨k9, (0 + 2), none⟩ (.int .i64 n17)) ⟨b0, (o0 + 3), none⟩ (.slice A18 k19 k20)) ⟨k9, (0 + 2), none⟩ (.int .i64 x1)) ⟨k1, 0, none⟩ (.int .i64 n21)) ⟨k1, (0 + 1), none⟩ (.int .i64 n22)) ⟨k1, (0 + 2), none⟩ = true) ∧
    exI (Mem.ld (Mem.put (Mem.put (Mem.put (Mem.put (Mem.put (Mem.put (Mem.put (Mem.put M14 ⟨k9, 0, none⟩ (.int .i64 n15)) ⟨k9, (0 + 1), none⟩ (.int .i64 n16)) ⟨k9, (0 + 2), none⟩ (.int .i64 n17)) ⟨b0, (o0 + 3), none⟩ (.slice A18 k19 k20)) ⟨k9, (0 + 2), none⟩ (.int .i64 x1)) ⟨k1, 0, none⟩ (.int .i64 n21)) ⟨k1, (0 + 1), none⟩ (.int .i64 n22)) ⟨k1, (0 + 2), none⟩ (.int .i64 n23)) ⟨k1, 0, none⟩) .i64 fun n24 =>
    exI (Mem.ld (Mem.put (Mem.put (Mem.put (Mem.put (Mem.put (Mem.put (Mem.put (Mem.put M14 ⟨k9, 0, none⟩ (.int .i64 n15)) ⟨k9, (0 + 1), none⟩ (.int .i64 n16)) ⟨k9, (0 + 2), none⟩ (.int .i64 n17)) ⟨b0, (o0 + 3), none⟩ (.slice A18 k19 k20)) ⟨k9, (0 + 2), none⟩ (.int .i64 x1)) ⟨k1, 0, none⟩ (.int .i64 n21)) ⟨k1, (0 + 1), none⟩ (.int .i64 n22)) ⟨k1, (0 + 2), none⟩ (.int .i64 n23)) ⟨k1, (0 + 1), none⟩) .i64 fun n25 =>
    exI (Mem.ld (Mem.put (Mem.put (Mem.put (Mem.put (Mem.put (Mem.put (Mem.put (Mem.put M14 ⟨k9, 0, none⟩ (.int .i64 n15)) ⟨k9, (0 + 1), none⟩ (.int .i64 n16)) ⟨k9, (0 + 2), none⟩ (.int .i64 n17)) ⟨b0, (o0 + 3), none⟩ (.slice A18 k19 k20)) ⟨k9, (0 + 2), none⟩ (.int .i64 x1)) ⟨k1, 0, none⟩ (.int .i64 n21)) ⟨k1, (0 + 1), none⟩ (.int .i64 n22)) ⟨k1, (0 + 2), none⟩ (.int .i64 n23)) ⟨k1, (0 + 2), none⟩) .i64 fun n26 =>
    K (.tuple #[(.agg #[(.int .i64 n24), (.int .i64 n25), (.int .i64 n26)]), (.bool true), (.int .i64 0)]) (Mem.put (Mem.put (Mem.put (Mem.put (Mem.put (Mem.put (Mem.put (Mem.put M14 ⟨k9, 0, none⟩ (.int .i64 n15)) ⟨k9, (0 + 1), none⟩ (.int .i64 n16)) ⟨k9, (0 + 2), none⟩ (.int .i64 n17)) ⟨b0, (o0 + 3), none⟩ (.slice A18 k19 k20)) ⟨k9, (0 + 2), none⟩ (.int .i64 x1)) ⟨k1, 0, none⟩ (.int .i64 n21)) ⟨k1, (0 + 1), none⟩ (.int .i64 n22)) ⟨k1, (0 + 2), none⟩ (.int .i64 n23))) Kp)
   (exSl (Mem.ld (Mem.set M k1 (.cells #[(.int .i64 0), (.int .i64 0), (.int .i64 0)] 54 (0, 0))) ⟨b0, (o0 + 1), none⟩) fun A27 k28 k29 =>
    exI (Mem.ld (Mem.set M k1 (.cells #[(.int .i64 0), (.int .i64 0), (.int .i64 0)] 54 (0, 0))) ⟨b0, o0, none⟩) .i64 fun n30 =>
    bsp (decide ((((k28 : Nat) : Int) : Int) < n30))
     (exSl (Mem.ld (Mem.set M k1 (.cells #[(.int .i64 0), (.int .i64 0), (.int .i64 0)] 54 (0, 0))) ⟨b0, (o0 + 1), none⟩) fun A31 k32 k33 =>
      ∀ k34 : Nat, ((Mem.set M k1 (.cells #[(.int .i64 0), (.int .i64 0), (.int .i64 0)] 54 (0, 0))) k34 = none) → semK Try.prog (Go.Builtin.append_ #[49, 49] 49 #[(.slice A31 k32 k33), (.slice (some ⟨k34, 0, none⟩) 1 1)]) (Mem.set (Mem.set M k1 (.cells #[(.int .i64 0), (.int .i64 0), (.int .i64 0)] 54 (0, 0))) k34 (.cells #[(.int .i64 x1)] 2 (0, 0))) (fun v35 M36 =>
      exSl (some v35) fun A37 k38 k39 =>
      (Mem.wr M36 ⟨b0, (o0 + 1), none⟩ = true) ∧
      (Mem.wr (Mem.put M36 ⟨b0, (o0 + 1), none⟩ (.slice A37 k38 k39)) ⟨k1, 0, none⟩ = true) ∧
      (Mem.wr (Mem.put (Mem.put M36 ⟨b0, (o0 + 1), none⟩ (.slice A37 k38 k39)) ⟨k1, 0, none⟩ (.int .i64 0)) ⟨k1, (0 + 1), none⟩ = true) ∧
      (Mem.wr (Mem.put (Mem.put (Mem.put M36 ⟨b0, (o0 + 1), none⟩ (.slice A37 k38 k39)) ⟨k1, 0, none⟩ (.int .i64 0)) ⟨k1, (0 + 1), none⟩ (.int .i64 0)) ⟨k1, (0 + 2), none⟩ = true) ∧
      exI (Mem.ld (Mem.put (Mem.put (Mem.put (Mem.put M36 ⟨b0, (o0 + 1), none⟩ (.slice A37 k38 k39)) ⟨k1, 0, none⟩ (.int .i64 0)) ⟨k1, (0 + 1), none⟩ (.int .i64 0)) ⟨k1, (0 + 2), none⟩ (.int .i64 0)) ⟨k1, 0, none⟩) .i64 fun n40 =>
      exI (Mem.ld (Mem.put (Mem.put (Mem.put (Mem.put M36 ⟨b0, (o0 + 1), none⟩ (.slice A37 k38 k39)) ⟨k1, 0, none⟩ (.int .i64 0)) ⟨k1, (0 + 1), none⟩ (.int .i64 0)) ⟨k1, (0 + 2), none⟩ (.int .i64 0)) ⟨k1, (0 + 1), none⟩) .i64 fun n41 =>
      exI (Mem.ld (Mem.put (Mem.put (Mem.put (Mem.put M36 ⟨b0, (o0 + 1), none⟩ (.slice A37 k38 k39)) ⟨k1, 0, none⟩ (.int .i64 0)) ⟨k1, (0 + 1), none⟩ (.int .i64 0)) ⟨k1, (0 + 2), none⟩ (.int .i64 0)) ⟨k1, (0 + 2), none⟩) .i64 fun n42 =>
      K (.tuple #[(.agg #[(.int .i64 n40), (.int .i64 n41), (.int .i64 n42)]), (.bool false), (.int .i64 0)]) (Mem.put (Mem.put (Mem.put (Mem.put M36 ⟨b0, (o0 + 1), none⟩ (.slice A37 k38 k39)) ⟨k1, 0, none⟩ (.int .i64 0)) ⟨k1, (0 + 1), none⟩ (.int .i64 0)) ⟨k1, (0 + 2), none⟩ (.int .i64 0))) Kp)
     ((Mem.wr (Mem.set M k1 (.cells #[(.int .i64 0), (.int .i64 0), (.int .i64 0)] 54 (0, 0))) ⟨k1, 0, none⟩ = true) ∧
      (Mem.wr (Mem.put (Mem.set M k1 (.cells #[(.int .i64 0), (.int .i64 0), (.int .i64 0)] 54 (0, 0))) ⟨k1, 0, none⟩ (.int .i64 0)) ⟨k1, (0 + 1), none⟩ = true) ∧
      (Mem.wr (Mem.put (Mem.put (Mem.set M k1 (.cells #[(.int .i64 0), (.int .i64 0), (.int .i64 0)] 54 (0, 0))) ⟨k1, 0, none⟩ (.int .i64 0)) ⟨k1, (0 + 1), none⟩ (.int .i64 0)) ⟨k1, (0 + 2), none⟩ = true) ∧
      exI (Mem.ld (Mem.put (Mem.put (Mem.put (Mem.set M k1 (.cells #[(.int .i64 0), (.int .i64 0), (.int .i64 0)] 54 (0, 0))) ⟨k1, 0, none⟩ (.int .i64 0)) ⟨k1, (0 + 1), none⟩ (.int .i64 0)) ⟨k1, (0 + 2), none⟩ (.int .i64 0)) ⟨k1, 0, none⟩) .i64 fun n43 =>
      exI (Mem.ld (Mem.put (Mem.put (Mem.put (Mem.set M k1 (.cells #[(.int .i64 0), (.int .i64 0), (.int .i64 0)] 54 (0, 0))) ⟨k1, 0, none⟩ (.int .i64 0)) ⟨k1, (0 + 1), none⟩ (.int .i64 0)) ⟨k1, (0 + 2), none⟩ (.int .i64 0)) ⟨k1, (0 + 1), none⟩) .i64 fun n44 =>
      exI (Mem.ld (Mem.put (Mem.put (Mem.put (Mem.set M k1 (.cells #[(.int .i64 0), (.int .i64 0), (.int .i64 0)] 54 (0, 0))) ⟨k1, 0, none⟩ (.int .i64 0)) ⟨k1, (0 + 1), none⟩ (.int .i64 0)) ⟨k1, (0 + 2), none⟩ (.int .i64 0)) ⟨k1, (0 + 2), none⟩) .i64 fun n45 =>
      K (.tuple #[(.agg #[(.int .i64 n43), (.int .i64 n44), (.int .i64 n45)]), (.bool false), (.int .i64 6)]) (Mem.put (Mem.put (Mem.put (Mem.set M k1 (.cells #[(.int .i64 0), (.int .i64 0), (.int .i64 0)] 54 (0, 0))) ⟨k1, 0, none⟩ (.int .i64 0)) ⟨k1, (0 + 1), none⟩ (.int .i64 0)) ⟨k1, (0 + 2), none⟩ (.int .i64 0)))))) :
  ACalls Try.prog 38 ([.pointer (some ⟨b0, o0, none⟩), .int .i64 x1] : List Value).toArray M K Kp :=
  acalls_vc (C := Cx) good [(8, .reg [0, 1, 3, 7, 15, 0, 32, 96, 224, 511, 1023] (.step 0 (.step 1 (.step 2 (.step 5 (.step 6 (.step 7 (.step 3 (.step 4 (.step 8 (.step 9 (.step 10 .done))))))))))))] Try.func38 (by kernel_rfl) (by kernel_rfl) h

theorem vc_chans_Chan_State (b0 o0 : Nat) (M : Mem) (K : Value → Mem → Prop) (Kp : List PanicEntry → Mem → Prop) (h :
∀ k1 : Nat, (M k1 = none) → exSl (Mem.ld (Mem.set M k1 (.cells #[(.slice none 0 0), (.slice none 0 0), (.slice none 0 0), (.bool false)] 79 (0, 0))) ⟨b0, (o0 + 1), none⟩) fun A2 k3 k4 =>
exSl (Mem.ld (Mem.set M k1 (.cells #[(.slice none 0 0), (.slice none 0 0), (.slice none 0 0), (.bool false)] 79 (0, 0))) ⟨b0, (o0 + 2), none⟩) fun A5 k6 k7 =>
exSl (Mem.ld (Mem.set M k1 (.cells #[(.slice none 0 0), (.slice none 0 0), (.slice none 0 0), (.bool false)] 79 (0, 0))) ⟨b0, (o0 + 3), none⟩) fun A8 k9 k10 =>
exB (Mem.ld (Mem.set M k1 (.cells #[(.slice none 0 0), (.slice none 0 0), (.slice none 0 0), (.bool false)] 79 (0, 0))) ⟨b0, (o0 + 4), none⟩) fun t11 =>
∀ k12 : Nat, ((Mem.set M k1 (.cells #[(.slice none 0 0), (.slice none 0 0), (.slice none 0 0), (.bool false)] 79 (0, 0))) k12 = none) → (True) ∧
(True) ∧
semK Try.prog (Go.Builtin.append_ #[49, 49] 49 #[(.slice (some ⟨k12, 0, none⟩) 0 0), (.slice A2 k3 k4)]) (Mem.set (Mem.set M k1 (.cells #[(.slice none 0 0), (.slice none 0 0), (.slice none 0 0), (.bool false)] 79 (0, 0))) k12 (.cells #[] 2 (0, 0))) (fun v13 M14 =>
exSl (some v13) fun A15 k16 k17 =>
((Mem.ld M14 ⟨b0, (o0 + 4), none⟩) = (some (.bool t11))) ∧
((Mem.ld M14 ⟨b0, (o0 + 3), none⟩) = (some (.slice A8 k9 k10))) ∧
((Mem.ld M14 ⟨b0, (o0 + 2), none⟩) = (some (.slice A5 k6 k7))) ∧
∀ k18 : Nat, (M14 k18 = none) → (True) ∧
semK Try.prog (Go.Builtin.append_ #[77, 77] 77 #[(.slice (some ⟨k18, 0, none⟩) 0 0), (.slice A5 k6 k7)]) (Mem.set M14 k18 (.cells #[] 54 (0, 0))) (fun v19 M20 =>
exSl (some v19) fun A21 k22 k23 =>
((Mem.ld M20 ⟨b0, (o0 + 4), none⟩) = (some (.bool t11))) ∧
((Mem.ld M20 ⟨b0, (o0 + 3), none⟩) = (some (.slice A8 k9 k10))) ∧
((Mem.ld M20 ⟨b0, (o0 + 2), none⟩) = (some (.slice A5 k6 k7))) ∧
∀ k24 : Nat, (M20 k24 = none) → semK Try.prog (Go.Builtin.append_ #[77, 77] 77 #[(.slice (some ⟨k24, 0, none⟩) 0 0), (.slice A8 k9 k10)]) (Mem.set M20 k24 (.cells #[] 54 (0, 0))) (fun v25 M26 =>
exSl (some v25) fun A27 k28 k29 =>
((Mem.ld M26 ⟨b0, (o0 + 4), none⟩) = (some (.bool t11))) ∧
((Mem.ld M26 ⟨b0, (o0 + 3), none⟩) = (some (.slice A8 k9 k10))) ∧
((Mem.ld M26 ⟨b0, (o0 + 2), none⟩) = (some (.slice A5 k6 k7))) ∧
(Mem.wr M26 ⟨k1, 0, none⟩ = true) ∧
(Mem.wr (Mem.put M26 ⟨k1, 0, none⟩ (.slice A15 k16 k17)) ⟨k1, (0 + 1), none⟩ = true) ∧
(Mem.wr (Mem.put (Mem.put M26 ⟨k1, 0, none⟩ (.slice A15 k16 k17)) ⟨k1, (0 + 1), none⟩ (.slice A21 k22 k23)) ⟨k1, (0 + 2), none⟩ = true) ∧
(Mem.wr (Mem.put (Mem.put (Mem.put M26 ⟨k1, 0, none⟩ (.slice A15 k16 k17)) ⟨k1, (0 + 1), none⟩ (.slice A21 k22 k23)) ⟨k1, (0 + 2), none⟩ (.slice A27 k28 k29)) ⟨k1, (0 + 3), none⟩ = true) ∧
((Mem.ld (Mem.put (Mem.put (Mem.put (Mem.put M26 ⟨k1, 0, none⟩ (.slice A15 k16 k17)) ⟨k1, (0 + 1), none⟩ (.slice A21 k22 k23)) ⟨k1, (0 + 2), none⟩ (.slice A27 k28 k29)) ⟨k1, (0 + 3), none⟩ (.bool t11)) ⟨b0, (o0 + 4), none⟩) = (some (.bool t11))) ∧
((Mem.ld (Mem.put (Mem.put (Mem.put (Mem.put M26 ⟨k1, 0, none⟩ (.slice A15 k16 k17)) ⟨k1, (0 + 1), none⟩ (.slice A21 k22 k23)) ⟨k1, (0 + 2), none⟩ (.slice A27 k28 k29)) ⟨k1, (0 + 3), none⟩ (.bool t11)) ⟨b0, (o0 + 3), none⟩) = (some (.slice A8 k9 k10))) ∧
((Mem.ld (Mem.put (Mem.put (Mem.put (Mem.put M26 ⟨k1, 0, none⟩ (.slice A15 k16 k17)) ⟨k1, (0 + 1), none⟩ (.slice A21 k22 k23)) ⟨k1, (0 + 2), none⟩ (.slice A27 k28 k29)) ⟨k1, (0 + 3), none⟩ (.bool t11)) ⟨b0, (o0 + 2), none⟩) = (some (.slice A5 k6 k7))) ∧
exSl (Mem.ld (Mem.put (Mem.put (Mem.put (Mem.put M26 ⟨k1, 0, none⟩ (.slice A15 k16 k17)) ⟨k1, (0 + 1), none⟩ (.slice A21 k22 k23)) ⟨k1, (0 + 2), none⟩ (.slice A27 k28 k29)) ⟨k1, (0 + 3), none⟩ (.bool t11)) ⟨k1, 0, none⟩) fun A30 k31 k32 =>
exSl (Mem.ld (Mem.put (Mem.put (Mem.put (Mem.put M26 ⟨k1, 0, none⟩ (.slice A15 k16 k17)) ⟨k1, (0 + 1), none⟩ (.slice A21 k22 k23)) ⟨k1, (0 + 2), none⟩ (.slice A27 k28 k29)) ⟨k1, (0 + 3), none⟩ (.bool t11)) ⟨k1, (0 + 1), none⟩) fun A33 k34 k35 =>
exSl (Mem.ld (Mem.put (Mem.put (Mem.put (Mem.put M26 ⟨k1, 0, none⟩ (.slice A15 k16 k17)) ⟨k1, (0 + 1), none⟩ (.slice A21 k22 k23)) ⟨k1, (0 + 2), none⟩ (.slice A27 k28 k29)) ⟨k1, (0 + 3), none⟩ (.bool t11)) ⟨k1, (0 + 2), none⟩) fun A36 k37 k38 =>
exB (Mem.ld (Mem.put (Mem.put (Mem.put (Mem.put M26 ⟨k1, 0, none⟩ (.slice A15 k16 k17)) ⟨k1, (0 + 1), none⟩ (.slice A21 k22 k23)) ⟨k1, (0 + 2), none⟩ (.slice A27 k28 k29)) ⟨k1, (0 + 3), none⟩ (.bool t11)) ⟨k1, (0 + 3), none⟩) fun t39 =>
K (.agg #[(.slice A30 k31 k32), (.slice A33 k34 k35), (.slice A36 k37 k38), (.bool t39)]) (Mem.put (Mem.put (Mem.put (Mem.put M26 ⟨k1, 0, none⟩ (.slice A15 k16 k17)) ⟨k1, (0 + 1), none⟩ (.slice A21 k22 k23)) ⟨k1, (0 + 2), none⟩ (.slice A27 k28 k29)) ⟨k1, (0 + 3), none⟩ (.bool t11))) Kp) Kp) Kp) :
  ACalls Try.prog 44 ([.pointer (some ⟨b0, o0, none⟩)] : List Value).toArray M K Kp :=
  acalls_vc (C := Cx) good [(1, .reg [0, 0, 2, 6, 14, 31, 0, 0, 128, 384, 896, 2047, 0, 0, 8192, 24576, 57344, 131071, 0, 262144, 786432, 1835008, 4194303, 8388607] (.step 1 (.step 2 (.step 3 (.step 7 (.step 8 (.step 9 (.step 13 (.step 14 (.step 15 (.step 18 (.step 19 (.step 20 (.step 4 (.prom 10 (.prom 16 (.prom 21 (.step 0 (.late 5 (.step 6 (.late 11 (.step 12 (.step 17 (.step 22 (.step 23 .done)))))))))))))))))))))))))] Try.func44 (by kernel_rfl) (by kernel_rfl) h

theorem vc_chans_Chan_Close (b0 o0 : Nat) (M : Mem) (K : Value → Mem → Prop) (Kp : List PanicEntry → Mem → Prop) (h :
exB (Mem.ld M ⟨b0, (o0 + 4), none⟩) fun t1 =>
bsp t1
 (K (.tuple #[(.slice none 0 0), (.slice none 0 0), (.int .i64 10)]) M)
 (exSl (Mem.ld M ⟨b0, (o0 + 3), none⟩) fun A2 k3 k4 =>
  exSl (Mem.ld M ⟨b0, (o0 + 2), none⟩) fun A5 k6 k7 =>
  (Mem.wr M ⟨b0, (o0 + 4), none⟩ = true) ∧
  (Mem.wr (Mem.put M ⟨b0, (o0 + 4), none⟩ (.bool true)) ⟨b0, (o0 + 3), none⟩ = true) ∧
  (Mem.wr (Mem.put (Mem.put M ⟨b0, (o0 + 4), none⟩ (.bool true)) ⟨b0, (o0 + 3), none⟩ (.slice none 0 0)) ⟨b0, (o0 + 2), none⟩ = true) ∧
  K (.tuple #[(.slice A2 k3 k4), (.slice A5 k6 k7), (.int .i64 0)]) (Mem.put (Mem.put (Mem.put M ⟨b0, (o0 + 4), none⟩ (.bool true)) ⟨b0, (o0 + 3), none⟩ (.slice none 0 0)) ⟨b0, (o0 + 2), none⟩ (.slice none 0 0)))) :
  ACalls Try.prog 45 ([.pointer (some ⟨b0, o0, none⟩)] : List Value).toArray M K Kp :=
  acalls_vc (C := Cx) good [(3, .reg [0, 1, 3, 7, 0, 16, 48, 112, 15, 511] (.step 0 (.step 1 (.step 2 (.step 4 (.step 5 (.step 6 (.step 3 (.step 8 (.step 7 (.step 9 .done)))))))))))] Try.func45 (by kernel_rfl) (by kernel_rfl) h

theorem vc_chans_Chan_CanRecv (b0 o0 : Nat) (M : Mem) (K : Value → Mem → Prop) (Kp : List PanicEntry → Mem → Prop) (h :
exB (Mem.ld M ⟨b0, (o0 + 4), none⟩) fun t1 =>
bsp t1
 (K (.bool true) M)
 (exSl (Mem.ld M ⟨b0, (o0 + 2), none⟩) fun A2 k3 k4 =>
  bsp (decide ((((k3 : Nat) : Int) : Int) > 0))
   (K (.bool true) M)
   (exSl (Mem.ld M ⟨b0, (o0 + 1), none⟩) fun A5 k6 k7 =>
    K (.bool (decide ((((k6 : Nat) : Int) : Int) > 0))) M))) :
  ACalls Try.prog 46 ([.pointer (some ⟨b0, o0, none⟩)] : List Value).toArray M K Kp :=
  acalls_vc (C := Cx) good [] Try.func46 (by kernel_rfl) (by kernel_rfl) h

theorem vc_chans_Chan_CanSend (b0 o0 : Nat) (M : Mem) (K : Value → Mem → Prop) (Kp : List PanicEntry → Mem → Prop) (h :
exB (Mem.ld M ⟨b0, (o0 + 4), none⟩) fun t1 =>
bsp t1
 (K (.bool true) M)
 (exSl (Mem.ld M ⟨b0, (o0 + 3), none⟩) fun A2 k3 k4 =>
  bsp (decide ((((k3 : Nat) : Int) : Int) > 0))
   (K (.bool true) M)
   (exSl (Mem.ld M ⟨b0, (o0 + 1), none⟩) fun A5 k6 k7 =>
    exI (Mem.ld M ⟨b0, o0, none⟩) .i64 fun n8 =>
    K (.bool (decide ((((k6 : Nat) : Int) : Int) < n8))) M))) :
  ACalls Try.prog 47 ([.pointer (some ⟨b0, o0, none⟩)] : List Value).toArray M K Kp :=
  acalls_vc (C := Cx) good [(1, .reg [0, 1, 3, 7, 15, 31, 63, 127, 255, 511, 1023, 2047, 4095, 8191, 16383, 32767, 65535, 131071, 8191, 270335, 794623, 1843199, 4194303, 8388607, 16777215] (.step 0 (.step 1 (.step 2 (.step 3 (.step 4 (.step 5 (.step 6 (.step 7 (.step 8 (.step 9 (.step 10 (.step 11 (.step 12 (.step 13 (.step 14 (.step 15 (.step 18 (.step 19 (.step 20 (.step 16 (.step 17 (.step 21 (.step 22 (.step 23 (.step 24 .done))))))))))))))))))))))))))] Try.func47 (by kernel_rfl) (by kernel_rfl) h

theorem vc_chans_first (B0 : Option Addr) (m0 c0 : Nat) (M : Mem) (K : Value → Mem → Prop) (Kp : List PanicEntry → Mem → Prop) (h :
∀ k1 : Nat, (M k1 = none) → ((0 : Int) ≤ 0) ∧
((0 : Int) < ((m0 : Nat) : Int)) ∧
nilc B0 fun k2 k3 =>
((0 : Int) ≤ ((c0 : Nat) : Int)) ∧
((((c0 : Nat) : Int) : Int) ≤ ((c0 : Nat) : Int)) ∧
((0 : Int) ≤ ((m0 : Nat) : Int)) ∧
((((m0 : Nat) : Int) : Int) ≤ ((c0 : Nat) : Int)) ∧
((0 : Int) ≤ 1) ∧
((1 : Int) ≤ ((m0 : Nat) : Int)) ∧
exI (Mem.ld (Mem.set M k1 (.cells #[(.int .i64 0), (.int .i64 0), (.int .i64 0)] 54 (0, 0))) ⟨k2, (k3 + 0), none⟩) .i64 fun n4 =>
exI (Mem.ld (Mem.set M k1 (.cells #[(.int .i64 0), (.int .i64 0), (.int .i64 0)] 54 (0, 0))) ⟨k2, ((k3 + 0) + 1), none⟩) .i64 fun n5 =>
exI (Mem.ld (Mem.set M k1 (.cells #[(.int .i64 0), (.int .i64 0), (.int .i64 0)] 54 (0, 0))) ⟨k2, ((k3 + 0) + 2), none⟩) .i64 fun n6 =>
∀ k7 : Nat, ((Mem.set M k1 (.cells #[(.int .i64 0), (.int .i64 0), (.int .i64 0)] 54 (0, 0))) k7 = none) → semK Try.prog (Go.Builtin.append_ #[77, 77] 77 #[(.slice (some ⟨k7, 0, none⟩) 0 0), (.slice (slA B0 1 (Int.toNat ((c0 : Nat) : Int)) 3) ((Int.toNat ((m0 : Nat) : Int)) - 1) ((Int.toNat ((c0 : Nat) : Int)) - 1))]) (Mem.set (Mem.set M k1 (.cells #[(.int .i64 0), (.int .i64 0), (.int .i64 0)] 54 (0, 0))) k7 (.cells #[] 54 (0, 0))) (fun v8 M9 =>
exSl (some v8) fun A10 k11 k12 =>
((Mem.lds M9 ⟨k2, (k3 + 0), none⟩ 0 3) = some [(.int .i64 n4), (.int .i64 n5), (.int .i64 n6)]) ∧
(Mem.wr M9 ⟨k1, 0, none⟩ = true) ∧
(Mem.wr (Mem.put M9 ⟨k1, 0, none⟩ (.int .i64 n4)) ⟨k1, (0 + 1), none⟩ = true) ∧
(Mem.wr (Mem.put (Mem.put M9 ⟨k1, 0, none⟩ (.int .i64 n4)) ⟨k1, (0 + 1), none⟩ (.int .i64 n5)) ⟨k1, (0 + 2), none⟩ = true) ∧
((Mem.lds (Mem.put (Mem.put (Mem.put M9 ⟨k1, 0, none⟩ (.int .i64 n4)) ⟨k1, (0 + 1), none⟩ (.int .i64 n5)) ⟨k1, (0 + 2), none⟩ (.int .i64 n6)) ⟨k2, (k3 + 0), none⟩ 0 3) = some [(.int .i64 n4), (.int .i64 n5), (.int .i64 n6)]) ∧
exI (Mem.ld (Mem.put (Mem.put (Mem.put M9 ⟨k1, 0, none⟩ (.int .i64 n4)) ⟨k1, (0 + 1), none⟩ (.int .i64 n5)) ⟨k1, (0 + 2), none⟩ (.int .i64 n6)) ⟨k1, 0, none⟩) .i64 fun n13 =>
exI (Mem.ld (Mem.put (Mem.put (Mem.put M9 ⟨k1, 0, none⟩ (.int .i64 n4)) ⟨k1, (0 + 1), none⟩ (.int .i64 n5)) ⟨k1, (0 + 2), none⟩ (.int .i64 n6)) ⟨k1, (0 + 1), none⟩) .i64 fun n14 =>
exI (Mem.ld (Mem.put (Mem.put (Mem.put M9 ⟨k1, 0, none⟩ (.int .i64 n4)) ⟨k1, (0 + 1), none⟩ (.int .i64 n5)) ⟨k1, (0 + 2), none⟩ (.int .i64 n6)) ⟨k1, (0 + 2), none⟩) .i64 fun n15 =>
K (.tuple #[(.agg #[(.int .i64 n13), (.int .i64 n14), (.int .i64 n15)]), (.slice A10 k11 k12)]) (Mem.put (Mem.put (Mem.put M9 ⟨k1, 0, none⟩ (.int .i64 n4)) ⟨k1, (0 + 1), none⟩ (.int .i64 n5)) ⟨k1, (0 + 2), none⟩ (.int .i64 n6))) Kp) :
  ACalls Try.prog 80 ([.slice B0 m0 c0] : List Value).toArray M K Kp :=
  acalls_vc (C := Cx) good [(1, .reg [0, 1, 3, 0, 0, 16, 56, 127, 255] (.step 0 (.step 1 (.step 4 (.step 5 (.prom 2 (.step 3 (.step 6 (.step 7 (.step 8 .done))))))))))] Try.func80 (by kernel_rfl) (by kernel_rfl) h

theorem vc_shunterlaw13_ChansOrder (x0 : Int) (B1 : Option Addr) (m1 c1 : Nat) (M : Mem) (K : Value → Mem → Prop) (Kp : List PanicEntry → Mem → Prop) (h :
ACalls Try.prog 33 #[] M (fun v1 M2 =>
exB (some v1) fun t3 =>
bsp (!t3)
 (K (.bool false) M2)
 (ACalls Try.prog 34 #[(.int .i64 x0)] M2 (fun v4 M5 =>
  exP (some v4) fun A6 =>
  ∃ I7 : Nat → List Value → Mem → Prop, (∃ k8 : Nat, I7 k8 [(.int .i64 0), (.int .i64 0), (.int .i64 0)] M5) ∧
  ∀ k9 : Nat, ∀ junk10 : Nat → Value, ∀ n11 : Int, ∀ n12 : Int, ∀ n13 : Int, ∀ M14 : Mem, (I7 k9 [(.int .i64 n11), (.int .i64 n12), (.int .i64 n13)] M14) → bsp (decide ((n13 : Int) < ((m1 : Nat) : Int)))
   (bsp (decide ((n13 : Int) < 40))
     (((0 : Int) ≤ n13) ∧
      ((n13 : Int) < ((m1 : Nat) : Int)) ∧
      nilc B1 fun k15 k16 =>
      exB (Mem.ld M14 ⟨k15, (k16 + (Int.toNat n13)), none⟩) fun t17 =>
      bsp t17
       (ACalls Try.prog 38 #[(.pointer A6), (.int .i64 n11)] M14 (fun v18 M19 =>
        ∃ n20 : Int, ∃ n21 : Int, ∃ n22 : Int, ∃ t23 : Bool, ∃ n24 : Int, (v18 = (.tuple #[(.agg #[(.int .i64 n20), (.int .i64 n21), (.int .i64 n22)]), (.bool t23), (.int .i64 n24)])) ∧
        ∀ k25 : Nat, (M19 k25 = none) → (Mem.wr (Mem.set M19 k25 (.cells #[(.int .i64 0), (.int .i64 0), (.int .i64 0)] 54 (0, 0))) ⟨k25, 0, none⟩ = true) ∧
        (Mem.wr (Mem.put (Mem.set M19 k25 (.cells #[(.int .i64 0), (.int .i64 0), (.int .i64 0)] 54 (0, 0))) ⟨k25, 0, none⟩ (.int .i64 n20)) ⟨k25, (0 + 1), none⟩ = true) ∧
        (Mem.wr (Mem.put (Mem.put (Mem.set M19 k25 (.cells #[(.int .i64 0), (.int .i64 0), (.int .i64 0)] 54 (0, 0))) ⟨k25, 0, none⟩ (.int .i64 n20)) ⟨k25, (0 + 1), none⟩ (.int .i64 n21)) ⟨k25, (0 + 2), none⟩ = true) ∧
        bsp (n24 == 6)
         (ACalls Try.prog 35 #[(.pointer A6), (.agg #[(.int .i64 n13), (.int .i64 0), (.int .i64 n11)])] (Mem.put (Mem.put (Mem.put (Mem.set M19 k25 (.cells #[(.int .i64 0), (.int .i64 0), (.int .i64 0)] 54 (0, 0))) ⟨k25, 0, none⟩ (.int .i64 n20)) ⟨k25, (0 + 1), none⟩ (.int .i64 n21)) ⟨k25, (0 + 2), none⟩ (.int .i64 n22)) (fun v26 M27 =>
          (v26 = (.tuple #[])) ∧
          ∃ k28 : Nat, (k28 < k9) ∧
          I7 k28 [(.int .i64 (IntKind.wrap .i64 (n11 + 1))), (.int .i64 n12), (.int .i64 (IntKind.wrap .i64 (n13 + 1)))] M27) Kp)
         (bsp (n24 != 0)
           (K (.bool false) (Mem.put (Mem.put (Mem.put (Mem.set M19 k25 (.cells #[(.int .i64 0), (.int .i64 0), (.int .i64 0)] 54 (0, 0))) ⟨k25, 0, none⟩ (.int .i64 n20)) ⟨k25, (0 + 1), none⟩ (.int .i64 n21)) ⟨k25, (0 + 2), none⟩ (.int .i64 n22)))
           (∃ k29 : Nat, (k29 < k9) ∧
            I7 k29 [(.int .i64 (IntKind.wrap .i64 (n11 + 1))), (.int .i64 n12), (.int .i64 (IntKind.wrap .i64 (n13 + 1)))] (Mem.put (Mem.put (Mem.put (Mem.set M19 k25 (.cells #[(.int .i64 0), (.int .i64 0), (.int .i64 0)] 54 (0, 0))) ⟨k25, 0, none⟩ (.int .i64 n20)) ⟨k25, (0 + 1), none⟩ (.int .i64 n21)) ⟨k25, (0 + 2), none⟩ (.int .i64 n22))))) Kp)
       (ACalls Try.prog 37 #[(.pointer A6)] M14 (fun v30 M31 =>
        ∃ n32 : Int, ∃ t33 : Bool, ∃ n34 : Int, ∃ n35 : Int, ∃ n36 : Int, ∃ t37 : Bool, ∃ n38 : Int, (v30 = (.tuple #[(.agg #[(.int .i64 n32), (.bool t33), (.int .i64 n34), (.int .i64 n35), (.int .i64 n36), (.bool t37)]), (.int .i64 n38)])) ∧
        ∀ k39 : Nat, (M31 k39 = none) → (Mem.wr (Mem.set M31 k39 (.cells #[(.int .i64 0), (.bool false), (.int .i64 0), (.int .i64 0), (.int .i64 0), (.bool false)] 56 (0, 0))) ⟨k39, 0, none⟩ = true) ∧
        (Mem.wr (Mem.put (Mem.set M31 k39 (.cells #[(.int .i64 0), (.bool false), (.int .i64 0), (.int .i64 0), (.int .i64 0), (.bool false)] 56 (0, 0))) ⟨k39, 0, none⟩ (.int .i64 n32)) ⟨k39, (0 + 1), none⟩ = true) ∧
        (Mem.wr (Mem.put (Mem.put (Mem.set M31 k39 (.cells #[(.int .i64 0), (.bool false), (.int .i64 0), (.int .i64 0), (.int .i64 0), (.bool false)] 56 (0, 0))) ⟨k39, 0, none⟩ (.int .i64 n32)) ⟨k39, (0 + 1), none⟩ (.bool t33)) ⟨k39, (0 + 2), none⟩ = true) ∧
        (Mem.wr (Mem.put (Mem.put (Mem.put (Mem.set M31 k39 (.cells #[(.int .i64 0), (.bool false), (.int .i64 0), (.int .i64 0), (.int .i64 0), (.bool false)] 56 (0, 0))) ⟨k39, 0, none⟩ (.int .i64 n32)) ⟨k39, (0 + 1), none⟩ (.bool t33)) ⟨k39, (0 + 2), none⟩ (.int .i64 n34)) ⟨k39, (0 + 3), none⟩ = true) ∧
        (Mem.wr (Mem.put (Mem.put (Mem.put (Mem.put (Mem.set M31 k39 (.cells #[(.int .i64 0), (.bool false), (.int .i64 0), (.int .i64 0), (.int .i64 0), (.bool false)] 56 (0, 0))) ⟨k39, 0, none⟩ (.int .i64 n32)) ⟨k39, (0 + 1), none⟩ (.bool t33)) ⟨k39, (0 + 2), none⟩ (.int .i64 n34)) ⟨k39, (0 + 3), none⟩ (.int .i64 n35)) ⟨k39, (0 + 4), none⟩ = true) ∧
        (Mem.wr (Mem.put (Mem.put (Mem.put (Mem.put (Mem.put (Mem.set M31 k39 (.cells #[(.int .i64 0), (.bool false), (.int .i64 0), (.int .i64 0), (.int .i64 0), (.bool false)] 56 (0, 0))) ⟨k39, 0, none⟩ (.int .i64 n32)) ⟨k39, (0 + 1), none⟩ (.bool t33)) ⟨k39, (0 + 2), none⟩ (.int .i64 n34)) ⟨k39, (0 + 3), none⟩ (.int .i64 n35)) ⟨k39, (0 + 4), none⟩ (.int .i64 n36)) ⟨k39, (0 + 5), none⟩ = true) ∧
        bsp (!((n38 == 0) == (decide ((n12 : Int) < n11))))
         (K (.bool false) (Mem.put (Mem.put (Mem.put (Mem.put (Mem.put (Mem.put (Mem.set M31 k39 (.cells #[(.int .i64 0), (.bool false), (.int .i64 0), (.int .i64 0), (.int .i64 0), (.bool false)] 56 (0, 0))) ⟨k39, 0, none⟩ (.int .i64 n32)) ⟨k39, (0 + 1), none⟩ (.bool t33)) ⟨k39, (0 + 2), none⟩ (.int .i64 n34)) ⟨k39, (0 + 3), none⟩ (.int .i64 n35)) ⟨k39, (0 + 4), none⟩ (.int .i64 n36)) ⟨k39, (0 + 5), none⟩ (.bool t37)))
         (bsp (n38 == 0)
           (exB (Mem.ld (Mem.put (Mem.put (Mem.put (Mem.put (Mem.put (Mem.put (Mem.set M31 k39 (.cells #[(.int .i64 0), (.bool false), (.int .i64 0), (.int .i64 0), (.int .i64 0), (.bool false)] 56 (0, 0))) ⟨k39, 0, none⟩ (.int .i64 n32)) ⟨k39, (0 + 1), none⟩ (.bool t33)) ⟨k39, (0 + 2), none⟩ (.int .i64 n34)) ⟨k39, (0 + 3), none⟩ (.int .i64 n35)) ⟨k39, (0 + 4), none⟩ (.int .i64 n36)) ⟨k39, (0 + 5), none⟩ (.bool t37)) ⟨k39, (0 + 1), none⟩) fun t40 =>
            bsp (!t40)
             (K (.bool false) (Mem.put (Mem.put (Mem.put (Mem.put (Mem.put (Mem.put (Mem.set M31 k39 (.cells #[(.int .i64 0), (.bool false), (.int .i64 0), (.int .i64 0), (.int .i64 0), (.bool false)] 56 (0, 0))) ⟨k39, 0, none⟩ (.int .i64 n32)) ⟨k39, (0 + 1), none⟩ (.bool t33)) ⟨k39, (0 + 2), none⟩ (.int .i64 n34)) ⟨k39, (0 + 3), none⟩ (.int .i64 n35)) ⟨k39, (0 + 4), none⟩ (.int .i64 n36)) ⟨k39, (0 + 5), none⟩ (.bool t37)))
             (exI (Mem.ld (Mem.put (Mem.put (Mem.put (Mem.put (Mem.put (Mem.put (Mem.set M31 k39 (.cells #[(.int .i64 0), (.bool false), (.int .i64 0), (.int .i64 0), (.int .i64 0), (.bool false)] 56 (0, 0))) ⟨k39, 0, none⟩ (.int .i64 n32)) ⟨k39, (0 + 1), none⟩ (.bool t33)) ⟨k39, (0 + 2), none⟩ (.int .i64 n34)) ⟨k39, (0 + 3), none⟩ (.int .i64 n35)) ⟨k39, (0 + 4), none⟩ (.int .i64 n36)) ⟨k39, (0 + 5), none⟩ (.bool t37)) ⟨k39, 0, none⟩) .i64 fun n41 =>
              bsp (n41 != n12)
               (K (.bool false) (Mem.put (Mem.put (Mem.put (Mem.put (Mem.put (Mem.put (Mem.set M31 k39 (.cells #[(.int .i64 0), (.bool false), (.int .i64 0), (.int .i64 0), (.int .i64 0), (.bool false)] 56 (0, 0))) ⟨k39, 0, none⟩ (.int .i64 n32)) ⟨k39, (0 + 1), none⟩ (.bool t33)) ⟨k39, (0 + 2), none⟩ (.int .i64 n34)) ⟨k39, (0 + 3), none⟩ (.int .i64 n35)) ⟨k39, (0 + 4), none⟩ (.int .i64 n36)) ⟨k39, (0 + 5), none⟩ (.bool t37)))
               (bsp (n38 == 0)
                 (∃ k42 : Nat, (k42 < k9) ∧
                  I7 k42 [(.int .i64 n11), (.int .i64 (IntKind.wrap .i64 (n12 + 1))), (.int .i64 (IntKind.wrap .i64 (n13 + 1)))] (Mem.put (Mem.put (Mem.put (Mem.put (Mem.put (Mem.put (Mem.set M31 k39 (.cells #[(.int .i64 0), (.bool false), (.int .i64 0), (.int .i64 0), (.int .i64 0), (.bool false)] 56 (0, 0))) ⟨k39, 0, none⟩ (.int .i64 n32)) ⟨k39, (0 + 1), none⟩ (.bool t33)) ⟨k39, (0 + 2), none⟩ (.int .i64 n34)) ⟨k39, (0 + 3), none⟩ (.int .i64 n35)) ⟨k39, (0 + 4), none⟩ (.int .i64 n36)) ⟨k39, (0 + 5), none⟩ (.bool t37)))
                 (∃ k43 : Nat, (k43 < k9) ∧
                  I7 k43 [(.int .i64 n11), (.int .i64 n12), (.int .i64 (IntKind.wrap .i64 (n13 + 1)))] (Mem.put (Mem.put (Mem.put (Mem.put (Mem.put (Mem.put (Mem.set M31 k39 (.cells #[(.int .i64 0), (.bool false), (.int .i64 0), (.int .i64 0), (.int .i64 0), (.bool false)] 56 (0, 0))) ⟨k39, 0, none⟩ (.int .i64 n32)) ⟨k39, (0 + 1), none⟩ (.bool t33)) ⟨k39, (0 + 2), none⟩ (.int .i64 n34)) ⟨k39, (0 + 3), none⟩ (.int .i64 n35)) ⟨k39, (0 + 4), none⟩ (.int .i64 n36)) ⟨k39, (0 + 5), none⟩ (.bool t37))))))
           (bsp (n38 == 0)
             (∃ k44 : Nat, (k44 < k9) ∧
              I7 k44 [(.int .i64 n11), (.int .i64 (IntKind.wrap .i64 (n12 + 1))), (.int .i64 (IntKind.wrap .i64 (n13 + 1)))] (Mem.put (Mem.put (Mem.put (Mem.put (Mem.put (Mem.put (Mem.set M31 k39 (.cells #[(.int .i64 0), (.bool false), (.int .i64 0), (.int .i64 0), (.int .i64 0), (.bool false)] 56 (0, 0))) ⟨k39, 0, none⟩ (.int .i64 n32)) ⟨k39, (0 + 1), none⟩ (.bool t33)) ⟨k39, (0 + 2), none⟩ (.int .i64 n34)) ⟨k39, (0 + 3), none⟩ (.int .i64 n35)) ⟨k39, (0 + 4), none⟩ (.int .i64 n36)) ⟨k39, (0 + 5), none⟩ (.bool t37)))
             (∃ k45 : Nat, (k45 < k9) ∧
              I7 k45 [(.int .i64 n11), (.int .i64 n12), (.int .i64 (IntKind.wrap .i64 (n13 + 1)))] (Mem.put (Mem.put (Mem.put (Mem.put (Mem.put (Mem.put (Mem.set M31 k39 (.cells #[(.int .i64 0), (.bool false), (.int .i64 0), (.int .i64 0), (.int .i64 0), (.bool false)] 56 (0, 0))) ⟨k39, 0, none⟩ (.int .i64 n32)) ⟨k39, (0 + 1), none⟩ (.bool t33)) ⟨k39, (0 + 2), none⟩ (.int .i64 n34)) ⟨k39, (0 + 3), none⟩ (.int .i64 n35)) ⟨k39, (0 + 4), none⟩ (.int .i64 n36)) ⟨k39, (0 + 5), none⟩ (.bool t37)))))) Kp))
     (ACalls Try.prog 44 #[(.pointer A6)] M14 (fun v46 M47 =>
      ∃ A48 : Option Addr, ∃ k49 : Nat, ∃ k50 : Nat, ∃ A51 : Option Addr, ∃ k52 : Nat, ∃ k53 : Nat, ∃ A54 : Option Addr, ∃ k55 : Nat, ∃ k56 : Nat, ∃ t57 : Bool, (v46 = (.agg #[(.slice A48 k49 k50), (.slice A51 k52 k53), (.slice A54 k55 k56), (.bool t57)])) ∧
      ∀ k58 : Nat, (M47 k58 = none) → (Mem.wr (Mem.set M47 k58 (.cells #[(.slice none 0 0), (.slice none 0 0), (.slice none 0 0), (.bool false)] 79 (0, 0))) ⟨k58, 0, none⟩ = true) ∧
      (Mem.wr (Mem.put (Mem.set M47 k58 (.cells #[(.slice none 0 0), (.slice none 0 0), (.slice none 0 0), (.bool false)] 79 (0, 0))) ⟨k58, 0, none⟩ (.slice A48 k49 k50)) ⟨k58, (0 + 1), none⟩ = true) ∧
      (Mem.wr (Mem.put (Mem.put (Mem.set M47 k58 (.cells #[(.slice none 0 0), (.slice none 0 0), (.slice none 0 0), (.bool false)] 79 (0, 0))) ⟨k58, 0, none⟩ (.slice A48 k49 k50)) ⟨k58, (0 + 1), none⟩ (.slice A51 k52 k53)) ⟨k58, (0 + 2), none⟩ = true) ∧
      (Mem.wr (Mem.put (Mem.put (Mem.put (Mem.set M47 k58 (.cells #[(.slice none 0 0), (.slice none 0 0), (.slice none 0 0), (.bool false)] 79 (0, 0))) ⟨k58, 0, none⟩ (.slice A48 k49 k50)) ⟨k58, (0 + 1), none⟩ (.slice A51 k52 k53)) ⟨k58, (0 + 2), none⟩ (.slice A54 k55 k56)) ⟨k58, (0 + 3), none⟩ = true) ∧
      exSl (Mem.ld (Mem.put (Mem.put (Mem.put (Mem.put (Mem.set M47 k58 (.cells #[(.slice none 0 0), (.slice none 0 0), (.slice none 0 0), (.bool false)] 79 (0, 0))) ⟨k58, 0, none⟩ (.slice A48 k49 k50)) ⟨k58, (0 + 1), none⟩ (.slice A51 k52 k53)) ⟨k58, (0 + 2), none⟩ (.slice A54 k55 k56)) ⟨k58, (0 + 3), none⟩ (.bool t57)) ⟨k58, 0, none⟩) fun A59 k60 k61 =>
      exSl (Mem.ld (Mem.put (Mem.put (Mem.put (Mem.put (Mem.set M47 k58 (.cells #[(.slice none 0 0), (.slice none 0 0), (.slice none 0 0), (.bool false)] 79 (0, 0))) ⟨k58, 0, none⟩ (.slice A48 k49 k50)) ⟨k58, (0 + 1), none⟩ (.slice A51 k52 k53)) ⟨k58, (0 + 2), none⟩ (.slice A54 k55 k56)) ⟨k58, (0 + 3), none⟩ (.bool t57)) ⟨k58, (0 + 1), none⟩) fun A62 k63 k64 =>
      K (.bool ((IntKind.wrap .i64 (((k60 : Nat) : Int) + ((k63 : Nat) : Int))) == (IntKind.wrap .i64 (n11 - n12)))) (Mem.put (Mem.put (Mem.put (Mem.put (Mem.set M47 k58 (.cells #[(.slice none 0 0), (.slice none 0 0), (.slice none 0 0), (.bool false)] 79 (0, 0))) ⟨k58, 0, none⟩ (.slice A48 k49 k50)) ⟨k58, (0 + 1), none⟩ (.slice A51 k52 k53)) ⟨k58, (0 + 2), none⟩ (.slice A54 k55 k56)) ⟨k58, (0 + 3), none⟩ (.bool t57))) Kp))
   (ACalls Try.prog 44 #[(.pointer A6)] M14 (fun v65 M66 =>
    ∃ A67 : Option Addr, ∃ k68 : Nat, ∃ k69 : Nat, ∃ A70 : Option Addr, ∃ k71 : Nat, ∃ k72 : Nat, ∃ A73 : Option Addr, ∃ k74 : Nat, ∃ k75 : Nat, ∃ t76 : Bool, (v65 = (.agg #[(.slice A67 k68 k69), (.slice A70 k71 k72), (.slice A73 k74 k75), (.bool t76)])) ∧
    ∀ k77 : Nat, (M66 k77 = none) → (Mem.wr (Mem.set M66 k77 (.cells #[(.slice none 0 0), (.slice none 0 0), (.slice none 0 0), (.bool false)] 79 (0, 0))) ⟨k77, 0, none⟩ = true) ∧
    (Mem.wr (Mem.put (Mem.set M66 k77 (.cells #[(.slice none 0 0), (.slice none 0 0), (.slice none 0 0), (.bool false)] 79 (0, 0))) ⟨k77, 0, none⟩ (.slice A67 k68 k69)) ⟨k77, (0 + 1), none⟩ = true) ∧
    (Mem.wr (Mem.put (Mem.put (Mem.set M66 k77 (.cells #[(.slice none 0 0), (.slice none 0 0), (.slice none 0 0), (.bool false)] 79 (0, 0))) ⟨k77, 0, none⟩ (.slice A67 k68 k69)) ⟨k77, (0 + 1), none⟩ (.slice A70 k71 k72)) ⟨k77, (0 + 2), none⟩ = true) ∧
    (Mem.wr (Mem.put (Mem.put (Mem.put (Mem.set M66 k77 (.cells #[(.slice none 0 0), (.slice none 0 0), (.slice none 0 0), (.bool false)] 79 (0, 0))) ⟨k77, 0, none⟩ (.slice A67 k68 k69)) ⟨k77, (0 + 1), none⟩ (.slice A70 k71 k72)) ⟨k77, (0 + 2), none⟩ (.slice A73 k74 k75)) ⟨k77, (0 + 3), none⟩ = true) ∧
    exSl (Mem.ld (Mem.put (Mem.put (Mem.put (Mem.put (Mem.set M66 k77 (.cells #[(.slice none 0 0), (.slice none 0 0), (.slice none 0 0), (.bool false)] 79 (0, 0))) ⟨k77, 0, none⟩ (.slice A67 k68 k69)) ⟨k77, (0 + 1), none⟩ (.slice A70 k71 k72)) ⟨k77, (0 + 2), none⟩ (.slice A73 k74 k75)) ⟨k77, (0 + 3), none⟩ (.bool t76)) ⟨k77, 0, none⟩) fun A78 k79 k80 =>
    exSl (Mem.ld (Mem.put (Mem.put (Mem.put (Mem.put (Mem.set M66 k77 (.cells #[(.slice none 0 0), (.slice none 0 0), (.slice none 0 0), (.bool false)] 79 (0, 0))) ⟨k77, 0, none⟩ (.slice A67 k68 k69)) ⟨k77, (0 + 1), none⟩ (.slice A70 k71 k72)) ⟨k77, (0 + 2), none⟩ (.slice A73 k74 k75)) ⟨k77, (0 + 3), none⟩ (.bool t76)) ⟨k77, (0 + 1), none⟩) fun A81 k82 k83 =>
    K (.bool ((IntKind.wrap .i64 (((k79 : Nat) : Int) + ((k82 : Nat) : Int))) == (IntKind.wrap .i64 (n11 - n12)))) (Mem.put (Mem.put (Mem.put (Mem.put (Mem.set M66 k77 (.cells #[(.slice none 0 0), (.slice none 0 0), (.slice none 0 0), (.bool false)] 79 (0, 0))) ⟨k77, 0, none⟩ (.slice A67 k68 k69)) ⟨k77, (0 + 1), none⟩ (.slice A70 k71 k72)) ⟨k77, (0 + 2), none⟩ (.slice A73 k74 k75)) ⟨k77, (0 + 3), none⟩ (.bool t76))) Kp)) Kp)) Kp) :
  ACalls Try.prog 9 ([.int .i64 x0, .slice B1 m1 c1] : List Value).toArray M K Kp :=
  acalls_vc (C := Cx) good [(2000000, .loop [(6, .c (.int .i64)), (7, .c (.int .i64)), (8, .c (.int .i64))])] Try.func9 (by kernel_rfl) (by kernel_rfl) h

end Go.Proofs
