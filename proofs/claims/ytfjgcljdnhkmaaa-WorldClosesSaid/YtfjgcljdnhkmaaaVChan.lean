/- A part of proofs about functions of one program: a condition over a partial memory that is enough for a call, and what calls answer by it. No condition of its own. -/
import Derived.Test.YtfjgcljdnhkmaaaCx
namespace Go.Proofs
open Go.AF
set_option linter.unusedVariables false
set_option maxRecDepth 100000
theorem vc_chans_New {x0 : Int} {M : Mem} {K : Value → Mem → Prop} {Kp : List PanicEntry → Mem → Prop} (h :
nwc M (.cells #[(.int .i64 (if (16 : Int) < (if (0 : Int) > x0 then 0 else x0) then 16 else (if (0 : Int) > x0 then 0 else x0))), (.slice none 0 0), (.slice none 0 0), (.slice none 0 0), (.bool false)] 89 (0, 0)) fun k1 M2 =>
K (.pointer (some ⟨k1, 0, none⟩)) M2) :
  ACalls Try.prog 23 ([.int .i64 x0] : List Value).toArray M K Kp :=
  acalls_vc (C := Cx) good [] Try.func23 (by kernel_rfl) (by kernel_rfl) h

theorem vc_chans_Chan_State {b0 o0 : Nat} {M : Mem} {K : Value → Mem → Prop} {Kp : List PanicEntry → Mem → Prop} (h :
nwc M (.cells #[(.slice none 0 0), (.slice none 0 0), (.slice none 0 0), (.bool false)] 49 (0, 0)) fun k1 M2 =>
exSl (Mem.ld M2 ⟨b0, (o0 + 1), none⟩) fun A3 k4 k5 =>
exSl (Mem.ld M2 ⟨b0, (o0 + 2), none⟩) fun A6 k7 k8 =>
exSl (Mem.ld M2 ⟨b0, (o0 + 3), none⟩) fun A9 k10 k11 =>
exB (Mem.ld M2 ⟨b0, (o0 + 4), none⟩) fun t12 =>
nwc M2 (.cells #[] 2 (0, 0)) fun k13 M14 =>
(True) ∧
(True) ∧
semK Try.prog (Go.Builtin.append_ #[46, 46] 46 #[(.slice (some ⟨k13, 0, none⟩) 0 0), (.slice A3 k4 k5)]) M14 (fun v15 M16 =>
exSl (some v15) fun A17 k18 k19 =>
((Mem.ld M16 ⟨b0, (o0 + 4), none⟩) = (some (.bool t12))) ∧
((Mem.ld M16 ⟨b0, (o0 + 3), none⟩) = (some (.slice A9 k10 k11))) ∧
((Mem.ld M16 ⟨b0, (o0 + 2), none⟩) = (some (.slice A6 k7 k8))) ∧
nwc M16 (.cells #[] 120 (0, 0)) fun k20 M21 =>
(True) ∧
semK Try.prog (Go.Builtin.append_ #[47, 47] 47 #[(.slice (some ⟨k20, 0, none⟩) 0 0), (.slice A6 k7 k8)]) M21 (fun v22 M23 =>
exSl (some v22) fun A24 k25 k26 =>
((Mem.ld M23 ⟨b0, (o0 + 4), none⟩) = (some (.bool t12))) ∧
((Mem.ld M23 ⟨b0, (o0 + 3), none⟩) = (some (.slice A9 k10 k11))) ∧
((Mem.ld M23 ⟨b0, (o0 + 2), none⟩) = (some (.slice A6 k7 k8))) ∧
nwc M23 (.cells #[] 120 (0, 0)) fun k27 M28 =>
semK Try.prog (Go.Builtin.append_ #[47, 47] 47 #[(.slice (some ⟨k27, 0, none⟩) 0 0), (.slice A9 k10 k11)]) M28 (fun v29 M30 =>
exSl (some v29) fun A31 k32 k33 =>
((Mem.ld M30 ⟨b0, (o0 + 4), none⟩) = (some (.bool t12))) ∧
((Mem.ld M30 ⟨b0, (o0 + 3), none⟩) = (some (.slice A9 k10 k11))) ∧
((Mem.ld M30 ⟨b0, (o0 + 2), none⟩) = (some (.slice A6 k7 k8))) ∧
stc M30 ⟨k1, 0, none⟩ (.slice A17 k18 k19) fun M34 =>
stc M34 ⟨k1, (0 + 1), none⟩ (.slice A24 k25 k26) fun M35 =>
stc M35 ⟨k1, (0 + 2), none⟩ (.slice A31 k32 k33) fun M36 =>
stc M36 ⟨k1, (0 + 3), none⟩ (.bool t12) fun M37 =>
((Mem.ld M37 ⟨b0, (o0 + 4), none⟩) = (some (.bool t12))) ∧
((Mem.ld M37 ⟨b0, (o0 + 3), none⟩) = (some (.slice A9 k10 k11))) ∧
((Mem.ld M37 ⟨b0, (o0 + 2), none⟩) = (some (.slice A6 k7 k8))) ∧
exSl (Mem.ld M37 ⟨k1, 0, none⟩) fun A38 k39 k40 =>
exSl (Mem.ld M37 ⟨k1, (0 + 1), none⟩) fun A41 k42 k43 =>
exSl (Mem.ld M37 ⟨k1, (0 + 2), none⟩) fun A44 k45 k46 =>
exB (Mem.ld M37 ⟨k1, (0 + 3), none⟩) fun t47 =>
K (.agg #[(.slice A38 k39 k40), (.slice A41 k42 k43), (.slice A44 k45 k46), (.bool t47)]) M37) Kp) Kp) Kp) :
  ACalls Try.prog 27 ([.pointer (some ⟨b0, o0, none⟩)] : List Value).toArray M K Kp :=
  acalls_vc (C := Cx) good [(1, .reg [0, 0, 2, 6, 14, 31, 0, 0, 128, 384, 896, 2047, 0, 0, 8192, 24576, 57344, 131071, 0, 262144, 786432, 1835008, 4194303, 8388607] (.step 1 (.step 2 (.step 3 (.step 7 (.step 8 (.step 9 (.step 13 (.step 14 (.step 15 (.step 18 (.step 19 (.step 20 (.step 4 (.prom 10 (.prom 16 (.prom 21 (.step 0 (.late 5 (.step 6 (.late 11 (.step 12 (.step 17 (.step 22 (.step 23 .done)))))))))))))))))))))))))] Try.func27 (by kernel_rfl) (by kernel_rfl) h

theorem vc_chans_Chan_WaitRecv {b0 o0 : Nat} {x1_0 : Int} {x1_1 : Int} {x1_2 : Int} {M : Mem} {K : Value → Mem → Prop} {Kp : List PanicEntry → Mem → Prop} (h :
nwc M (.cells #[(.int .i64 x1_0), (.int .i64 x1_1), (.int .i64 x1_2)] 120 (0, 0)) fun k1 M2 =>
exSl (Mem.ld M2 ⟨b0, (o0 + 3), none⟩) fun A3 k4 k5 =>
exI (Mem.ld M2 ⟨k1, 0, none⟩) .i64 fun n6 =>
exI (Mem.ld M2 ⟨k1, (0 + 1), none⟩) .i64 fun n7 =>
exI (Mem.ld M2 ⟨k1, (0 + 2), none⟩) .i64 fun n8 =>
nwc M2 (.cells #[(.int .i64 n6), (.int .i64 n7), (.int .i64 n8)] 120 (0, 0)) fun k9 M10 =>
semK Try.prog (Go.Builtin.append_ #[47, 47] 47 #[(.slice A3 k4 k5), (.slice (some ⟨k9, 0, none⟩) 1 1)]) M10 (fun v11 M12 =>
exSl (some v11) fun A13 k14 k15 =>
stc M12 ⟨b0, (o0 + 3), none⟩ (.slice A13 k14 k15) fun M16 =>
K (.tuple #[]) M16) Kp) :
  ACalls Try.prog 70 ([.pointer (some ⟨b0, o0, none⟩), .agg #[.int .i64 x1_0, .int .i64 x1_1, .int .i64 x1_2]] : List Value).toArray M K Kp :=
  acalls_vc (C := Cx) good [(1, .reg [0, 0, 2, 6, 14, 0, 32, 126, 255, 511, 1023] (.step 0 (.step 1 (.step 2 (.step 3 (.step 4 (.step 5 (.step 6 (.step 7 (.step 8 (.step 9 (.step 10 .done))))))))))))] Try.func70 (by kernel_rfl) (by kernel_rfl) h

theorem vc_chans_Chan_WaitSend {b0 o0 : Nat} {x1_0 : Int} {x1_1 : Int} {x1_2 : Int} {M : Mem} {K : Value → Mem → Prop} {Kp : List PanicEntry → Mem → Prop} (h :
nwc M (.cells #[(.int .i64 x1_0), (.int .i64 x1_1), (.int .i64 x1_2)] 120 (0, 0)) fun k1 M2 =>
exSl (Mem.ld M2 ⟨b0, (o0 + 2), none⟩) fun A3 k4 k5 =>
exI (Mem.ld M2 ⟨k1, 0, none⟩) .i64 fun n6 =>
exI (Mem.ld M2 ⟨k1, (0 + 1), none⟩) .i64 fun n7 =>
exI (Mem.ld M2 ⟨k1, (0 + 2), none⟩) .i64 fun n8 =>
nwc M2 (.cells #[(.int .i64 n6), (.int .i64 n7), (.int .i64 n8)] 120 (0, 0)) fun k9 M10 =>
semK Try.prog (Go.Builtin.append_ #[47, 47] 47 #[(.slice A3 k4 k5), (.slice (some ⟨k9, 0, none⟩) 1 1)]) M10 (fun v11 M12 =>
exSl (some v11) fun A13 k14 k15 =>
stc M12 ⟨b0, (o0 + 2), none⟩ (.slice A13 k14 k15) fun M16 =>
K (.tuple #[]) M16) Kp) :
  ACalls Try.prog 71 ([.pointer (some ⟨b0, o0, none⟩), .agg #[.int .i64 x1_0, .int .i64 x1_1, .int .i64 x1_2]] : List Value).toArray M K Kp :=
  acalls_vc (C := Cx) good [(1, .reg [0, 0, 2, 6, 14, 0, 32, 126, 255, 511, 1023] (.step 0 (.step 1 (.step 2 (.step 3 (.step 4 (.step 5 (.step 6 (.step 7 (.step 8 (.step 9 (.step 10 .done))))))))))))] Try.func71 (by kernel_rfl) (by kernel_rfl) h

theorem vc_chans_Chan_Send {b0 o0 : Nat} {x1 : Int} {M : Mem} {K : Value → Mem → Prop} {Kp : List PanicEntry → Mem → Prop} (h :
nwc M (.cells #[(.int .i64 0), (.int .i64 0), (.int .i64 0)] 120 (0, 0)) fun k1 M2 =>
exB (Mem.ld M2 ⟨b0, (o0 + 4), none⟩) fun t3 =>
bsp t3
 (stc M2 ⟨k1, 0, none⟩ (.int .i64 0) fun M4 =>
  stc M4 ⟨k1, (0 + 1), none⟩ (.int .i64 0) fun M5 =>
  stc M5 ⟨k1, (0 + 2), none⟩ (.int .i64 0) fun M6 =>
  exI (Mem.ld M6 ⟨k1, 0, none⟩) .i64 fun n7 =>
  exI (Mem.ld M6 ⟨k1, (0 + 1), none⟩) .i64 fun n8 =>
  exI (Mem.ld M6 ⟨k1, (0 + 2), none⟩) .i64 fun n9 =>
  K (.tuple #[(.agg #[(.int .i64 n7), (.int .i64 n8), (.int .i64 n9)]), (.bool false), (.int .i64 10)]) M6)
 (exSl (Mem.ld M2 ⟨b0, (o0 + 3), none⟩) fun A10 k11 k12 =>
  bsp (decide ((((k11 : Nat) : Int) : Int) > 0))
   (nwc M2 (.cells #[(.int .i64 0), (.int .i64 0), (.int .i64 0)] 120 (0, 0)) fun k13 M14 =>
    exSl (Mem.ld M14 ⟨b0, (o0 + 3), none⟩) fun A15 k16 k17 =>
    ACalls Try.prog 86 #[(.slice A15 k16 k17)] M14 (fun v18 M19 =>
    ∃ n20 : Int, ∃ n21 : Int, ∃ n22 : Int, ∃ A23 : Option Addr, ∃ k24 : Nat, ∃ k25 : Nat, (v18 = (.tuple #[(.agg #[(.int .i64 n20), (.int .i64 n21), (.int .i64 n22)]), (.slice A23 k24 k25)])) ∧
    stc M19 ⟨k13, 0, none⟩ (.int .i64 n20) fun M26 =>
    stc M26 ⟨k13, (0 + 1), none⟩ (.int .i64 n21) fun M27 =>
    stc M27 ⟨k13, (0 + 2), none⟩ (.int .i64 n22) fun M28 =>
    stc M28 ⟨b0, (o0 + 3), none⟩ (.slice A23 k24 k25) fun M29 =>
    stc M29 ⟨k13, (0 + 2), none⟩ (.int .i64 x1) fun M30 =>
    exI (Mem.ld M30 ⟨k13, 0, none⟩) .i64 fun n31 =>
    exI (Mem.ld M30 ⟨k13, (0 + 1), none⟩) .i64 fun n32 =>
    exI (Mem.ld M30 ⟨k13, (0 + 2), none⟩) .i64 fun n33 =>
    stc M30 ⟨k1, 0, none⟩ (.int .i64 n31) fun M34 =>
    stc M34 ⟨k1, (0 + 1), none⟩ (.int .i64 n32) fun M35 =>
    stc M35 ⟨k1, (0 + 2), none⟩ (.int .i64 n33) fun M36 =>
    exI (Mem.ld M36 ⟨k1, 0, none⟩) .i64 fun n37 =>
    exI (Mem.ld M36 ⟨k1, (0 + 1), none⟩) .i64 fun n38 =>
    exI (Mem.ld M36 ⟨k1, (0 + 2), none⟩) .i64 fun n39 =>
    K (.tuple #[(.agg #[(.int .i64 n37), (.int .i64 n38), (.int .i64 n39)]), (.bool true), (.int .i64 0)]) M36) Kp)
   (exSl (Mem.ld M2 ⟨b0, (o0 + 1), none⟩) fun A40 k41 k42 =>
    exI (Mem.ld M2 ⟨b0, o0, none⟩) .i64 fun n43 =>
    bsp (decide ((((k41 : Nat) : Int) : Int) < n43))
     (exSl (Mem.ld M2 ⟨b0, (o0 + 1), none⟩) fun A44 k45 k46 =>
      nwc M2 (.cells #[(.int .i64 x1)] 2 (0, 0)) fun k47 M48 =>
      semK Try.prog (Go.Builtin.append_ #[46, 46] 46 #[(.slice A44 k45 k46), (.slice (some ⟨k47, 0, none⟩) 1 1)]) M48 (fun v49 M50 =>
      exSl (some v49) fun A51 k52 k53 =>
      stc M50 ⟨b0, (o0 + 1), none⟩ (.slice A51 k52 k53) fun M54 =>
      stc M54 ⟨k1, 0, none⟩ (.int .i64 0) fun M55 =>
      stc M55 ⟨k1, (0 + 1), none⟩ (.int .i64 0) fun M56 =>
      stc M56 ⟨k1, (0 + 2), none⟩ (.int .i64 0) fun M57 =>
      exI (Mem.ld M57 ⟨k1, 0, none⟩) .i64 fun n58 =>
      exI (Mem.ld M57 ⟨k1, (0 + 1), none⟩) .i64 fun n59 =>
      exI (Mem.ld M57 ⟨k1, (0 + 2), none⟩) .i64 fun n60 =>
      K (.tuple #[(.agg #[(.int .i64 n58), (.int .i64 n59), (.int .i64 n60)]), (.bool false), (.int .i64 0)]) M57) Kp)
     (stc M2 ⟨k1, 0, none⟩ (.int .i64 0) fun M61 =>
      stc M61 ⟨k1, (0 + 1), none⟩ (.int .i64 0) fun M62 =>
      stc M62 ⟨k1, (0 + 2), none⟩ (.int .i64 0) fun M63 =>
      exI (Mem.ld M63 ⟨k1, 0, none⟩) .i64 fun n64 =>
      exI (Mem.ld M63 ⟨k1, (0 + 1), none⟩) .i64 fun n65 =>
      exI (Mem.ld M63 ⟨k1, (0 + 2), none⟩) .i64 fun n66 =>
      K (.tuple #[(.agg #[(.int .i64 n64), (.int .i64 n65), (.int .i64 n66)]), (.bool false), (.int .i64 6)]) M63)))) :
  ACalls Try.prog 72 ([.pointer (some ⟨b0, o0, none⟩), .int .i64 x1] : List Value).toArray M K Kp :=
  acalls_vc (C := Cx) good [(8, .reg [0, 1, 3, 7, 15, 0, 32, 96, 224, 511, 1023] (.step 0 (.step 1 (.step 2 (.step 5 (.step 6 (.step 7 (.step 3 (.step 4 (.step 8 (.step 9 (.step 10 .done))))))))))))] Try.func72 (by kernel_rfl) (by kernel_rfl) h

theorem vc_chans_Chan_Recv {b0 o0 : Nat} {M : Mem} {K : Value → Mem → Prop} {Kp : List PanicEntry → Mem → Prop} (h :
nwc M (.cells #[(.int .i64 0), (.bool false), (.int .i64 0), (.int .i64 0), (.int .i64 0), (.bool false)] 126 (0, 0)) fun k1 M2 =>
nwc M2 (.cells #[(.int .i64 0), (.bool false), (.int .i64 0), (.int .i64 0), (.int .i64 0), (.bool false)] 126 (0, 0)) fun k3 M4 =>
exSl (Mem.ld M4 ⟨b0, (o0 + 2), none⟩) fun A5 k6 k7 =>
∃ J8 : List Value → Mem → Prop, (bsp (decide ((((k6 : Nat) : Int) : Int) > 0))
  (exSl (Mem.ld M4 ⟨b0, (o0 + 2), none⟩) fun A9 k10 k11 =>
   ACalls Try.prog 86 #[(.slice A9 k10 k11)] M4 (fun v12 M13 =>
   ∃ n14 : Int, ∃ n15 : Int, ∃ n16 : Int, ∃ A17 : Option Addr, ∃ k18 : Nat, ∃ k19 : Nat, (v12 = (.tuple #[(.agg #[(.int .i64 n14), (.int .i64 n15), (.int .i64 n16)]), (.slice A17 k18 k19)])) ∧
   stc M13 ⟨k3, (0 + 2), none⟩ (.int .i64 n14) fun M20 =>
   stc M20 ⟨k3, ((0 + 2) + 1), none⟩ (.int .i64 n15) fun M21 =>
   stc M21 ⟨k3, ((0 + 2) + 2), none⟩ (.int .i64 n16) fun M22 =>
   stc M22 ⟨b0, (o0 + 2), none⟩ (.slice A17 k18 k19) fun M23 =>
   stc M23 ⟨k3, (0 + 5), none⟩ (.bool true) fun M24 =>
   exSl (Mem.ld M24 ⟨b0, (o0 + 1), none⟩) fun A25 k26 k27 =>
   exI (Mem.ld M24 ⟨k3, ((0 + 2) + 2), none⟩) .i64 fun n28 =>
   nwc M24 (.cells #[(.int .i64 n28)] 2 (0, 0)) fun k29 M30 =>
   semK Try.prog (Go.Builtin.append_ #[46, 46] 46 #[(.slice A25 k26 k27), (.slice (some ⟨k29, 0, none⟩) 1 1)]) M30 (fun v31 M32 =>
   exSl (some v31) fun A33 k34 k35 =>
   stc M32 ⟨b0, (o0 + 1), none⟩ (.slice A33 k34 k35) fun M36 =>
   J8 [] M36) Kp) Kp)
  (J8 [] M4)) ∧
∀ junk37 : Nat → Value, ∀ M38 : Mem, (J8 [] M38) → exSl (Mem.ld M38 ⟨b0, (o0 + 1), none⟩) fun A39 k40 k41 =>
bsp (decide ((((k40 : Nat) : Int) : Int) > 0))
 (exSl (Mem.ld M38 ⟨b0, (o0 + 1), none⟩) fun A42 k43 k44 =>
  ((0 : Int) ≤ 0) ∧
  ((0 : Int) < ((k43 : Nat) : Int)) ∧
  nilc A42 fun k45 k46 =>
  exI (Mem.ld M38 ⟨k45, (k46 + 0), none⟩) .i64 fun n47 =>
  stc M38 ⟨k3, 0, none⟩ (.int .i64 n47) fun M48 =>
  stc M48 ⟨k3, (0 + 1), none⟩ (.bool true) fun M49 =>
  nwc M49 (.cells #[] 2 (0, 0)) fun k50 M51 =>
  exSl (Mem.ld M51 ⟨b0, (o0 + 1), none⟩) fun A52 k53 k54 =>
  ((0 : Int) ≤ ((k54 : Nat) : Int)) ∧
  ((((k54 : Nat) : Int) : Int) ≤ ((k54 : Nat) : Int)) ∧
  ((0 : Int) ≤ ((k53 : Nat) : Int)) ∧
  ((((k53 : Nat) : Int) : Int) ≤ ((k54 : Nat) : Int)) ∧
  ((0 : Int) ≤ 1) ∧
  ((1 : Int) ≤ ((k53 : Nat) : Int)) ∧
  semK Try.prog (Go.Builtin.append_ #[46, 46] 46 #[(.slice (some ⟨k50, 0, none⟩) 0 0), (.slice (slA A52 1 (Int.toNat ((k54 : Nat) : Int)) 1) ((Int.toNat ((k53 : Nat) : Int)) - 1) ((Int.toNat ((k54 : Nat) : Int)) - 1))]) M51 (fun v55 M56 =>
  exSl (some v55) fun A57 k58 k59 =>
  stc M56 ⟨b0, (o0 + 1), none⟩ (.slice A57 k58 k59) fun M60 =>
  exI (Mem.ld M60 ⟨k3, 0, none⟩) .i64 fun n61 =>
  exB (Mem.ld M60 ⟨k3, (0 + 1), none⟩) fun t62 =>
  exI (Mem.ld M60 ⟨k3, (0 + 2), none⟩) .i64 fun n63 =>
  exI (Mem.ld M60 ⟨k3, (0 + 3), none⟩) .i64 fun n64 =>
  exI (Mem.ld M60 ⟨k3, (0 + 4), none⟩) .i64 fun n65 =>
  exB (Mem.ld M60 ⟨k3, (0 + 5), none⟩) fun t66 =>
  stc M60 ⟨k1, 0, none⟩ (.int .i64 n61) fun M67 =>
  stc M67 ⟨k1, (0 + 1), none⟩ (.bool t62) fun M68 =>
  stc M68 ⟨k1, (0 + 2), none⟩ (.int .i64 n63) fun M69 =>
  stc M69 ⟨k1, (0 + 3), none⟩ (.int .i64 n64) fun M70 =>
  stc M70 ⟨k1, (0 + 4), none⟩ (.int .i64 n65) fun M71 =>
  stc M71 ⟨k1, (0 + 5), none⟩ (.bool t66) fun M72 =>
  exI (Mem.ld M72 ⟨k1, 0, none⟩) .i64 fun n73 =>
  exB (Mem.ld M72 ⟨k1, (0 + 1), none⟩) fun t74 =>
  exI (Mem.ld M72 ⟨k1, (0 + 2), none⟩) .i64 fun n75 =>
  exI (Mem.ld M72 ⟨k1, (0 + 3), none⟩) .i64 fun n76 =>
  exI (Mem.ld M72 ⟨k1, (0 + 4), none⟩) .i64 fun n77 =>
  exB (Mem.ld M72 ⟨k1, (0 + 5), none⟩) fun t78 =>
  K (.tuple #[(.agg #[(.int .i64 n73), (.bool t74), (.int .i64 n75), (.int .i64 n76), (.int .i64 n77), (.bool t78)]), (.int .i64 0)]) M72) Kp)
 (exB (Mem.ld M38 ⟨b0, (o0 + 4), none⟩) fun t79 =>
  bsp t79
   (exI (Mem.ld M38 ⟨k3, 0, none⟩) .i64 fun n80 =>
    exB (Mem.ld M38 ⟨k3, (0 + 1), none⟩) fun t81 =>
    exI (Mem.ld M38 ⟨k3, (0 + 2), none⟩) .i64 fun n82 =>
    exI (Mem.ld M38 ⟨k3, (0 + 3), none⟩) .i64 fun n83 =>
    exI (Mem.ld M38 ⟨k3, (0 + 4), none⟩) .i64 fun n84 =>
    exB (Mem.ld M38 ⟨k3, (0 + 5), none⟩) fun t85 =>
    stc M38 ⟨k1, 0, none⟩ (.int .i64 n80) fun M86 =>
    stc M86 ⟨k1, (0 + 1), none⟩ (.bool t81) fun M87 =>
    stc M87 ⟨k1, (0 + 2), none⟩ (.int .i64 n82) fun M88 =>
    stc M88 ⟨k1, (0 + 3), none⟩ (.int .i64 n83) fun M89 =>
    stc M89 ⟨k1, (0 + 4), none⟩ (.int .i64 n84) fun M90 =>
    stc M90 ⟨k1, (0 + 5), none⟩ (.bool t85) fun M91 =>
    exI (Mem.ld M91 ⟨k1, 0, none⟩) .i64 fun n92 =>
    exB (Mem.ld M91 ⟨k1, (0 + 1), none⟩) fun t93 =>
    exI (Mem.ld M91 ⟨k1, (0 + 2), none⟩) .i64 fun n94 =>
    exI (Mem.ld M91 ⟨k1, (0 + 3), none⟩) .i64 fun n95 =>
    exI (Mem.ld M91 ⟨k1, (0 + 4), none⟩) .i64 fun n96 =>
    exB (Mem.ld M91 ⟨k1, (0 + 5), none⟩) fun t97 =>
    K (.tuple #[(.agg #[(.int .i64 n92), (.bool t93), (.int .i64 n94), (.int .i64 n95), (.int .i64 n96), (.bool t97)]), (.int .i64 0)]) M91)
   (exI (Mem.ld M38 ⟨k3, 0, none⟩) .i64 fun n98 =>
    exB (Mem.ld M38 ⟨k3, (0 + 1), none⟩) fun t99 =>
    exI (Mem.ld M38 ⟨k3, (0 + 2), none⟩) .i64 fun n100 =>
    exI (Mem.ld M38 ⟨k3, (0 + 3), none⟩) .i64 fun n101 =>
    exI (Mem.ld M38 ⟨k3, (0 + 4), none⟩) .i64 fun n102 =>
    exB (Mem.ld M38 ⟨k3, (0 + 5), none⟩) fun t103 =>
    stc M38 ⟨k1, 0, none⟩ (.int .i64 n98) fun M104 =>
    stc M104 ⟨k1, (0 + 1), none⟩ (.bool t99) fun M105 =>
    stc M105 ⟨k1, (0 + 2), none⟩ (.int .i64 n100) fun M106 =>
    stc M106 ⟨k1, (0 + 3), none⟩ (.int .i64 n101) fun M107 =>
    stc M107 ⟨k1, (0 + 4), none⟩ (.int .i64 n102) fun M108 =>
    stc M108 ⟨k1, (0 + 5), none⟩ (.bool t103) fun M109 =>
    exI (Mem.ld M109 ⟨k1, 0, none⟩) .i64 fun n110 =>
    exB (Mem.ld M109 ⟨k1, (0 + 1), none⟩) fun t111 =>
    exI (Mem.ld M109 ⟨k1, (0 + 2), none⟩) .i64 fun n112 =>
    exI (Mem.ld M109 ⟨k1, (0 + 3), none⟩) .i64 fun n113 =>
    exI (Mem.ld M109 ⟨k1, (0 + 4), none⟩) .i64 fun n114 =>
    exB (Mem.ld M109 ⟨k1, (0 + 5), none⟩) fun t115 =>
    K (.tuple #[(.agg #[(.int .i64 n110), (.bool t111), (.int .i64 n112), (.int .i64 n113), (.int .i64 n114), (.bool t115)]), (.int .i64 5)]) M109))) :
  ACalls Try.prog 74 ([.pointer (some ⟨b0, o0, none⟩)] : List Value).toArray M K Kp :=
  acalls_vc (C := Cx) good [(3000010, .cut []), (5, .reg [0, 0, 2, 6, 14, 0, 32, 96, 224, 510, 1023, 2047, 4095] (.step 0 (.step 1 (.step 2 (.step 3 (.step 5 (.step 6 (.step 4 (.step 7 (.step 8 (.step 9 (.step 10 (.step 11 (.step 12 .done))))))))))))))] Try.func74 (by kernel_rfl) (by kernel_rfl) h

theorem vc_chans_Chan_Close {b0 o0 : Nat} {M : Mem} {K : Value → Mem → Prop} {Kp : List PanicEntry → Mem → Prop} (h :
exB (Mem.ld M ⟨b0, (o0 + 4), none⟩) fun t1 =>
bsp t1
 (K (.tuple #[(.slice none 0 0), (.slice none 0 0), (.int .i64 10)]) M)
 (exSl (Mem.ld M ⟨b0, (o0 + 3), none⟩) fun A2 k3 k4 =>
  exSl (Mem.ld M ⟨b0, (o0 + 2), none⟩) fun A5 k6 k7 =>
  stc M ⟨b0, (o0 + 4), none⟩ (.bool true) fun M8 =>
  stc M8 ⟨b0, (o0 + 3), none⟩ (.slice none 0 0) fun M9 =>
  stc M9 ⟨b0, (o0 + 2), none⟩ (.slice none 0 0) fun M10 =>
  K (.tuple #[(.slice A2 k3 k4), (.slice A5 k6 k7), (.int .i64 0)]) M10)) :
  ACalls Try.prog 78 ([.pointer (some ⟨b0, o0, none⟩)] : List Value).toArray M K Kp :=
  acalls_vc (C := Cx) good [(3, .reg [0, 1, 3, 7, 0, 16, 48, 112, 15, 511] (.step 0 (.step 1 (.step 2 (.step 4 (.step 5 (.step 6 (.step 3 (.step 8 (.step 7 (.step 9 .done)))))))))))] Try.func78 (by kernel_rfl) (by kernel_rfl) h

theorem vc_chans_Chan_CanRecv {b0 o0 : Nat} {M : Mem} {K : Value → Mem → Prop} {Kp : List PanicEntry → Mem → Prop} (h :
exB (Mem.ld M ⟨b0, (o0 + 4), none⟩) fun t1 =>
bsp t1
 (K (.bool true) M)
 (exSl (Mem.ld M ⟨b0, (o0 + 2), none⟩) fun A2 k3 k4 =>
  bsp (decide ((((k3 : Nat) : Int) : Int) > 0))
   (K (.bool true) M)
   (exSl (Mem.ld M ⟨b0, (o0 + 1), none⟩) fun A5 k6 k7 =>
    K (.bool (decide ((((k6 : Nat) : Int) : Int) > 0))) M))) :
  ACalls Try.prog 84 ([.pointer (some ⟨b0, o0, none⟩)] : List Value).toArray M K Kp :=
  acalls_vc (C := Cx) good [] Try.func84 (by kernel_rfl) (by kernel_rfl) h

theorem vc_chans_Chan_CanSend {b0 o0 : Nat} {M : Mem} {K : Value → Mem → Prop} {Kp : List PanicEntry → Mem → Prop} (h :
exB (Mem.ld M ⟨b0, (o0 + 4), none⟩) fun t1 =>
bsp t1
 (K (.bool true) M)
 (exSl (Mem.ld M ⟨b0, (o0 + 3), none⟩) fun A2 k3 k4 =>
  bsp (decide ((((k3 : Nat) : Int) : Int) > 0))
   (K (.bool true) M)
   (exSl (Mem.ld M ⟨b0, (o0 + 1), none⟩) fun A5 k6 k7 =>
    exI (Mem.ld M ⟨b0, o0, none⟩) .i64 fun n8 =>
    K (.bool (decide ((((k6 : Nat) : Int) : Int) < n8))) M))) :
  ACalls Try.prog 85 ([.pointer (some ⟨b0, o0, none⟩)] : List Value).toArray M K Kp :=
  acalls_vc (C := Cx) good [(1, .reg [0, 1, 3, 7, 15, 31, 63, 127, 255, 511, 1023, 2047, 4095, 8191, 16383, 32767, 65535, 131071, 8191, 270335, 794623, 1843199, 4194303, 8388607, 16777215] (.step 0 (.step 1 (.step 2 (.step 3 (.step 4 (.step 5 (.step 6 (.step 7 (.step 8 (.step 9 (.step 10 (.step 11 (.step 12 (.step 13 (.step 14 (.step 15 (.step 18 (.step 19 (.step 20 (.step 16 (.step 17 (.step 21 (.step 22 (.step 23 (.step 24 .done))))))))))))))))))))))))))] Try.func85 (by kernel_rfl) (by kernel_rfl) h

theorem vc_chans_first {B0 : Option Addr} {m0 c0 : Nat} {M : Mem} {K : Value → Mem → Prop} {Kp : List PanicEntry → Mem → Prop} (h :
nwc M (.cells #[(.int .i64 0), (.int .i64 0), (.int .i64 0)] 120 (0, 0)) fun k1 M2 =>
((0 : Int) ≤ 0) ∧
((0 : Int) < ((m0 : Nat) : Int)) ∧
nilc B0 fun k3 k4 =>
((0 : Int) ≤ ((c0 : Nat) : Int)) ∧
((((c0 : Nat) : Int) : Int) ≤ ((c0 : Nat) : Int)) ∧
((0 : Int) ≤ ((m0 : Nat) : Int)) ∧
((((m0 : Nat) : Int) : Int) ≤ ((c0 : Nat) : Int)) ∧
((0 : Int) ≤ 1) ∧
((1 : Int) ≤ ((m0 : Nat) : Int)) ∧
exI (Mem.ld M2 ⟨k3, (k4 + 0), none⟩) .i64 fun n5 =>
exI (Mem.ld M2 ⟨k3, ((k4 + 0) + 1), none⟩) .i64 fun n6 =>
exI (Mem.ld M2 ⟨k3, ((k4 + 0) + 2), none⟩) .i64 fun n7 =>
nwc M2 (.cells #[] 120 (0, 0)) fun k8 M9 =>
semK Try.prog (Go.Builtin.append_ #[47, 47] 47 #[(.slice (some ⟨k8, 0, none⟩) 0 0), (.slice (slA B0 1 (Int.toNat ((c0 : Nat) : Int)) 3) ((Int.toNat ((m0 : Nat) : Int)) - 1) ((Int.toNat ((c0 : Nat) : Int)) - 1))]) M9 (fun v10 M11 =>
exSl (some v10) fun A12 k13 k14 =>
((Mem.lds M11 ⟨k3, (k4 + 0), none⟩ 0 3) = some [(.int .i64 n5), (.int .i64 n6), (.int .i64 n7)]) ∧
stc M11 ⟨k1, 0, none⟩ (.int .i64 n5) fun M15 =>
stc M15 ⟨k1, (0 + 1), none⟩ (.int .i64 n6) fun M16 =>
stc M16 ⟨k1, (0 + 2), none⟩ (.int .i64 n7) fun M17 =>
((Mem.lds M17 ⟨k3, (k4 + 0), none⟩ 0 3) = some [(.int .i64 n5), (.int .i64 n6), (.int .i64 n7)]) ∧
exI (Mem.ld M17 ⟨k1, 0, none⟩) .i64 fun n18 =>
exI (Mem.ld M17 ⟨k1, (0 + 1), none⟩) .i64 fun n19 =>
exI (Mem.ld M17 ⟨k1, (0 + 2), none⟩) .i64 fun n20 =>
K (.tuple #[(.agg #[(.int .i64 n18), (.int .i64 n19), (.int .i64 n20)]), (.slice A12 k13 k14)]) M17) Kp) :
  ACalls Try.prog 86 ([.slice B0 m0 c0] : List Value).toArray M K Kp :=
  acalls_vc (C := Cx) good [(1, .reg [0, 1, 3, 0, 0, 16, 56, 127, 255] (.step 0 (.step 1 (.step 4 (.step 5 (.prom 2 (.step 3 (.step 6 (.step 7 (.step 8 .done))))))))))] Try.func86 (by kernel_rfl) (by kernel_rfl) h

theorem vc_chans_Chan_Drop {b0 o0 : Nat} {x1 : Int} {M : Mem} {K : Value → Mem → Prop} {Kp : List PanicEntry → Mem → Prop} (h :
exSl (Mem.ld M ⟨b0, (o0 + 2), none⟩) fun A1 k2 k3 =>
(ACalls Try.prog 90 #[(.slice A1 k2 k3), (.int .i64 x1)] M (fun v4 M5 =>
 exSl (some v4) fun A6 k7 k8 =>
 exSl (Mem.ld M5 ⟨b0, (o0 + 3), none⟩) fun A9 k10 k11 =>
 ACalls Try.prog 90 #[(.slice A9 k10 k11), (.int .i64 x1)] M5 (fun v12 M13 =>
 exSl (some v12) fun A14 k15 k16 =>
 stc M13 ⟨b0, (o0 + 2), none⟩ (.slice A6 k7 k8) fun M17 =>
 stc M17 ⟨b0, (o0 + 3), none⟩ (.slice A14 k15 k16) fun M18 =>
 K (.tuple #[]) M18) Kp) Kp) ∧
(exSl (Mem.ld M ⟨b0, (o0 + 3), none⟩) fun A19 k20 k21 =>
 ACalls Try.prog 90 #[(.slice A1 k2 k3), (.int .i64 x1)] M (fun v22 M23 =>
 exSl (some v22) fun A24 k25 k26 =>
 ACalls Try.prog 90 #[(.slice A19 k20 k21), (.int .i64 x1)] M23 (fun v27 M28 =>
 exSl (some v27) fun A29 k30 k31 =>
 stc M28 ⟨b0, (o0 + 2), none⟩ (.slice A24 k25 k26) fun M32 =>
 stc M32 ⟨b0, (o0 + 3), none⟩ (.slice A29 k30 k31) fun M33 =>
 K (.tuple #[]) M33) Kp) Kp) ∧
True) :
  ACalls Try.prog 89 ([.pointer (some ⟨b0, o0, none⟩), .int .i64 x1] : List Value).toArray M K Kp :=
  acalls_vc (C := Cx) good [(0, .reg [0, 0, 0, 4, 12, 28, 0, 124, 0, 256, 768, 1792, 0, 8188, 16381, 32765, 65533, 131071, 262143, 524287] (.step 0 (.step 1 (.step 2 (.step 3 (.step 4 (.step 6 (.step 8 (.step 9 (.step 10 (.step 12 (.step 5 (.fork 7 (.step 11 (.step 13 (.step 14 (.step 15 (.step 16 (.step 17 (.step 18 (.step 19 .done)))))))) (.fork 11 (.step 7 (.step 13 (.step 14 (.step 15 (.step 16 (.step 17 (.step 18 (.step 19 .done)))))))) .dead))))))))))))))] Try.func89 (by kernel_rfl) (by kernel_rfl) h

theorem vc_chans_without {B0 : Option Addr} {m0 c0 : Nat} {x1 : Int} {M : Mem} {K : Value → Mem → Prop} {Kp : List PanicEntry → Mem → Prop} (h :
∃ I1 : Nat → List Value → Mem → Prop, (∃ k2 : Nat, I1 k2 [(.slice none 0 0), (.int .i64 0)] M) ∧
∀ k3 : Nat, ∀ junk4 : Nat → Value, ∀ A5 : Option Addr, ∀ k6 : Nat, ∀ k7 : Nat, ∀ n8 : Int, ∀ M9 : Mem, (I1 k3 [(.slice A5 k6 k7), (.int .i64 n8)] M9) → bsp (decide ((n8 : Int) < ((m0 : Nat) : Int)))
 (((0 : Int) ≤ n8) ∧
  ((n8 : Int) < ((m0 : Nat) : Int)) ∧
  nilc B0 fun k10 k11 =>
  exI (Mem.ld M9 ⟨k10, (k11 + ((Int.toNat n8) * 3)), none⟩) .i64 fun n12 =>
  exI (Mem.ld M9 ⟨k10, ((k11 + ((Int.toNat n8) * 3)) + 1), none⟩) .i64 fun n13 =>
  exI (Mem.ld M9 ⟨k10, ((k11 + ((Int.toNat n8) * 3)) + 2), none⟩) .i64 fun n14 =>
  nwc M9 (.cells #[(.int .i64 0), (.int .i64 0), (.int .i64 0)] 120 (0, 0)) fun k15 M16 =>
  stc M16 ⟨k15, 0, none⟩ (.int .i64 n12) fun M17 =>
  stc M17 ⟨k15, (0 + 1), none⟩ (.int .i64 n13) fun M18 =>
  stc M18 ⟨k15, (0 + 2), none⟩ (.int .i64 n14) fun M19 =>
  exI (Mem.ld M19 ⟨k15, 0, none⟩) .i64 fun n20 =>
  bsp (n20 != x1)
   (exI (Mem.ld M19 ⟨k15, 0, none⟩) .i64 fun n21 =>
    exI (Mem.ld M19 ⟨k15, (0 + 1), none⟩) .i64 fun n22 =>
    exI (Mem.ld M19 ⟨k15, (0 + 2), none⟩) .i64 fun n23 =>
    nwc M19 (.cells #[(.int .i64 n21), (.int .i64 n22), (.int .i64 n23)] 120 (0, 0)) fun k24 M25 =>
    semK Try.prog (Go.Builtin.append_ #[47, 47] 47 #[(.slice A5 k6 k7), (.slice (some ⟨k24, 0, none⟩) 1 1)]) M25 (fun v26 M27 =>
    exSl (some v26) fun A28 k29 k30 =>
    ∃ k31 : Nat, (k31 < k3) ∧
    I1 k31 [(.slice A28 k29 k30), (.int .i64 (IntKind.wrap .i64 (n8 + 1)))] M27) Kp)
   (∃ k32 : Nat, (k32 < k3) ∧
    I1 k32 [(.slice A5 k6 k7), (.int .i64 (IntKind.wrap .i64 (n8 + 1)))] M19))
 (K (.slice A5 k6 k7) M9)) :
  ACalls Try.prog 90 ([.slice B0 m0 c0, .int .i64 x1] : List Value).toArray M K Kp :=
  acalls_vc (C := Cx) good [(2000000, .loop [(5, .c .sl), (10, .c (.int .i64))])] Try.func90 (by kernel_rfl) (by kernel_rfl) h

end Go.Proofs
