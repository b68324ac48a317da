/- A part of proofs about functions of one program: a condition over a partial memory that is enough for a call, and what calls answer by it. No condition of its own. -/
import Derived.Test.YtfjgcljdnhkmaaaCx
namespace Go.Proofs
open Go.AF
set_option linter.unusedVariables false
set_option maxRecDepth 100000
theorem vc_shunterlaw16_WorldSelects_1 {x0 : Int} {x1 : Int} {b2 o2 : Nat} {b3 o3 : Nat} {M : Mem} {K : Value → Mem → Prop} {Kp : List PanicEntry → Mem → Prop} (h :
stc M ⟨b2, o2, none⟩ (.int .i64 x1) fun M1 =>
exI (Mem.ld M1 ⟨b3, o3, none⟩) .i64 fun n2 =>
((x1 : Int) ≠ 0) ∧
K (.int .i64 (Int.tmod n2 x1)) M1) :
  ACalls Try.prog 8 ([.int .i64 x0, .int .i64 x1, .pointer (some ⟨b2, o2, none⟩), .pointer (some ⟨b3, o3, none⟩)] : List Value).toArray M K Kp :=
  acalls_vc (C := Cx) good [] Try.func8 (by kernel_rfl) (by kernel_rfl) h

theorem vc_world_World_Stack {b0 o0 : Nat} {x1 : Int} {M : Mem} {K : Value → Mem → Prop} {Kp : List PanicEntry → Mem → Prop} (h :
bsp (decide ((x1 : Int) < 0))
 (K (.slice none 0 0) M)
 (exSl (Mem.ld M ⟨b0, (o0 + 4), none⟩) fun A1 k2 k3 =>
  bsp (decide ((x1 : Int) ≥ ((k2 : Nat) : Int)))
   (K (.slice none 0 0) M)
   (exSl (Mem.ld M ⟨b0, (o0 + 4), none⟩) fun A4 k5 k6 =>
    ((0 : Int) ≤ x1) ∧
    ((x1 : Int) < ((k5 : Nat) : Int)) ∧
    nilc A4 fun k7 k8 =>
    exP (Mem.ld M ⟨k7, (k8 + (Int.toNat x1)), none⟩) fun A9 =>
    nilc A9 fun k10 k11 =>
    exSl (Mem.ld M ⟨k10, (k11 + 1), none⟩) fun A12 k13 k14 =>
    ACalls Try.prog 26 #[(.slice A12 k13 k14)] M (fun v15 M16 =>
    exSl (some v15) fun A17 k18 k19 =>
    K (.slice A17 k18 k19) M16) Kp))) :
  ACalls Try.prog 10 ([.pointer (some ⟨b0, o0, none⟩), .int .i64 x1] : List Value).toArray M K Kp :=
  acalls_vc (C := Cx) good [] Try.func10 (by kernel_rfl) (by kernel_rfl) h

theorem vc_frame_Stack_Top {B0 : Option Addr} {m0 c0 : Nat} {M : Mem} {K : Value → Mem → Prop} {Kp : List PanicEntry → Mem → Prop} (h :
bsp (((m0 : Nat) : Int) == 0)
 (K (.pointer none) M)
 (((0 : Int) ≤ (IntKind.wrap .i64 (((m0 : Nat) : Int) - 1))) ∧
  (((IntKind.wrap .i64 (((m0 : Nat) : Int) - 1)) : Int) < ((m0 : Nat) : Int)) ∧
  nilc B0 fun k1 k2 =>
  K (.pointer (some ⟨k1, (k2 + ((Int.toNat (IntKind.wrap .i64 (((m0 : Nat) : Int) - 1))) * 11)), none⟩)) M)) :
  ACalls Try.prog 11 ([.slice B0 m0 c0] : List Value).toArray M K Kp :=
  acalls_vc (C := Cx) good [] Try.func11 (by kernel_rfl) (by kernel_rfl) h

theorem vc_world_World_Chan {b0 o0 : Nat} {x1 : Int} {M : Mem} {K : Value → Mem → Prop} {Kp : List PanicEntry → Mem → Prop} (h :
nwc M (.cells #[(.slice none 0 0), (.slice none 0 0), (.slice none 0 0), (.bool false)] 49 (0, 0)) fun k1 M2 =>
bsp (decide ((x1 : Int) < 0))
 (stc M2 ⟨k1, 0, none⟩ (.slice none 0 0) fun M3 =>
  stc M3 ⟨k1, (0 + 1), none⟩ (.slice none 0 0) fun M4 =>
  stc M4 ⟨k1, (0 + 2), none⟩ (.slice none 0 0) fun M5 =>
  stc M5 ⟨k1, (0 + 3), none⟩ (.bool false) fun M6 =>
  exSl (Mem.ld M6 ⟨k1, 0, none⟩) fun A7 k8 k9 =>
  exSl (Mem.ld M6 ⟨k1, (0 + 1), none⟩) fun A10 k11 k12 =>
  exSl (Mem.ld M6 ⟨k1, (0 + 2), none⟩) fun A13 k14 k15 =>
  exB (Mem.ld M6 ⟨k1, (0 + 3), none⟩) fun t16 =>
  K (.agg #[(.slice A7 k8 k9), (.slice A10 k11 k12), (.slice A13 k14 k15), (.bool t16)]) M6)
 (exSl (Mem.ld M2 ⟨b0, (o0 + 6), none⟩) fun A17 k18 k19 =>
  bsp (decide ((x1 : Int) ≥ ((k18 : Nat) : Int)))
   (stc M2 ⟨k1, 0, none⟩ (.slice none 0 0) fun M20 =>
    stc M20 ⟨k1, (0 + 1), none⟩ (.slice none 0 0) fun M21 =>
    stc M21 ⟨k1, (0 + 2), none⟩ (.slice none 0 0) fun M22 =>
    stc M22 ⟨k1, (0 + 3), none⟩ (.bool false) fun M23 =>
    exSl (Mem.ld M23 ⟨k1, 0, none⟩) fun A24 k25 k26 =>
    exSl (Mem.ld M23 ⟨k1, (0 + 1), none⟩) fun A27 k28 k29 =>
    exSl (Mem.ld M23 ⟨k1, (0 + 2), none⟩) fun A30 k31 k32 =>
    exB (Mem.ld M23 ⟨k1, (0 + 3), none⟩) fun t33 =>
    K (.agg #[(.slice A24 k25 k26), (.slice A27 k28 k29), (.slice A30 k31 k32), (.bool t33)]) M23)
   (exSl (Mem.ld M2 ⟨b0, (o0 + 6), none⟩) fun A34 k35 k36 =>
    ((0 : Int) ≤ x1) ∧
    ((x1 : Int) < ((k35 : Nat) : Int)) ∧
    nilc A34 fun k37 k38 =>
    exP (Mem.ld M2 ⟨k37, (k38 + (Int.toNat x1)), none⟩) fun A39 =>
    ACalls Try.prog 27 #[(.pointer A39)] M2 (fun v40 M41 =>
    ∃ A42 : Option Addr, ∃ k43 : Nat, ∃ k44 : Nat, ∃ A45 : Option Addr, ∃ k46 : Nat, ∃ k47 : Nat, ∃ A48 : Option Addr, ∃ k49 : Nat, ∃ k50 : Nat, ∃ t51 : Bool, (v40 = (.agg #[(.slice A42 k43 k44), (.slice A45 k46 k47), (.slice A48 k49 k50), (.bool t51)])) ∧
    stc M41 ⟨k1, 0, none⟩ (.slice A42 k43 k44) fun M52 =>
    stc M52 ⟨k1, (0 + 1), none⟩ (.slice A45 k46 k47) fun M53 =>
    stc M53 ⟨k1, (0 + 2), none⟩ (.slice A48 k49 k50) fun M54 =>
    stc M54 ⟨k1, (0 + 3), none⟩ (.bool t51) fun M55 =>
    exSl (Mem.ld M55 ⟨k1, 0, none⟩) fun A56 k57 k58 =>
    exSl (Mem.ld M55 ⟨k1, (0 + 1), none⟩) fun A59 k60 k61 =>
    exSl (Mem.ld M55 ⟨k1, (0 + 2), none⟩) fun A62 k63 k64 =>
    exB (Mem.ld M55 ⟨k1, (0 + 3), none⟩) fun t65 =>
    K (.agg #[(.slice A56 k57 k58), (.slice A59 k60 k61), (.slice A62 k63 k64), (.bool t65)]) M55) Kp))) :
  ACalls Try.prog 12 ([.pointer (some ⟨b0, o0, none⟩), .int .i64 x1] : List Value).toArray M K Kp :=
  acalls_vc (C := Cx) good [] Try.func12 (by kernel_rfl) (by kernel_rfl) h

theorem vc_world_World_Status {b0 o0 : Nat} {x1 : Int} {M : Mem} {K : Value → Mem → Prop} {Kp : List PanicEntry → Mem → Prop} (h :
bsp (decide ((x1 : Int) < 0))
 (K (.int .i64 0) M)
 (exSl (Mem.ld M ⟨b0, (o0 + 4), none⟩) fun A1 k2 k3 =>
  bsp (decide ((x1 : Int) ≥ ((k2 : Nat) : Int)))
   (K (.int .i64 0) M)
   (exSl (Mem.ld M ⟨b0, (o0 + 4), none⟩) fun A4 k5 k6 =>
    ((0 : Int) ≤ x1) ∧
    ((x1 : Int) < ((k5 : Nat) : Int)) ∧
    nilc A4 fun k7 k8 =>
    exP (Mem.ld M ⟨k7, (k8 + (Int.toNat x1)), none⟩) fun A9 =>
    nilc A9 fun k10 k11 =>
    exI (Mem.ld M ⟨k10, k11, none⟩) .i64 fun n12 =>
    K (.int .i64 n12) M))) :
  ACalls Try.prog 13 ([.pointer (some ⟨b0, o0, none⟩), .int .i64 x1] : List Value).toArray M K Kp :=
  acalls_vc (C := Cx) good [] Try.func13 (by kernel_rfl) (by kernel_rfl) h

theorem vc_shunterlaw16_WorldCloses_1 {x0 : Int} {x1 : Int} {M : Mem} {K : Value → Mem → Prop} {Kp : List PanicEntry → Mem → Prop} (h :
K (.int .i64 0) M) :
  ACalls Try.prog 14 ([.int .i64 x0, .int .i64 x1] : List Value).toArray M K Kp :=
  acalls_vc (C := Cx) good [] Try.func14 (by kernel_rfl) (by kernel_rfl) h

theorem vc_world_World_Len {b0 o0 : Nat} {M : Mem} {K : Value → Mem → Prop} {Kp : List PanicEntry → Mem → Prop} (h :
exSl (Mem.ld M ⟨b0, (o0 + 4), none⟩) fun A1 k2 k3 =>
K (.int .i64 ((k2 : Nat) : Int)) M) :
  ACalls Try.prog 15 ([.pointer (some ⟨b0, o0, none⟩)] : List Value).toArray M K Kp :=
  acalls_vc (C := Cx) good [] Try.func15 (by kernel_rfl) (by kernel_rfl) h

theorem vc_world_World_End {b0 o0 : Nat} {M : Mem} {K : Value → Mem → Prop} {Kp : List PanicEntry → Mem → Prop} (h :
exI (Mem.ld M ⟨b0, (o0 + 11), none⟩) .i64 fun n1 =>
exI (Mem.ld M ⟨b0, (o0 + 12), none⟩) .i64 fun n2 =>
K (.tuple #[(.int .i64 n1), (.int .i64 n2)]) M) :
  ACalls Try.prog 16 ([.pointer (some ⟨b0, o0, none⟩)] : List Value).toArray M K Kp :=
  acalls_vc (C := Cx) good [(1, .reg [0, 1, 3, 7, 0, 16, 48, 112, 15, 511] (.step 0 (.step 1 (.step 2 (.step 4 (.step 5 (.step 6 (.step 3 (.step 8 (.step 7 (.step 9 .done)))))))))))] Try.func16 (by kernel_rfl) (by kernel_rfl) h

theorem vc_world_World_Tick {b0 o0 : Nat} {M : Mem} {K : Value → Mem → Prop} {Kp : List PanicEntry → Mem → Prop} (h :
exI (Mem.ld M ⟨b0, (o0 + 11), none⟩) .i64 fun n1 =>
bsp (n1 != 0)
 (K (.slice none 0 0) M)
 (exI (Mem.ld M ⟨b0, (o0 + 5), none⟩) .u64 fun n2 =>
  stc M ⟨b0, (o0 + 5), none⟩ (.int .u64 (IntKind.wrap .u64 (n2 + 1))) fun M3 =>
  stc M3 ⟨b0, (o0 + 13), none⟩ (.slice none 0 0) fun M4 =>
  exI (Mem.ld M4 ⟨b0, (o0 + 5), none⟩) .u64 fun n5 =>
  ACalls Try.prog 28 #[(.pointer (some ⟨b0, (o0 + 8), none⟩)), (.int .u64 n5)] M4 (fun v6 M7 =>
  exSl (some v6) fun A8 k9 k10 =>
  ∃ I11 : Nat → List Value → Mem → Prop, (∃ k12 : Nat, I11 k12 [(.int .i64 0)] M7) ∧
  ∀ k13 : Nat, ∀ junk14 : Nat → Value, ∀ n15 : Int, ∀ M16 : Mem, (I11 k13 [(.int .i64 n15)] M16) → bsp (decide ((n15 : Int) < ((k9 : Nat) : Int)))
   (((0 : Int) ≤ n15) ∧
    ((n15 : Int) < ((k9 : Nat) : Int)) ∧
    nilc A8 fun k17 k18 =>
    exI (Mem.ld M16 ⟨k17, (k18 + ((Int.toNat n15) * 3)), none⟩) .u64 fun n19 =>
    exI (Mem.ld M16 ⟨k17, ((k18 + ((Int.toNat n15) * 3)) + 1), none⟩) .u64 fun n20 =>
    exI (Mem.ld M16 ⟨k17, ((k18 + ((Int.toNat n15) * 3)) + 2), none⟩) .i64 fun n21 =>
    nwc M16 (.cells #[(.int .u64 0), (.int .u64 0), (.int .i64 0)] 86 (0, 0)) fun k22 M23 =>
    stc M23 ⟨k22, 0, none⟩ (.int .u64 n19) fun M24 =>
    stc M24 ⟨k22, (0 + 1), none⟩ (.int .u64 n20) fun M25 =>
    stc M25 ⟨k22, (0 + 2), none⟩ (.int .i64 n21) fun M26 =>
    exI (Mem.ld M26 ⟨k22, (0 + 2), none⟩) .i64 fun n27 =>
    ACalls Try.prog 29 #[(.pointer (some ⟨b0, o0, none⟩)), (.int .i64 n27)] M26 (fun v28 M29 =>
    (v28 = (.tuple #[])) ∧
    ∃ k30 : Nat, (k30 < k13) ∧
    I11 k30 [(.int .i64 (IntKind.wrap .i64 (n15 + 1)))] M29) Kp)
   (exSl (Mem.ld M16 ⟨b0, (o0 + 13), none⟩) fun A31 k32 k33 =>
    K (.slice A31 k32 k33) M16)) Kp)) :
  ACalls Try.prog 18 ([.pointer (some ⟨b0, o0, none⟩)] : List Value).toArray M K Kp :=
  acalls_vc (C := Cx) good [(5, .reg [0, 1, 3, 0, 8, 24, 56, 127, 255, 0] (.step 0 (.step 1 (.step 2 (.step 3 (.step 4 (.step 5 (.step 9 (.step 6 (.step 7 (.step 8 .done))))))))))), (2000000, .loop [(29, .c (.int .i64))])] Try.func18 (by kernel_rfl) (by kernel_rfl) h

theorem vc_world_World_Out {b0 o0 : Nat} {M : Mem} {K : Value → Mem → Prop} {Kp : List PanicEntry → Mem → Prop} (h :
nwc M (.cells #[] 2 (0, 0)) fun k1 M2 =>
exSl (Mem.ld M2 ⟨b0, (o0 + 10), none⟩) fun A3 k4 k5 =>
semK Try.prog (Go.Builtin.append_ #[46, 46] 46 #[(.slice (some ⟨k1, 0, none⟩) 0 0), (.slice A3 k4 k5)]) M2 (fun v6 M7 =>
exSl (some v6) fun A8 k9 k10 =>
K (.slice A8 k9 k10) M7) Kp) :
  ACalls Try.prog 19 ([.pointer (some ⟨b0, o0, none⟩)] : List Value).toArray M K Kp :=
  acalls_vc (C := Cx) good [] Try.func19 (by kernel_rfl) (by kernel_rfl) h

theorem vc_world_World_Sleepers {b0 o0 : Nat} {M : Mem} {K : Value → Mem → Prop} {Kp : List PanicEntry → Mem → Prop} (h :
ACalls Try.prog 30 #[(.pointer (some ⟨b0, (o0 + 8), none⟩))] M (fun v1 M2 =>
exSl (some v1) fun A3 k4 k5 =>
K (.slice A3 k4 k5) M2) Kp) :
  ACalls Try.prog 20 ([.pointer (some ⟨b0, o0, none⟩)] : List Value).toArray M K Kp :=
  acalls_vc (C := Cx) good [] Try.func20 (by kernel_rfl) (by kernel_rfl) h

theorem vc_shunterlaw16_awake_1 {x0 : Int} {x1 : Int} {M : Mem} {K : Value → Mem → Prop} {Kp : List PanicEntry → Mem → Prop} (h :
K (.int .i64 0) M) :
  ACalls Try.prog 21 ([.int .i64 x0, .int .i64 x1] : List Value).toArray M K Kp :=
  acalls_vc (C := Cx) good [] Try.func21 (by kernel_rfl) (by kernel_rfl) h

theorem vc_frame_Begin {x0 : Int} {x1 : Int} {M : Mem} {K : Value → Mem → Prop} {Kp : List PanicEntry → Mem → Prop} (h :
nwc M (.cells #[(.int .i64 x0), (.int .i64 0), (.int .i64 x1), (.int .i64 0), (.int .i64 0), (.int .i64 0), (.int .i64 0), (.int .i64 0), (.int .i64 0), (.int .i64 0), (.int .i64 0)] 53 (0, 0)) fun k1 M2 =>
K (.slice (some ⟨k1, 0, none⟩) 1 1) M2) :
  ACalls Try.prog 22 ([.int .i64 x0, .int .i64 x1] : List Value).toArray M K Kp :=
  acalls_vc (C := Cx) good [] Try.func22 (by kernel_rfl) (by kernel_rfl) h

theorem vc_locks_New  {M : Mem} {K : Value → Mem → Prop} {Kp : List PanicEntry → Mem → Prop} (h :
nwc M (.cells #[(.int .i64 (-1)), (.slice none 0 0)] 91 (0, 0)) fun k1 M2 =>
K (.pointer (some ⟨k1, 0, none⟩)) M2) :
  ACalls Try.prog 24 ([] : List Value).toArray M K Kp :=
  acalls_vc (C := Cx) good [] Try.func24 (by kernel_rfl) (by kernel_rfl) h

theorem vc_frame_Stack_Clone {B0 : Option Addr} {m0 c0 : Nat} {M : Mem} {K : Value → Mem → Prop} {Kp : List PanicEntry → Mem → Prop} (h :
semK Try.prog (Go.Builtin.append_ #[43, 43] 43 #[(.slice none 0 0), (.slice B0 m0 c0)]) M (fun v1 M2 =>
exSl (some v1) fun A3 k4 k5 =>
K (.slice A3 k4 k5) M2) Kp) :
  ACalls Try.prog 26 ([.slice B0 m0 c0] : List Value).toArray M K Kp :=
  acalls_vc (C := Cx) good [] Try.func26 (by kernel_rfl) (by kernel_rfl) h

theorem vc_heap_Heap_Wake {b0 o0 : Nat} {x1 : Int} {M : Mem} {K : Value → Mem → Prop} {Kp : List PanicEntry → Mem → Prop} (h :
∃ I1 : Nat → List Value → Mem → Prop, (∃ k2 : Nat, I1 k2 [(.slice none 0 0)] M) ∧
∀ k3 : Nat, ∀ junk4 : Nat → Value, ∀ A5 : Option Addr, ∀ k6 : Nat, ∀ k7 : Nat, ∀ M8 : Mem, (I1 k3 [(.slice A5 k6 k7)] M8) → exSl (Mem.ld M8 ⟨b0, o0, none⟩) fun A9 k10 k11 =>
bsp (decide ((((k10 : Nat) : Int) : Int) > 0))
 (exSl (Mem.ld M8 ⟨b0, o0, none⟩) fun A12 k13 k14 =>
  ((0 : Int) ≤ 0) ∧
  ((0 : Int) < ((k13 : Nat) : Int)) ∧
  nilc A12 fun k15 k16 =>
  exI (Mem.ld M8 ⟨k15, (k16 + 0), none⟩) .u64 fun n17 =>
  bsp (decide ((n17 : Int) ≤ x1))
   (ACalls Try.prog 36 #[(.pointer (some ⟨b0, o0, none⟩)), (.int .i64 0)] M8 (fun v18 M19 =>
    ∃ n20 : Int, ∃ n21 : Int, ∃ n22 : Int, (v18 = (.agg #[(.int .u64 n20), (.int .u64 n21), (.int .i64 n22)])) ∧
    nwc M19 (.cells #[(.int .u64 n20), (.int .u64 n21), (.int .i64 n22)] 86 (0, 0)) fun k23 M24 =>
    semK Try.prog (Go.Builtin.append_ #[62, 62] 62 #[(.slice A5 k6 k7), (.slice (some ⟨k23, 0, none⟩) 1 1)]) M24 (fun v25 M26 =>
    exSl (some v25) fun A27 k28 k29 =>
    ∃ k30 : Nat, (k30 < k3) ∧
    I1 k30 [(.slice A27 k28 k29)] M26) Kp) Kp)
   (K (.slice A5 k6 k7) M8))
 (K (.slice A5 k6 k7) M8)) :
  ACalls Try.prog 28 ([.pointer (some ⟨b0, o0, none⟩), .int .u64 x1] : List Value).toArray M K Kp :=
  acalls_vc (C := Cx) good [(2000000, .loop [(5, .c .sl)])] Try.func28 (by kernel_rfl) (by kernel_rfl) h

theorem vc_world_World_wake {b0 o0 : Nat} {x1 : Int} {M : Mem} {K : Value → Mem → Prop} {Kp : List PanicEntry → Mem → Prop} (h :
exSl (Mem.ld M ⟨b0, (o0 + 4), none⟩) fun A1 k2 k3 =>
((0 : Int) ≤ x1) ∧
((x1 : Int) < ((k2 : Nat) : Int)) ∧
nilc A1 fun k4 k5 =>
exP (Mem.ld M ⟨k4, (k5 + (Int.toNat x1)), none⟩) fun A6 =>
nilc A6 fun k7 k8 =>
stc M ⟨k7, k8, none⟩ (.int .i64 1) fun M9 =>
exSl (Mem.ld M9 ⟨b0, (o0 + 13), none⟩) fun A10 k11 k12 =>
nwc M9 (.cells #[(.int .i64 x1)] 3 (0, 0)) fun k13 M14 =>
semK Try.prog (Go.Builtin.append_ #[25, 25] 25 #[(.slice A10 k11 k12), (.slice (some ⟨k13, 0, none⟩) 1 1)]) M14 (fun v15 M16 =>
exSl (some v15) fun A17 k18 k19 =>
stc M16 ⟨b0, (o0 + 13), none⟩ (.slice A17 k18 k19) fun M20 =>
K (.tuple #[]) M20) Kp) :
  ACalls Try.prog 29 ([.pointer (some ⟨b0, o0, none⟩), .int .i64 x1] : List Value).toArray M K Kp :=
  acalls_vc (C := Cx) good [] Try.func29 (by kernel_rfl) (by kernel_rfl) h

theorem vc_heap_Heap_List {b0 o0 : Nat} {M : Mem} {K : Value → Mem → Prop} {Kp : List PanicEntry → Mem → Prop} (h :
nwc M (.cells #[] 86 (0, 0)) fun k1 M2 =>
exSl (Mem.ld M2 ⟨b0, o0, none⟩) fun A3 k4 k5 =>
semK Try.prog (Go.Builtin.append_ #[62, 62] 62 #[(.slice (some ⟨k1, 0, none⟩) 0 0), (.slice A3 k4 k5)]) M2 (fun v6 M7 =>
exSl (some v6) fun A8 k9 k10 =>
nwc M7 (.cells #[(.slice none 0 0), (.int .u64 0)] 74 (0, 0)) fun k11 M12 =>
stc M12 ⟨k11, 0, none⟩ (.slice A8 k9 k10) fun M13 =>
stc M13 ⟨k11, (0 + 1), none⟩ (.int .u64 0) fun M14 =>
∃ I15 : Nat → List Value → Mem → Prop, (∃ k16 : Nat, I15 k16 [(.slice none 0 0)] M14) ∧
∀ k17 : Nat, ∀ junk18 : Nat → Value, ∀ A19 : Option Addr, ∀ k20 : Nat, ∀ k21 : Nat, ∀ M22 : Mem, (I15 k17 [(.slice A19 k20 k21)] M22) → exSl (Mem.ld M22 ⟨k11, 0, none⟩) fun A23 k24 k25 =>
bsp (decide ((((k24 : Nat) : Int) : Int) > 0))
 (ACalls Try.prog 36 #[(.pointer (some ⟨k11, 0, none⟩)), (.int .i64 0)] M22 (fun v26 M27 =>
  ∃ n28 : Int, ∃ n29 : Int, ∃ n30 : Int, (v26 = (.agg #[(.int .u64 n28), (.int .u64 n29), (.int .i64 n30)])) ∧
  nwc M27 (.cells #[(.int .u64 n28), (.int .u64 n29), (.int .i64 n30)] 86 (0, 0)) fun k31 M32 =>
  semK Try.prog (Go.Builtin.append_ #[62, 62] 62 #[(.slice A19 k20 k21), (.slice (some ⟨k31, 0, none⟩) 1 1)]) M32 (fun v33 M34 =>
  exSl (some v33) fun A35 k36 k37 =>
  ∃ k38 : Nat, (k38 < k17) ∧
  I15 k38 [(.slice A35 k36 k37)] M34) Kp) Kp)
 (K (.slice A19 k20 k21) M22)) Kp) :
  ACalls Try.prog 30 ([.pointer (some ⟨b0, o0, none⟩)] : List Value).toArray M K Kp :=
  acalls_vc (C := Cx) good [(2000000, .loop [(4, .c .sl)])] Try.func30 (by kernel_rfl) (by kernel_rfl) h

theorem vc_frame_Frame_Pure {b0 o0 : Nat} {x1_0 : Int} {x1_1 : Int} {x1_2 : Int} {x1_3 : Int} {M : Mem} {K : Value → Mem → Prop} {Kp : List PanicEntry → Mem → Prop} (h :
nwc M (.cells #[(.int .i64 x1_0), (.int .i64 x1_1), (.int .i64 x1_2), (.int .i64 x1_3)] 31 (0, 0)) fun k1 M2 =>
exI (Mem.ld M2 ⟨k1, 0, none⟩) .i64 fun n3 =>
ACalls Try.prog 37 #[] M2 (fun v4 M5 =>
((Mem.ld M5 ⟨k1, 0, none⟩) = (some (.int .i64 n3))) ∧
semK Try.prog (Go.Instr.lookup 104 v4 (.int .i64 n3) true) M5 (fun v6 M7 =>
∃ v8 : Value, ∃ t9 : Bool, (v6 = (.tuple #[v8, (.bool t9)])) ∧
((Mem.ld M7 ⟨k1, 0, none⟩) = (some (.int .i64 n3))) ∧
bsp t9
 (exI (Mem.ld M7 ⟨b0, (o0 + 1), none⟩) .i64 fun n10 =>
  stc M7 ⟨b0, (o0 + 1), none⟩ (.int .i64 (IntKind.wrap .i64 (n10 + 1))) fun M11 =>
  exI (Mem.ld M11 ⟨k1, 0, none⟩) .i64 fun n12 =>
  exI (Mem.ld M11 ⟨k1, (0 + 1), none⟩) .i64 fun n13 =>
  exI (Mem.ld M11 ⟨k1, (0 + 2), none⟩) .i64 fun n14 =>
  exI (Mem.ld M11 ⟨k1, (0 + 3), none⟩) .i64 fun n15 =>
  callK Cx v8 [(.pointer (some ⟨b0, o0, none⟩)), (.agg #[(.int .i64 n12), (.int .i64 n13), (.int .i64 n14), (.int .i64 n15)])] M11 (fun v16 M17 =>
  (v16 = (.tuple #[])) ∧
  K (.bool t9) M17) Kp)
 (K (.bool t9) M7)) Kp) Kp) :
  ACalls Try.prog 32 ([.pointer (some ⟨b0, o0, none⟩), .agg #[.int .i64 x1_0, .int .i64 x1_1, .int .i64 x1_2, .int .i64 x1_3]] : List Value).toArray M K Kp :=
  acalls_vc (C := Cx) good [(1, .reg [0, 0, 2, 7, 15, 31, 31, 63, 255] (.step 1 (.prom 2 (.step 0 (.step 3 (.step 4 (.step 5 (.step 6 (.step 7 (.step 8 .done))))))))))] Try.func32 (by kernel_rfl) (by kernel_rfl) h

theorem vc_world_World_choose {b0 o0 : Nat} {x1 : Int} {b2 o2 : Nat} {x3_0 : Int} {x3_1 : Int} {x3_2 : Int} {x3_3 : Int} {M : Mem} {K : Value → Mem → Prop} {Kp : List PanicEntry → Mem → Prop} (h :
nwc M (.cells #[(.int .i64 x3_0), (.int .i64 x3_1), (.int .i64 x3_2), (.int .i64 x3_3)] 31 (0, 0)) fun k1 M2 =>
exI (Mem.ld M2 ⟨k1, 0, none⟩) .i64 fun n3 =>
exI (Mem.ld M2 ⟨k1, (0 + 1), none⟩) .i64 fun n4 =>
exI (Mem.ld M2 ⟨k1, (0 + 2), none⟩) .i64 fun n5 =>
exI (Mem.ld M2 ⟨k1, (0 + 3), none⟩) .i64 fun n6 =>
ACalls Try.prog 38 #[(.pointer (some ⟨b0, o0, none⟩)), (.agg #[(.int .i64 n3), (.int .i64 n4), (.int .i64 n5), (.int .i64 n6)])] M2 (fun v7 M8 =>
exSl (some v7) fun A9 k10 k11 =>
exSl (Mem.ld M8 ⟨b0, (o0 + 6), none⟩) fun A12 k13 k14 =>
ACalls Try.prog 39 #[(.slice A9 k10 k11), (.slice A12 k13 k14)] M8 (fun v15 M16 =>
exSl (some v15) fun A17 k18 k19 =>
bsp (((k18 : Nat) : Int) == 0)
 (exI (Mem.ld M16 ⟨b2, (o2 + 1), none⟩) .i64 fun n20 =>
  stc M16 ⟨b2, (o2 + 1), none⟩ (.int .i64 (IntKind.wrap .i64 (n20 + 1))) fun M21 =>
  ACalls Try.prog 40 #[(.slice A9 k10 k11)] M21 (fun v22 M23 =>
  ∃ n24 : Int, ∃ t25 : Bool, (v22 = (.tuple #[(.int .i64 n24), (.bool t25)])) ∧
  bsp t25
   (exI (Mem.ld M23 ⟨k1, (0 + 3), none⟩) .i64 fun n26 =>
    ((0 : Int) ≤ n26) ∧
    ((n26 : Int) < 8) ∧
    stc M23 ⟨b2, ((o2 + 2) + (Int.toNat n26)), none⟩ (.int .i64 n24) fun M27 =>
    K (.tuple #[]) M27)
   (((0 : Int) ≤ 8) ∧
    ((8 : Int) ≤ 8) ∧
    ((0 : Int) ≤ 8) ∧
    ((8 : Int) ≤ 8) ∧
    ((0 : Int) ≤ 0) ∧
    ((0 : Int) ≤ 8) ∧
    exSl (Mem.ld M23 ⟨b0, (o0 + 6), none⟩) fun A28 k29 k30 =>
    ACalls Try.prog 41 #[(.int .i64 x1), (.slice A9 k10 k11), (.slice (slA (some ⟨b2, (o2 + 2), none⟩) 0 8 1) 8 8), (.slice A28 k29 k30)] M23 (fun v31 M32 =>
    (v31 = (.tuple #[])) ∧
    exI (Mem.ld M32 ⟨k1, 0, none⟩) .i64 fun n33 =>
    exI (Mem.ld M32 ⟨k1, (0 + 1), none⟩) .i64 fun n34 =>
    exI (Mem.ld M32 ⟨k1, (0 + 2), none⟩) .i64 fun n35 =>
    exI (Mem.ld M32 ⟨k1, (0 + 3), none⟩) .i64 fun n36 =>
    ACalls Try.prog 42 #[(.pointer (some ⟨b0, o0, none⟩)), (.int .i64 x1), (.agg #[(.int .i64 n33), (.int .i64 n34), (.int .i64 n35), (.int .i64 n36)])] M32 (fun v37 M38 =>
    (v37 = (.tuple #[])) ∧
    K (.tuple #[]) M38) Kp) Kp)) Kp)
 (exV (Mem.ld M16 ⟨b0, (o0 + 14), none⟩) fun v39 =>
  callK Cx v39 [(.int .i64 3), (.int .i64 ((k18 : Nat) : Int))] M16 (fun v40 M41 =>
  exI (some v40) .i64 fun n42 =>
  ((0 : Int) ≤ n42) ∧
  ((n42 : Int) < ((k18 : Nat) : Int)) ∧
  nilc A17 fun k43 k44 =>
  exI (Mem.ld M41 ⟨k43, (k44 + (Int.toNat n42)), none⟩) .i64 fun n45 =>
  exI (Mem.ld M41 ⟨b2, (o2 + 1), none⟩) .i64 fun n46 =>
  stc M41 ⟨b2, (o2 + 1), none⟩ (.int .i64 (IntKind.wrap .i64 (n46 + 1))) fun M47 =>
  ((0 : Int) ≤ n45) ∧
  ((n45 : Int) < ((k10 : Nat) : Int)) ∧
  nilc A9 fun k48 k49 =>
  exI (Mem.ld M47 ⟨k48, (k49 + ((Int.toNat n45) * 3)), none⟩) .i64 fun n50 =>
  exI (Mem.ld M47 ⟨k48, ((k49 + ((Int.toNat n45) * 3)) + 1), none⟩) .i64 fun n51 =>
  exI (Mem.ld M47 ⟨k48, ((k49 + ((Int.toNat n45) * 3)) + 2), none⟩) .i64 fun n52 =>
  nwc M47 (.cells #[(.int .i64 0), (.int .i64 0), (.int .i64 0)] 34 (0, 0)) fun k53 M54 =>
  stc M54 ⟨k53, 0, none⟩ (.int .i64 n50) fun M55 =>
  stc M55 ⟨k53, (0 + 1), none⟩ (.int .i64 n51) fun M56 =>
  stc M56 ⟨k53, (0 + 2), none⟩ (.int .i64 n52) fun M57 =>
  exI (Mem.ld M57 ⟨k53, 0, none⟩) .i64 fun n58 =>
  bsp (n58 == 1)
   (exI (Mem.ld M57 ⟨k53, (0 + 1), none⟩) .i64 fun n59 =>
    exI (Mem.ld M57 ⟨k53, (0 + 2), none⟩) .i64 fun n60 =>
    ((0 : Int) ≤ n60) ∧
    ((n60 : Int) < 8) ∧
    exI (Mem.ld M57 ⟨b2, ((o2 + 2) + (Int.toNat n60)), none⟩) .i64 fun n61 =>
    ACalls Try.prog 43 #[(.pointer (some ⟨b0, o0, none⟩)), (.int .i64 n59), (.int .i64 n61)] M57 (fun v62 M63 =>
    exB (some v62) fun t64 =>
    exI (Mem.ld M63 ⟨k1, (0 + 3), none⟩) .i64 fun n65 =>
    ((0 : Int) ≤ n65) ∧
    ((n65 : Int) < 8) ∧
    stc M63 ⟨b2, ((o2 + 2) + (Int.toNat n65)), none⟩ (.int .i64 n45) fun M66 =>
    K (.tuple #[]) M66) Kp)
   (exI (Mem.ld M57 ⟨k53, (0 + 1), none⟩) .i64 fun n67 =>
    exI (Mem.ld M57 ⟨k53, (0 + 2), none⟩) .i64 fun n68 =>
    ACalls Try.prog 44 #[(.pointer (some ⟨b0, o0, none⟩)), (.int .i64 n67)] M57 (fun v69 M70 =>
    ∃ n71 : Int, ∃ n72 : Int, ∃ t73 : Bool, (v69 = (.tuple #[(.int .i64 n71), (.int .i64 n72), (.bool t73)])) ∧
    ((Mem.ld M70 ⟨k53, (0 + 2), none⟩) = (some (.int .i64 n68))) ∧
    ((0 : Int) ≤ n68) ∧
    ((n68 : Int) < 8) ∧
    stc M70 ⟨b2, ((o2 + 2) + (Int.toNat n68)), none⟩ (.int .i64 n71) fun M74 =>
    ((Mem.ld M74 ⟨k53, (0 + 2), none⟩) = (some (.int .i64 n68))) ∧
    exI (Mem.ld M74 ⟨k1, (0 + 3), none⟩) .i64 fun n75 =>
    ((0 : Int) ≤ n75) ∧
    ((n75 : Int) < 8) ∧
    stc M74 ⟨b2, ((o2 + 2) + (Int.toNat n75)), none⟩ (.int .i64 n45) fun M76 =>
    K (.tuple #[]) M76) Kp)) Kp)) Kp) Kp) :
  ACalls Try.prog 33 ([.pointer (some ⟨b0, o0, none⟩), .int .i64 x1, .pointer (some ⟨b2, o2, none⟩), .agg #[.int .i64 x3_0, .int .i64 x3_1, .int .i64 x3_2, .int .i64 x3_3]] : List Value).toArray M K Kp :=
  acalls_vc (C := Cx) good [(7, .reg [0, 0, 2, 0, 1, 17, 63, 127] (.step 0 (.step 1 (.step 3 (.step 4 (.step 5 (.step 2 (.step 6 (.step 7 .done))))))))), (8, .reg [0, 0, 0, 4, 12, 28, 0, 64, 192, 448, 1023] (.step 0 (.step 1 (.step 2 (.step 3 (.step 4 (.step 5 (.step 6 (.step 7 (.step 8 (.step 9 (.step 10 .done)))))))))))), (14, .reg [0, 0, 2, 0, 0, 16, 8, 72, 248, 504, 1023] (.step 0 (.step 1 (.step 3 (.step 4 (.step 6 (.step 7 (.step 2 (.step 5 (.step 8 (.step 9 (.step 10 .done)))))))))))), (15, .reg [0, 0, 2, 0, 0, 16, 56, 120, 248, 248, 248, 1, 2049, 6655, 14847] (.step 0 (.step 1 (.step 3 (.step 4 (.step 11 (.step 12 (.step 5 (.prom 2 (.step 6 (.step 7 (.step 8 (.step 9 (.step 10 (.step 13 (.step 14 .done)))))))))))))))), (16, .reg [0, 0, 2, 0, 1, 17, 63, 127] (.step 0 (.step 1 (.step 3 (.step 4 (.step 5 (.step 2 (.step 6 (.step 7 .done)))))))))] Try.func33 (by kernel_rfl) (by kernel_rfl) h

theorem vc_world_World_rand {b0 o0 : Nat} {x1 : Int} {b2 o2 : Nat} {x3_0 : Int} {x3_1 : Int} {x3_2 : Int} {x3_3 : Int} {M : Mem} {K : Value → Mem → Prop} {Kp : List PanicEntry → Mem → Prop} (h :
nwc M (.cells #[(.int .i64 x3_0), (.int .i64 x3_1), (.int .i64 x3_2), (.int .i64 x3_3)] 31 (0, 0)) fun k1 M2 =>
exV (Mem.ld M2 ⟨b0, (o0 + 14), none⟩) fun v3 =>
exI (Mem.ld M2 ⟨k1, (0 + 2), none⟩) .i64 fun n4 =>
callK Cx v3 [(.int .i64 4), (.int .i64 n4)] M2 (fun v5 M6 =>
exI (some v5) .i64 fun n7 =>
exI (Mem.ld M6 ⟨b2, (o2 + 1), none⟩) .i64 fun n8 =>
stc M6 ⟨b2, (o2 + 1), none⟩ (.int .i64 (IntKind.wrap .i64 (n8 + 1))) fun M9 =>
exI (Mem.ld M9 ⟨k1, (0 + 1), none⟩) .i64 fun n10 =>
((0 : Int) ≤ n10) ∧
((n10 : Int) < 8) ∧
stc M9 ⟨b2, ((o2 + 2) + (Int.toNat n10)), none⟩ (.int .i64 n7) fun M11 =>
K (.tuple #[]) M11) Kp) :
  ACalls Try.prog 34 ([.pointer (some ⟨b0, o0, none⟩), .int .i64 x1, .pointer (some ⟨b2, o2, none⟩), .agg #[.int .i64 x3_0, .int .i64 x3_1, .int .i64 x3_2, .int .i64 x3_3]] : List Value).toArray M K Kp :=
  acalls_vc (C := Cx) good [(1, .reg [0, 1, 3, 7, 0, 16, 63, 127] (.step 0 (.step 1 (.step 2 (.step 4 (.step 3 (.step 5 (.step 6 (.step 7 .done))))))))), (3, .reg [0, 0, 2, 0, 1, 17, 63, 127] (.step 0 (.step 1 (.step 3 (.step 4 (.step 5 (.step 2 (.step 6 (.step 7 .done)))))))))] Try.func34 (by kernel_rfl) (by kernel_rfl) h

theorem vc_world_table  {M : Mem} {K : Value → Mem → Prop} {Kp : List PanicEntry → Mem → Prop} (h :
nwc M (.map #[] 0) fun k1 M2 =>
semU Try.prog (Go.Instr.mapUpdate 97 (.map (some k1)) (.int .i64 9) (.func (.func 45) #[] #[])) M2 (fun M3 =>
semU Try.prog (Go.Instr.mapUpdate 97 (.map (some k1)) (.int .i64 10) (.func (.func 46) #[] #[])) M3 (fun M4 =>
semU Try.prog (Go.Instr.mapUpdate 97 (.map (some k1)) (.int .i64 11) (.func (.func 47) #[] #[])) M4 (fun M5 =>
semU Try.prog (Go.Instr.mapUpdate 97 (.map (some k1)) (.int .i64 12) (.func (.func 48) #[] #[])) M5 (fun M6 =>
semU Try.prog (Go.Instr.mapUpdate 97 (.map (some k1)) (.int .i64 13) (.func (.func 49) #[] #[])) M6 (fun M7 =>
semU Try.prog (Go.Instr.mapUpdate 97 (.map (some k1)) (.int .i64 14) (.func (.func 50) #[] #[])) M7 (fun M8 =>
semU Try.prog (Go.Instr.mapUpdate 97 (.map (some k1)) (.int .i64 15) (.func (.func 51) #[] #[])) M8 (fun M9 =>
semU Try.prog (Go.Instr.mapUpdate 97 (.map (some k1)) (.int .i64 17) (.func (.func 52) #[] #[])) M9 (fun M10 =>
semU Try.prog (Go.Instr.mapUpdate 97 (.map (some k1)) (.int .i64 18) (.func (.func 53) #[] #[])) M10 (fun M11 =>
semU Try.prog (Go.Instr.mapUpdate 97 (.map (some k1)) (.int .i64 19) (.func (.func 54) #[] #[])) M11 (fun M12 =>
semU Try.prog (Go.Instr.mapUpdate 97 (.map (some k1)) (.int .i64 20) (.func (.func 55) #[] #[])) M12 (fun M13 =>
semU Try.prog (Go.Instr.mapUpdate 97 (.map (some k1)) (.int .i64 22) (.func (.func 56) #[] #[])) M13 (fun M14 =>
K (.map (some k1)) M14) Kp) Kp) Kp) Kp) Kp) Kp) Kp) Kp) Kp) Kp) Kp) Kp) :
  ACalls Try.prog 35 ([] : List Value).toArray M K Kp :=
  acalls_vc (C := Cx) good [] Try.func35 (by kernel_rfl) (by kernel_rfl) h

theorem vc_heap_Heap_remove {b0 o0 : Nat} {x1 : Int} {M : Mem} {K : Value → Mem → Prop} {Kp : List PanicEntry → Mem → Prop} (h :
nwc M (.cells #[(.int .u64 0), (.int .u64 0), (.int .i64 0)] 86 (0, 0)) fun k1 M2 =>
exSl (Mem.ld M2 ⟨b0, o0, none⟩) fun A3 k4 k5 =>
((0 : Int) ≤ x1) ∧
((x1 : Int) < ((k4 : Nat) : Int)) ∧
nilc A3 fun k6 k7 =>
exI (Mem.ld M2 ⟨k6, (k7 + ((Int.toNat x1) * 3)), none⟩) .u64 fun n8 =>
exI (Mem.ld M2 ⟨k6, ((k7 + ((Int.toNat x1) * 3)) + 1), none⟩) .u64 fun n9 =>
exI (Mem.ld M2 ⟨k6, ((k7 + ((Int.toNat x1) * 3)) + 2), none⟩) .i64 fun n10 =>
nwc M2 (.cells #[(.int .u64 0), (.int .u64 0), (.int .i64 0)] 86 (0, 0)) fun k11 M12 =>
stc M12 ⟨k11, 0, none⟩ (.int .u64 n8) fun M13 =>
stc M13 ⟨k11, (0 + 1), none⟩ (.int .u64 n9) fun M14 =>
stc M14 ⟨k11, (0 + 2), none⟩ (.int .i64 n10) fun M15 =>
exSl (Mem.ld M15 ⟨b0, o0, none⟩) fun A16 k17 k18 =>
ACalls Try.prog 57 #[(.pointer (some ⟨b0, o0, none⟩)), (.int .i64 x1), (.int .i64 (IntKind.wrap .i64 (((k17 : Nat) : Int) - 1)))] M15 (fun v19 M20 =>
(v19 = (.tuple #[])) ∧
exSl (Mem.ld M20 ⟨b0, o0, none⟩) fun A21 k22 k23 =>
((0 : Int) ≤ ((k23 : Nat) : Int)) ∧
((((k23 : Nat) : Int) : Int) ≤ ((k23 : Nat) : Int)) ∧
((0 : Int) ≤ (IntKind.wrap .i64 (((k17 : Nat) : Int) - 1))) ∧
(((IntKind.wrap .i64 (((k17 : Nat) : Int) - 1)) : Int) ≤ ((k23 : Nat) : Int)) ∧
((0 : Int) ≤ 0) ∧
((0 : Int) ≤ (IntKind.wrap .i64 (((k17 : Nat) : Int) - 1))) ∧
stc M20 ⟨b0, o0, none⟩ (.slice (slA A21 0 (Int.toNat ((k23 : Nat) : Int)) 3) ((Int.toNat (IntKind.wrap .i64 (((k17 : Nat) : Int) - 1))) - 0) ((Int.toNat ((k23 : Nat) : Int)) - 0)) fun M24 =>
bsp (decide ((x1 : Int) < (IntKind.wrap .i64 (((k17 : Nat) : Int) - 1))))
 (ACalls Try.prog 58 #[(.pointer (some ⟨b0, o0, none⟩)), (.int .i64 x1)] M24 (fun v25 M26 =>
  (v25 = (.tuple #[])) ∧
  ACalls Try.prog 59 #[(.pointer (some ⟨b0, o0, none⟩)), (.int .i64 x1)] M26 (fun v27 M28 =>
  (v27 = (.tuple #[])) ∧
  exI (Mem.ld M28 ⟨k11, 0, none⟩) .u64 fun n29 =>
  exI (Mem.ld M28 ⟨k11, (0 + 1), none⟩) .u64 fun n30 =>
  exI (Mem.ld M28 ⟨k11, (0 + 2), none⟩) .i64 fun n31 =>
  stc M28 ⟨k1, 0, none⟩ (.int .u64 n29) fun M32 =>
  stc M32 ⟨k1, (0 + 1), none⟩ (.int .u64 n30) fun M33 =>
  stc M33 ⟨k1, (0 + 2), none⟩ (.int .i64 n31) fun M34 =>
  exI (Mem.ld M34 ⟨k1, 0, none⟩) .u64 fun n35 =>
  exI (Mem.ld M34 ⟨k1, (0 + 1), none⟩) .u64 fun n36 =>
  exI (Mem.ld M34 ⟨k1, (0 + 2), none⟩) .i64 fun n37 =>
  K (.agg #[(.int .u64 n35), (.int .u64 n36), (.int .i64 n37)]) M34) Kp) Kp)
 (exI (Mem.ld M24 ⟨k11, 0, none⟩) .u64 fun n38 =>
  exI (Mem.ld M24 ⟨k11, (0 + 1), none⟩) .u64 fun n39 =>
  exI (Mem.ld M24 ⟨k11, (0 + 2), none⟩) .i64 fun n40 =>
  stc M24 ⟨k1, 0, none⟩ (.int .u64 n38) fun M41 =>
  stc M41 ⟨k1, (0 + 1), none⟩ (.int .u64 n39) fun M42 =>
  stc M42 ⟨k1, (0 + 2), none⟩ (.int .i64 n40) fun M43 =>
  exI (Mem.ld M43 ⟨k1, 0, none⟩) .u64 fun n44 =>
  exI (Mem.ld M43 ⟨k1, (0 + 1), none⟩) .u64 fun n45 =>
  exI (Mem.ld M43 ⟨k1, (0 + 2), none⟩) .i64 fun n46 =>
  K (.agg #[(.int .u64 n44), (.int .u64 n45), (.int .i64 n46)]) M43)) Kp) :
  ACalls Try.prog 36 ([.pointer (some ⟨b0, o0, none⟩), .int .i64 x1] : List Value).toArray M K Kp :=
  acalls_vc (C := Cx) good [] Try.func36 (by kernel_rfl) (by kernel_rfl) h

theorem vc_frame_table  {M : Mem} {K : Value → Mem → Prop} {Kp : List PanicEntry → Mem → Prop} (h :
nwc M (.map #[] 0) fun k1 M2 =>
semU Try.prog (Go.Instr.mapUpdate 104 (.map (some k1)) (.int .i64 0) (.func (.func 60) #[] #[])) M2 (fun M3 =>
semU Try.prog (Go.Instr.mapUpdate 104 (.map (some k1)) (.int .i64 1) (.func (.func 61) #[] #[])) M3 (fun M4 =>
semU Try.prog (Go.Instr.mapUpdate 104 (.map (some k1)) (.int .i64 2) (.func (.func 62) #[] #[])) M4 (fun M5 =>
semU Try.prog (Go.Instr.mapUpdate 104 (.map (some k1)) (.int .i64 3) (.func (.func 63) #[] #[])) M5 (fun M6 =>
semU Try.prog (Go.Instr.mapUpdate 104 (.map (some k1)) (.int .i64 4) (.func (.func 64) #[] #[])) M6 (fun M7 =>
semU Try.prog (Go.Instr.mapUpdate 104 (.map (some k1)) (.int .i64 5) (.func (.func 65) #[] #[])) M7 (fun M8 =>
semU Try.prog (Go.Instr.mapUpdate 104 (.map (some k1)) (.int .i64 6) (.func (.func 66) #[] #[])) M8 (fun M9 =>
semU Try.prog (Go.Instr.mapUpdate 104 (.map (some k1)) (.int .i64 7) (.func (.func 67) #[] #[])) M9 (fun M10 =>
semU Try.prog (Go.Instr.mapUpdate 104 (.map (some k1)) (.int .i64 8) (.func (.func 68) #[] #[])) M10 (fun M11 =>
K (.map (some k1)) M11) Kp) Kp) Kp) Kp) Kp) Kp) Kp) Kp) Kp) :
  ACalls Try.prog 37 ([] : List Value).toArray M K Kp :=
  acalls_vc (C := Cx) good [] Try.func37 (by kernel_rfl) (by kernel_rfl) h

theorem vc_world_World_cases {b0 o0 : Nat} {x1_0 : Int} {x1_1 : Int} {x1_2 : Int} {x1_3 : Int} {M : Mem} {K : Value → Mem → Prop} {Kp : List PanicEntry → Mem → Prop} (h :
nwc M (.cells #[(.int .i64 x1_0), (.int .i64 x1_1), (.int .i64 x1_2), (.int .i64 x1_3)] 31 (0, 0)) fun k1 M2 =>
exSl (Mem.ld M2 ⟨b0, (o0 + 3), none⟩) fun A3 k4 k5 =>
exI (Mem.ld M2 ⟨k1, (0 + 1), none⟩) .i64 fun n6 =>
exI (Mem.ld M2 ⟨k1, (0 + 1), none⟩) .i64 fun n7 =>
exI (Mem.ld M2 ⟨k1, (0 + 2), none⟩) .i64 fun n8 =>
((0 : Int) ≤ ((k5 : Nat) : Int)) ∧
((((k5 : Nat) : Int) : Int) ≤ ((k5 : Nat) : Int)) ∧
((0 : Int) ≤ (IntKind.wrap .i64 (n7 + n8))) ∧
(((IntKind.wrap .i64 (n7 + n8)) : Int) ≤ ((k5 : Nat) : Int)) ∧
((0 : Int) ≤ n6) ∧
((n6 : Int) ≤ (IntKind.wrap .i64 (n7 + n8))) ∧
K (.slice (slA A3 (Int.toNat n6) (Int.toNat ((k5 : Nat) : Int)) 3) ((Int.toNat (IntKind.wrap .i64 (n7 + n8))) - (Int.toNat n6)) ((Int.toNat ((k5 : Nat) : Int)) - (Int.toNat n6))) M2) :
  ACalls Try.prog 38 ([.pointer (some ⟨b0, o0, none⟩), .agg #[.int .i64 x1_0, .int .i64 x1_1, .int .i64 x1_2, .int .i64 x1_3]] : List Value).toArray M K Kp :=
  acalls_vc (C := Cx) good [(1, .reg [0, 1, 3, 7, 15, 0, 32, 0, 128, 0, 512, 1920, 4095, 8191] (.step 0 (.step 1 (.step 2 (.step 3 (.step 5 (.step 7 (.step 9 (.step 4 (.step 6 (.step 8 (.step 10 (.step 11 (.step 12 (.step 13 .done)))))))))))))))] Try.func38 (by kernel_rfl) (by kernel_rfl) h

theorem vc_world_World_block {b0 o0 : Nat} {x1 : Int} {x2_0 : Int} {x2_1 : Int} {x2_2 : Int} {x2_3 : Int} {M : Mem} {K : Value → Mem → Prop} {Kp : List PanicEntry → Mem → Prop} (h :
nwc M (.cells #[(.int .i64 x2_0), (.int .i64 x2_1), (.int .i64 x2_2), (.int .i64 x2_3)] 31 (0, 0)) fun k1 M2 =>
exSl (Mem.ld M2 ⟨b0, (o0 + 4), none⟩) fun A3 k4 k5 =>
((0 : Int) ≤ x1) ∧
((x1 : Int) < ((k4 : Nat) : Int)) ∧
nilc A3 fun k6 k7 =>
exP (Mem.ld M2 ⟨k6, (k7 + (Int.toNat x1)), none⟩) fun A8 =>
exSl (Mem.ld M2 ⟨b0, (o0 + 4), none⟩) fun A9 k10 k11 =>
((0 : Int) ≤ x1) ∧
((x1 : Int) < ((k10 : Nat) : Int)) ∧
nilc A9 fun k12 k13 =>
exP (Mem.ld M2 ⟨k12, (k13 + (Int.toNat x1)), none⟩) fun A14 =>
nilc A8 fun k15 k16 =>
exI (Mem.ld M2 ⟨k1, 0, none⟩) .i64 fun n17 =>
exI (Mem.ld M2 ⟨k1, (0 + 1), none⟩) .i64 fun n18 =>
exI (Mem.ld M2 ⟨k1, (0 + 2), none⟩) .i64 fun n19 =>
exI (Mem.ld M2 ⟨k1, (0 + 3), none⟩) .i64 fun n20 =>
stc M2 ⟨k15, k16, none⟩ (.int .i64 2) fun M21 =>
((Mem.lds M21 ⟨k1, 0, none⟩ 0 4) = some [(.int .i64 n17), (.int .i64 n18), (.int .i64 n19), (.int .i64 n20)]) ∧
nilc A14 fun k22 k23 =>
stc M21 ⟨k22, (k23 + 2), none⟩ (.int .i64 n17) fun M24 =>
stc M24 ⟨k22, ((k23 + 2) + 1), none⟩ (.int .i64 n18) fun M25 =>
stc M25 ⟨k22, ((k23 + 2) + 2), none⟩ (.int .i64 n19) fun M26 =>
stc M26 ⟨k22, ((k23 + 2) + 3), none⟩ (.int .i64 n20) fun M27 =>
((Mem.lds M27 ⟨k1, 0, none⟩ 0 4) = some [(.int .i64 n17), (.int .i64 n18), (.int .i64 n19), (.int .i64 n20)]) ∧
K (.tuple #[]) M27) :
  ACalls Try.prog 42 ([.pointer (some ⟨b0, o0, none⟩), .int .i64 x1, .agg #[.int .i64 x2_0, .int .i64 x2_1, .int .i64 x2_2, .int .i64 x2_3]] : List Value).toArray M K Kp :=
  acalls_vc (C := Cx) good [(1, .reg [0, 1, 3, 7, 0, 31, 63, 0, 128, 384, 896, 0, 3968, 8064, 0, 16383, 49151, 114687, 262143, 524287, 1048575] (.step 0 (.step 1 (.step 2 (.step 4 (.step 7 (.step 8 (.step 9 (.step 11 (.step 3 (.step 5 (.step 6 (.step 10 (.step 12 (.step 13 (.step 15 (.step 16 (.prom 14 (.step 17 (.step 18 (.step 19 (.step 20 .done))))))))))))))))))))))] Try.func42 (by kernel_rfl) (by kernel_rfl) h

theorem vc_world_World_put {b0 o0 : Nat} {x1 : Int} {x2 : Int} {M : Mem} {K : Value → Mem → Prop} {Kp : List PanicEntry → Mem → Prop} (h :
exSl (Mem.ld M ⟨b0, (o0 + 6), none⟩) fun A1 k2 k3 =>
((0 : Int) ≤ x1) ∧
((x1 : Int) < ((k2 : Nat) : Int)) ∧
nilc A1 fun k4 k5 =>
exP (Mem.ld M ⟨k4, (k5 + (Int.toNat x1)), none⟩) fun A6 =>
ACalls Try.prog 72 #[(.pointer A6), (.int .i64 x2)] M (fun v7 M8 =>
∃ n9 : Int, ∃ n10 : Int, ∃ n11 : Int, ∃ t12 : Bool, ∃ n13 : Int, (v7 = (.tuple #[(.agg #[(.int .i64 n9), (.int .i64 n10), (.int .i64 n11)]), (.bool t12), (.int .i64 n13)])) ∧
nwc M8 (.cells #[(.int .i64 0), (.int .i64 0), (.int .i64 0)] 120 (0, 0)) fun k14 M15 =>
stc M15 ⟨k14, 0, none⟩ (.int .i64 n9) fun M16 =>
stc M16 ⟨k14, (0 + 1), none⟩ (.int .i64 n10) fun M17 =>
stc M17 ⟨k14, (0 + 2), none⟩ (.int .i64 n11) fun M18 =>
bsp (n13 == 10)
 (Kp [{ v := (.iface 92 (.int .i64 (-1))), recovered := false }] M18)
 (bsp t12
   (exI (Mem.ld M18 ⟨k14, 0, none⟩) .i64 fun n19 =>
    exI (Mem.ld M18 ⟨k14, (0 + 1), none⟩) .i64 fun n20 =>
    exI (Mem.ld M18 ⟨k14, (0 + 2), none⟩) .i64 fun n21 =>
    ACalls Try.prog 73 #[(.pointer (some ⟨b0, o0, none⟩)), (.agg #[(.int .i64 n19), (.int .i64 n20), (.int .i64 n21)]), (.int .i64 1)] M18 (fun v22 M23 =>
    (v22 = (.tuple #[])) ∧
    K (.bool (n13 == 0)) M23) Kp)
   (K (.bool (n13 == 0)) M18))) Kp) :
  ACalls Try.prog 43 ([.pointer (some ⟨b0, o0, none⟩), .int .i64 x1, .int .i64 x2] : List Value).toArray M K Kp :=
  acalls_vc (C := Cx) good [] Try.func43 (by kernel_rfl) (by kernel_rfl) h

theorem vc_world_World_get {b0 o0 : Nat} {x1 : Int} {M : Mem} {K : Value → Mem → Prop} {Kp : List PanicEntry → Mem → Prop} (h :
exSl (Mem.ld M ⟨b0, (o0 + 6), none⟩) fun A1 k2 k3 =>
((0 : Int) ≤ x1) ∧
((x1 : Int) < ((k2 : Nat) : Int)) ∧
nilc A1 fun k4 k5 =>
exP (Mem.ld M ⟨k4, (k5 + (Int.toNat x1)), none⟩) fun A6 =>
ACalls Try.prog 74 #[(.pointer A6)] M (fun v7 M8 =>
∃ n9 : Int, ∃ t10 : Bool, ∃ n11 : Int, ∃ n12 : Int, ∃ n13 : Int, ∃ t14 : Bool, ∃ n15 : Int, (v7 = (.tuple #[(.agg #[(.int .i64 n9), (.bool t10), (.int .i64 n11), (.int .i64 n12), (.int .i64 n13), (.bool t14)]), (.int .i64 n15)])) ∧
nwc M8 (.cells #[(.int .i64 0), (.bool false), (.int .i64 0), (.int .i64 0), (.int .i64 0), (.bool false)] 126 (0, 0)) fun k16 M17 =>
stc M17 ⟨k16, 0, none⟩ (.int .i64 n9) fun M18 =>
stc M18 ⟨k16, (0 + 1), none⟩ (.bool t10) fun M19 =>
stc M19 ⟨k16, (0 + 2), none⟩ (.int .i64 n11) fun M20 =>
stc M20 ⟨k16, (0 + 3), none⟩ (.int .i64 n12) fun M21 =>
stc M21 ⟨k16, (0 + 4), none⟩ (.int .i64 n13) fun M22 =>
stc M22 ⟨k16, (0 + 5), none⟩ (.bool t14) fun M23 =>
exB (Mem.ld M23 ⟨k16, (0 + 5), none⟩) fun t24 =>
bsp t24
 (exI (Mem.ld M23 ⟨k16, (0 + 2), none⟩) .i64 fun n25 =>
  exI (Mem.ld M23 ⟨k16, ((0 + 2) + 1), none⟩) .i64 fun n26 =>
  exI (Mem.ld M23 ⟨k16, ((0 + 2) + 2), none⟩) .i64 fun n27 =>
  ACalls Try.prog 75 #[(.pointer (some ⟨b0, o0, none⟩)), (.agg #[(.int .i64 n25), (.int .i64 n26), (.int .i64 n27)])] M23 (fun v28 M29 =>
  (v28 = (.tuple #[])) ∧
  exB (Mem.ld M29 ⟨k16, (0 + 1), none⟩) fun t30 =>
  bsp t30
   (exI (Mem.ld M29 ⟨k16, 0, none⟩) .i64 fun n31 =>
    K (.tuple #[(.int .i64 n31), (.int .i64 1), (.bool true)]) M29)
   (K (.tuple #[(.int .i64 0), (.int .i64 0), (.bool (n15 == 0))]) M29)) Kp)
 (exB (Mem.ld M23 ⟨k16, (0 + 1), none⟩) fun t32 =>
  bsp t32
   (exI (Mem.ld M23 ⟨k16, 0, none⟩) .i64 fun n33 =>
    K (.tuple #[(.int .i64 n33), (.int .i64 1), (.bool true)]) M23)
   (K (.tuple #[(.int .i64 0), (.int .i64 0), (.bool (n15 == 0))]) M23))) Kp) :
  ACalls Try.prog 44 ([.pointer (some ⟨b0, o0, none⟩), .int .i64 x1] : List Value).toArray M K Kp :=
  acalls_vc (C := Cx) good [] Try.func44 (by kernel_rfl) (by kernel_rfl) h

theorem vc_world_World_call {b0 o0 : Nat} {x1 : Int} {b2 o2 : Nat} {x3_0 : Int} {x3_1 : Int} {x3_2 : Int} {x3_3 : Int} {M : Mem} {K : Value → Mem → Prop} {Kp : List PanicEntry → Mem → Prop} (h :
nwc M (.cells #[(.int .i64 x3_0), (.int .i64 x3_1), (.int .i64 x3_2), (.int .i64 x3_3)] 31 (0, 0)) fun k1 M2 =>
exSl (Mem.ld M2 ⟨b0, (o0 + 4), none⟩) fun A3 k4 k5 =>
((0 : Int) ≤ x1) ∧
((x1 : Int) < ((k4 : Nat) : Int)) ∧
nilc A3 fun k6 k7 =>
exP (Mem.ld M2 ⟨k6, (k7 + (Int.toNat x1)), none⟩) fun A8 =>
nilc A8 fun k9 k10 =>
exSl (Mem.ld M2 ⟨k9, (k10 + 1), none⟩) fun A11 k12 k13 =>
exI (Mem.ld M2 ⟨k1, (0 + 1), none⟩) .i64 fun n14 =>
exI (Mem.ld M2 ⟨k1, (0 + 2), none⟩) .i64 fun n15 =>
((0 : Int) ≤ n15) ∧
((n15 : Int) < 8) ∧
exI (Mem.ld M2 ⟨b2, ((o2 + 2) + (Int.toNat n15)), none⟩) .i64 fun n16 =>
exI (Mem.ld M2 ⟨k1, (0 + 3), none⟩) .i64 fun n17 =>
ACalls Try.prog 76 #[(.slice A11 k12 k13), (.int .i64 n14), (.int .i64 n16), (.int .i64 n17)] M2 (fun v18 M19 =>
∃ A20 : Option Addr, ∃ k21 : Nat, ∃ k22 : Nat, ∃ t23 : Bool, (v18 = (.tuple #[(.slice A20 k21 k22), (.bool t23)])) ∧
bsp (!t23)
 (Kp [{ v := (.iface 92 (.int .i64 (-4))), recovered := false }] M19)
 (exSl (Mem.ld M19 ⟨b0, (o0 + 4), none⟩) fun A24 k25 k26 =>
  ((0 : Int) ≤ x1) ∧
  ((x1 : Int) < ((k25 : Nat) : Int)) ∧
  nilc A24 fun k27 k28 =>
  exP (Mem.ld M19 ⟨k27, (k28 + (Int.toNat x1)), none⟩) fun A29 =>
  nilc A29 fun k30 k31 =>
  stc M19 ⟨k30, (k31 + 1), none⟩ (.slice A20 k21 k22) fun M32 =>
  K (.tuple #[]) M32)) Kp) :
  ACalls Try.prog 45 ([.pointer (some ⟨b0, o0, none⟩), .int .i64 x1, .pointer (some ⟨b2, o2, none⟩), .agg #[.int .i64 x3_0, .int .i64 x3_1, .int .i64 x3_2, .int .i64 x3_3]] : List Value).toArray M K Kp :=
  acalls_vc (C := Cx) good [(1, .reg [0, 1, 3, 7, 0, 31, 63, 127, 255, 511, 0, 1024, 0, 0, 8192, 4096, 36864, 126976, 258048, 0, 524288, 2097151, 4194303, 8388607, 8388607, 16777215, 67108863] (.step 0 (.step 1 (.step 2 (.step 4 (.step 10 (.step 12 (.step 13 (.step 15 (.step 16 (.step 19 (.step 3 (.step 5 (.step 6 (.step 7 (.step 8 (.step 9 (.step 11 (.step 14 (.step 17 (.step 18 (.step 20 (.step 21 (.step 22 (.step 23 (.step 24 (.step 25 (.step 26 .done))))))))))))))))))))))))))))] Try.func45 (by kernel_rfl) (by kernel_rfl) h

theorem vc_world_World_back {b0 o0 : Nat} {x1 : Int} {b2 o2 : Nat} {x3_0 : Int} {x3_1 : Int} {x3_2 : Int} {x3_3 : Int} {M : Mem} {K : Value → Mem → Prop} {Kp : List PanicEntry → Mem → Prop} (h :
nwc M (.cells #[(.int .i64 x3_0), (.int .i64 x3_1), (.int .i64 x3_2), (.int .i64 x3_3)] 31 (0, 0)) fun k1 M2 =>
exSl (Mem.ld M2 ⟨b0, (o0 + 4), none⟩) fun A3 k4 k5 =>
((0 : Int) ≤ x1) ∧
((x1 : Int) < ((k4 : Nat) : Int)) ∧
nilc A3 fun k6 k7 =>
exP (Mem.ld M2 ⟨k6, (k7 + (Int.toNat x1)), none⟩) fun A8 =>
nilc A8 fun k9 k10 =>
exSl (Mem.ld M2 ⟨k9, (k10 + 1), none⟩) fun A11 k12 k13 =>
exI (Mem.ld M2 ⟨k1, (0 + 1), none⟩) .i64 fun n14 =>
((0 : Int) ≤ n14) ∧
((n14 : Int) < 8) ∧
exI (Mem.ld M2 ⟨b2, ((o2 + 2) + (Int.toNat n14)), none⟩) .i64 fun n15 =>
ACalls Try.prog 77 #[(.slice A11 k12 k13), (.int .i64 n15)] M2 (fun v16 M17 =>
∃ A18 : Option Addr, ∃ k19 : Nat, ∃ k20 : Nat, ∃ t21 : Bool, (v16 = (.tuple #[(.slice A18 k19 k20), (.bool t21)])) ∧
bsp t21
 (exSl (Mem.ld M17 ⟨b0, (o0 + 4), none⟩) fun A22 k23 k24 =>
  ((0 : Int) ≤ x1) ∧
  ((x1 : Int) < ((k23 : Nat) : Int)) ∧
  nilc A22 fun k25 k26 =>
  exP (Mem.ld M17 ⟨k25, (k26 + (Int.toNat x1)), none⟩) fun A27 =>
  nilc A27 fun k28 k29 =>
  stc M17 ⟨k28, (k29 + 1), none⟩ (.slice A18 k19 k20) fun M30 =>
  K (.tuple #[]) M30)
 (exSl (Mem.ld M17 ⟨b0, (o0 + 4), none⟩) fun A31 k32 k33 =>
  ((0 : Int) ≤ x1) ∧
  ((x1 : Int) < ((k32 : Nat) : Int)) ∧
  nilc A31 fun k34 k35 =>
  exP (Mem.ld M17 ⟨k34, (k35 + (Int.toNat x1)), none⟩) fun A36 =>
  nilc A36 fun k37 k38 =>
  stc M17 ⟨k37, k38, none⟩ (.int .i64 4) fun M39 =>
  bsp (x1 == 0)
   (stc M39 ⟨b0, (o0 + 11), none⟩ (.int .i64 1) fun M40 =>
    K (.tuple #[]) M40)
   (K (.tuple #[]) M39))) Kp) :
  ACalls Try.prog 46 ([.pointer (some ⟨b0, o0, none⟩), .int .i64 x1, .pointer (some ⟨b2, o2, none⟩), .agg #[.int .i64 x3_0, .int .i64 x3_1, .int .i64 x3_2, .int .i64 x3_3]] : List Value).toArray M K Kp :=
  acalls_vc (C := Cx) good [(1, .reg [0, 1, 3, 7, 0, 31, 63, 127, 255, 511, 0, 0, 2048, 1024, 9216, 31744, 64512, 131071, 262143, 524287, 524287, 1048575, 4194303] (.step 0 (.step 1 (.step 2 (.step 4 (.step 10 (.step 11 (.step 13 (.step 14 (.step 3 (.step 5 (.step 6 (.step 7 (.step 8 (.step 9 (.step 12 (.step 15 (.step 16 (.step 17 (.step 18 (.step 19 (.step 20 (.step 21 (.step 22 .done))))))))))))))))))))))))] Try.func46 (by kernel_rfl) (by kernel_rfl) h

theorem vc_world_World_spawn {b0 o0 : Nat} {x1 : Int} {b2 o2 : Nat} {x3_0 : Int} {x3_1 : Int} {x3_2 : Int} {x3_3 : Int} {M : Mem} {K : Value → Mem → Prop} {Kp : List PanicEntry → Mem → Prop} (h :
nwc M (.cells #[(.int .i64 x3_0), (.int .i64 x3_1), (.int .i64 x3_2), (.int .i64 x3_3)] 31 (0, 0)) fun k1 M2 =>
exSl (Mem.ld M2 ⟨b0, (o0 + 4), none⟩) fun A3 k4 k5 =>
bsp (decide ((((k4 : Nat) : Int) : Int) ≥ 100))
 (Kp [{ v := (.iface 92 (.int .i64 (-5))), recovered := false }] M2)
 (exSl (Mem.ld M2 ⟨b0, (o0 + 4), none⟩) fun A6 k7 k8 =>
  ∃ J9 : List Value → Mem → Prop, (exI (Mem.ld M2 ⟨k1, (0 + 1), none⟩) .i64 fun n10 =>
   exI (Mem.ld M2 ⟨k1, (0 + 2), none⟩) .i64 fun n11 =>
   ((0 : Int) ≤ n11) ∧
   ((n11 : Int) < 8) ∧
   exI (Mem.ld M2 ⟨b2, ((o2 + 2) + (Int.toNat n11)), none⟩) .i64 fun n12 =>
   (exSl (Mem.ld M2 ⟨b0, (o0 + 4), none⟩) fun A13 k14 k15 =>
    ACalls Try.prog 22 #[(.int .i64 n10), (.int .i64 n12)] M2 (fun v16 M17 =>
    exSl (some v16) fun A18 k19 k20 =>
    nwc M17 (.cells #[(.int .i64 0), (.slice A18 k19 k20), (.int .i64 0), (.int .i64 0), (.int .i64 0), (.int .i64 0)] 68 (0, 0)) fun k21 M22 =>
    nwc M22 (.cells #[(.pointer (some ⟨k21, 0, none⟩))] 65 (0, 0)) fun k23 M24 =>
    semK Try.prog (Go.Builtin.append_ #[69, 69] 69 #[(.slice A13 k14 k15), (.slice (some ⟨k23, 0, none⟩) 1 1)]) M24 (fun v25 M26 =>
    exSl (some v25) fun A27 k28 k29 =>
    stc M26 ⟨b0, (o0 + 4), none⟩ (.slice A27 k28 k29) fun M30 =>
    J9 [] M30) Kp) Kp) ∧
   (ACalls Try.prog 22 #[(.int .i64 n10), (.int .i64 n12)] M2 (fun v31 M32 =>
    exSl (some v31) fun A33 k34 k35 =>
    exSl (Mem.ld M32 ⟨b0, (o0 + 4), none⟩) fun A36 k37 k38 =>
    nwc M32 (.cells #[(.int .i64 0), (.slice A33 k34 k35), (.int .i64 0), (.int .i64 0), (.int .i64 0), (.int .i64 0)] 68 (0, 0)) fun k39 M40 =>
    nwc M40 (.cells #[(.pointer (some ⟨k39, 0, none⟩))] 65 (0, 0)) fun k41 M42 =>
    semK Try.prog (Go.Builtin.append_ #[69, 69] 69 #[(.slice A36 k37 k38), (.slice (some ⟨k41, 0, none⟩) 1 1)]) M42 (fun v43 M44 =>
    exSl (some v43) fun A45 k46 k47 =>
    stc M44 ⟨b0, (o0 + 4), none⟩ (.slice A45 k46 k47) fun M48 =>
    J9 [] M48) Kp) Kp) ∧
   True) ∧
  ∀ junk49 : Nat → Value, ∀ M50 : Mem, (J9 [] M50) → ACalls Try.prog 29 #[(.pointer (some ⟨b0, o0, none⟩)), (.int .i64 ((k7 : Nat) : Int))] M50 (fun v51 M52 =>
  (v51 = (.tuple #[])) ∧
  exI (Mem.ld M52 ⟨k1, (0 + 3), none⟩) .i64 fun n53 =>
  ((0 : Int) ≤ n53) ∧
  ((n53 : Int) < 8) ∧
  stc M52 ⟨b2, ((o2 + 2) + (Int.toNat n53)), none⟩ (.int .i64 ((k7 : Nat) : Int)) fun M54 =>
  K (.tuple #[]) M54) Kp)) :
  ACalls Try.prog 47 ([.pointer (some ⟨b0, o0, none⟩), .int .i64 x1, .pointer (some ⟨b2, o2, none⟩), .agg #[.int .i64 x3_0, .int .i64 x3_1, .int .i64 x3_2, .int .i64 x3_3]] : List Value).toArray M K Kp :=
  acalls_vc (C := Cx) good [(4, .regc [0, 0, 2, 6, 14, 0, 32, 0, 0, 256, 128, 1152, 3968, 8064, 16352, 32736, 65504, 131040, 262142, 524287, 1048575, 2097151] (.step 0 (.step 1 (.step 2 (.step 3 (.step 5 (.step 7 (.step 8 (.step 10 (.step 11 (.step 6 (.step 9 (.step 12 (.step 13 (.fork 4 (.step 14 (.step 15 (.step 16 (.step 17 (.step 18 (.step 19 (.step 20 (.step 21 .done)))))))) (.fork 14 (.step 15 (.step 4 (.step 16 (.step 17 (.step 18 (.step 19 (.step 20 (.step 21 .done)))))))) .dead))))))))))))))) []), (6, .reg [0, 0, 2, 0, 1, 17, 63, 127] (.step 0 (.step 1 (.step 3 (.step 4 (.step 5 (.step 2 (.step 6 (.step 7 .done)))))))))] Try.func47 (by kernel_rfl) (by kernel_rfl) h

theorem vc_world_World_yield {b0 o0 : Nat} {x1 : Int} {b2 o2 : Nat} {x3_0 : Int} {x3_1 : Int} {x3_2 : Int} {x3_3 : Int} {M : Mem} {K : Value → Mem → Prop} {Kp : List PanicEntry → Mem → Prop} (h :
nwc M (.cells #[(.int .i64 x3_0), (.int .i64 x3_1), (.int .i64 x3_2), (.int .i64 x3_3)] 31 (0, 0)) fun k1 M2 =>
K (.tuple #[]) M2) :
  ACalls Try.prog 48 ([.pointer (some ⟨b0, o0, none⟩), .int .i64 x1, .pointer (some ⟨b2, o2, none⟩), .agg #[.int .i64 x3_0, .int .i64 x3_1, .int .i64 x3_2, .int .i64 x3_3]] : List Value).toArray M K Kp :=
  acalls_vc (C := Cx) good [] Try.func48 (by kernel_rfl) (by kernel_rfl) h

theorem vc_world_World_send {b0 o0 : Nat} {x1 : Int} {b2 o2 : Nat} {x3_0 : Int} {x3_1 : Int} {x3_2 : Int} {x3_3 : Int} {M : Mem} {K : Value → Mem → Prop} {Kp : List PanicEntry → Mem → Prop} (h :
nwc M (.cells #[(.int .i64 x3_0), (.int .i64 x3_1), (.int .i64 x3_2), (.int .i64 x3_3)] 31 (0, 0)) fun k1 M2 =>
exI (Mem.ld M2 ⟨k1, (0 + 1), none⟩) .i64 fun n3 =>
exI (Mem.ld M2 ⟨k1, (0 + 2), none⟩) .i64 fun n4 =>
((0 : Int) ≤ n4) ∧
((n4 : Int) < 8) ∧
exI (Mem.ld M2 ⟨b2, ((o2 + 2) + (Int.toNat n4)), none⟩) .i64 fun n5 =>
ACalls Try.prog 43 #[(.pointer (some ⟨b0, o0, none⟩)), (.int .i64 n3), (.int .i64 n5)] M2 (fun v6 M7 =>
exB (some v6) fun t8 =>
bsp (!t8)
 (exSl (Mem.ld M7 ⟨b0, (o0 + 6), none⟩) fun A9 k10 k11 =>
  exI (Mem.ld M7 ⟨k1, (0 + 1), none⟩) .i64 fun n12 =>
  ((0 : Int) ≤ n12) ∧
  ((n12 : Int) < ((k10 : Nat) : Int)) ∧
  nilc A9 fun k13 k14 =>
  exP (Mem.ld M7 ⟨k13, (k14 + (Int.toNat n12)), none⟩) fun A15 =>
  exI (Mem.ld M7 ⟨k1, (0 + 2), none⟩) .i64 fun n16 =>
  ((0 : Int) ≤ n16) ∧
  ((n16 : Int) < 8) ∧
  exI (Mem.ld M7 ⟨b2, ((o2 + 2) + (Int.toNat n16)), none⟩) .i64 fun n17 =>
  ACalls Try.prog 71 #[(.pointer A15), (.agg #[(.int .i64 x1), (.int .i64 0), (.int .i64 n17)])] M7 (fun v18 M19 =>
  (v18 = (.tuple #[])) ∧
  exI (Mem.ld M19 ⟨k1, 0, none⟩) .i64 fun n20 =>
  exI (Mem.ld M19 ⟨k1, (0 + 1), none⟩) .i64 fun n21 =>
  exI (Mem.ld M19 ⟨k1, (0 + 2), none⟩) .i64 fun n22 =>
  exI (Mem.ld M19 ⟨k1, (0 + 3), none⟩) .i64 fun n23 =>
  ACalls Try.prog 42 #[(.pointer (some ⟨b0, o0, none⟩)), (.int .i64 x1), (.agg #[(.int .i64 n20), (.int .i64 n21), (.int .i64 n22), (.int .i64 n23)])] M19 (fun v24 M25 =>
  (v24 = (.tuple #[])) ∧
  K (.tuple #[]) M25) Kp) Kp)
 (K (.tuple #[]) M7)) Kp) :
  ACalls Try.prog 49 ([.pointer (some ⟨b0, o0, none⟩), .int .i64 x1, .pointer (some ⟨b2, o2, none⟩), .agg #[.int .i64 x3_0, .int .i64 x3_1, .int .i64 x3_2, .int .i64 x3_3]] : List Value).toArray M K Kp :=
  acalls_vc (C := Cx) good [(1, .reg [0, 0, 2, 0, 0, 16, 8, 72, 248, 504, 1023, 2047] (.step 0 (.step 1 (.step 3 (.step 4 (.step 6 (.step 7 (.step 2 (.step 5 (.step 8 (.step 9 (.step 10 (.step 11 .done))))))))))))), (2, .reg [0, 1, 3, 7, 0, 16, 63, 127, 0, 0, 0, 1024, 512, 4608, 15872, 32256, 65280, 131071] (.step 0 (.step 1 (.step 2 (.step 4 (.step 8 (.step 9 (.step 10 (.step 12 (.step 13 (.step 3 (.step 5 (.step 6 (.step 7 (.step 11 (.step 14 (.step 15 (.step 16 (.step 17 .done)))))))))))))))))))] Try.func49 (by kernel_rfl) (by kernel_rfl) h

theorem vc_world_World_recv {b0 o0 : Nat} {x1 : Int} {b2 o2 : Nat} {x3_0 : Int} {x3_1 : Int} {x3_2 : Int} {x3_3 : Int} {M : Mem} {K : Value → Mem → Prop} {Kp : List PanicEntry → Mem → Prop} (h :
nwc M (.cells #[(.int .i64 x3_0), (.int .i64 x3_1), (.int .i64 x3_2), (.int .i64 x3_3)] 31 (0, 0)) fun k1 M2 =>
exI (Mem.ld M2 ⟨k1, (0 + 1), none⟩) .i64 fun n3 =>
ACalls Try.prog 44 #[(.pointer (some ⟨b0, o0, none⟩)), (.int .i64 n3)] M2 (fun v4 M5 =>
∃ n6 : Int, ∃ n7 : Int, ∃ t8 : Bool, (v4 = (.tuple #[(.int .i64 n6), (.int .i64 n7), (.bool t8)])) ∧
bsp (!t8)
 (exSl (Mem.ld M5 ⟨b0, (o0 + 6), none⟩) fun A9 k10 k11 =>
  exI (Mem.ld M5 ⟨k1, (0 + 1), none⟩) .i64 fun n12 =>
  ((0 : Int) ≤ n12) ∧
  ((n12 : Int) < ((k10 : Nat) : Int)) ∧
  nilc A9 fun k13 k14 =>
  exP (Mem.ld M5 ⟨k13, (k14 + (Int.toNat n12)), none⟩) fun A15 =>
  ACalls Try.prog 70 #[(.pointer A15), (.agg #[(.int .i64 x1), (.int .i64 0), (.int .i64 0)])] M5 (fun v16 M17 =>
  (v16 = (.tuple #[])) ∧
  exI (Mem.ld M17 ⟨k1, 0, none⟩) .i64 fun n18 =>
  exI (Mem.ld M17 ⟨k1, (0 + 1), none⟩) .i64 fun n19 =>
  exI (Mem.ld M17 ⟨k1, (0 + 2), none⟩) .i64 fun n20 =>
  exI (Mem.ld M17 ⟨k1, (0 + 3), none⟩) .i64 fun n21 =>
  ACalls Try.prog 42 #[(.pointer (some ⟨b0, o0, none⟩)), (.int .i64 x1), (.agg #[(.int .i64 n18), (.int .i64 n19), (.int .i64 n20), (.int .i64 n21)])] M17 (fun v22 M23 =>
  (v22 = (.tuple #[])) ∧
  K (.tuple #[]) M23) Kp) Kp)
 (exI (Mem.ld M5 ⟨k1, (0 + 2), none⟩) .i64 fun n24 =>
  ((0 : Int) ≤ n24) ∧
  ((n24 : Int) < 8) ∧
  exI (Mem.ld M5 ⟨k1, (0 + 3), none⟩) .i64 fun n25 =>
  stc M5 ⟨b2, ((o2 + 2) + (Int.toNat n24)), none⟩ (.int .i64 n6) fun M26 =>
  ((Mem.ld M26 ⟨k1, (0 + 3), none⟩) = (some (.int .i64 n25))) ∧
  ((0 : Int) ≤ n25) ∧
  ((n25 : Int) < 8) ∧
  stc M26 ⟨b2, ((o2 + 2) + (Int.toNat n25)), none⟩ (.int .i64 n7) fun M27 =>
  ((Mem.ld M27 ⟨k1, (0 + 3), none⟩) = (some (.int .i64 n25))) ∧
  K (.tuple #[]) M27)) Kp) :
  ACalls Try.prog 50 ([.pointer (some ⟨b0, o0, none⟩), .int .i64 x1, .pointer (some ⟨b2, o2, none⟩), .agg #[.int .i64 x3_0, .int .i64 x3_1, .int .i64 x3_2, .int .i64 x3_3]] : List Value).toArray M K Kp :=
  acalls_vc (C := Cx) good [(3, .reg [0, 1, 3, 7, 0, 16, 63, 127, 0, 256, 1023] (.step 0 (.step 1 (.step 2 (.step 4 (.step 8 (.step 9 (.step 3 (.step 5 (.step 6 (.step 7 (.step 10 .done)))))))))))), (5, .reg [0, 0, 2, 0, 0, 16, 0, 0, 1, 257, 839, 1863, 8, 4104, 16383, 32767] (.step 0 (.step 1 (.step 3 (.step 4 (.step 6 (.step 7 (.step 8 (.step 9 (.step 12 (.step 13 (.step 2 (.step 10 (.prom 5 (.step 11 (.step 14 (.step 15 .done)))))))))))))))))] Try.func50 (by kernel_rfl) (by kernel_rfl) h

theorem vc_world_World_shut {b0 o0 : Nat} {x1 : Int} {b2 o2 : Nat} {x3_0 : Int} {x3_1 : Int} {x3_2 : Int} {x3_3 : Int} {M : Mem} {K : Value → Mem → Prop} {Kp : List PanicEntry → Mem → Prop} (h :
nwc M (.cells #[(.int .i64 x3_0), (.int .i64 x3_1), (.int .i64 x3_2), (.int .i64 x3_3)] 31 (0, 0)) fun k1 M2 =>
exSl (Mem.ld M2 ⟨b0, (o0 + 6), none⟩) fun A3 k4 k5 =>
exI (Mem.ld M2 ⟨k1, (0 + 1), none⟩) .i64 fun n6 =>
((0 : Int) ≤ n6) ∧
((n6 : Int) < ((k4 : Nat) : Int)) ∧
nilc A3 fun k7 k8 =>
exP (Mem.ld M2 ⟨k7, (k8 + (Int.toNat n6)), none⟩) fun A9 =>
ACalls Try.prog 78 #[(.pointer A9)] M2 (fun v10 M11 =>
∃ A12 : Option Addr, ∃ k13 : Nat, ∃ k14 : Nat, ∃ A15 : Option Addr, ∃ k16 : Nat, ∃ k17 : Nat, ∃ n18 : Int, (v10 = (.tuple #[(.slice A12 k13 k14), (.slice A15 k16 k17), (.int .i64 n18)])) ∧
bsp (n18 != 0)
 (Kp [{ v := (.iface 92 (.int .i64 (-2))), recovered := false }] M11)
 (bsp (decide ((((k16 : Nat) : Int) : Int) > 0))
   (Kp [{ v := (.iface 92 (.int .i64 (-1))), recovered := false }] M11)
   (∃ I19 : Nat → List Value → Mem → Prop, (∃ k20 : Nat, I19 k20 [(.int .i64 0)] M11) ∧
    ∀ k21 : Nat, ∀ junk22 : Nat → Value, ∀ n23 : Int, ∀ M24 : Mem, (I19 k21 [(.int .i64 n23)] M24) → bsp (decide ((n23 : Int) < ((k13 : Nat) : Int)))
     (((0 : Int) ≤ n23) ∧
      ((n23 : Int) < ((k13 : Nat) : Int)) ∧
      nilc A12 fun k25 k26 =>
      exI (Mem.ld M24 ⟨k25, (k26 + ((Int.toNat n23) * 3)), none⟩) .i64 fun n27 =>
      exI (Mem.ld M24 ⟨k25, ((k26 + ((Int.toNat n23) * 3)) + 1), none⟩) .i64 fun n28 =>
      exI (Mem.ld M24 ⟨k25, ((k26 + ((Int.toNat n23) * 3)) + 2), none⟩) .i64 fun n29 =>
      nwc M24 (.cells #[(.int .i64 0), (.int .i64 0), (.int .i64 0)] 120 (0, 0)) fun k30 M31 =>
      stc M31 ⟨k30, 0, none⟩ (.int .i64 n27) fun M32 =>
      stc M32 ⟨k30, (0 + 1), none⟩ (.int .i64 n28) fun M33 =>
      stc M33 ⟨k30, (0 + 2), none⟩ (.int .i64 n29) fun M34 =>
      exSl (Mem.ld M34 ⟨b0, (o0 + 4), none⟩) fun A35 k36 k37 =>
      exI (Mem.ld M34 ⟨k30, 0, none⟩) .i64 fun n38 =>
      ((0 : Int) ≤ n38) ∧
      ((n38 : Int) < ((k36 : Nat) : Int)) ∧
      nilc A35 fun k39 k40 =>
      exP (Mem.ld M34 ⟨k39, (k40 + (Int.toNat n38)), none⟩) fun A41 =>
      nilc A41 fun k42 k43 =>
      exI (Mem.ld M34 ⟨k42, k43, none⟩) .i64 fun n44 =>
      bsp (n44 == 2)
       (stc M34 ⟨k30, (0 + 2), none⟩ (.int .i64 0) fun M45 =>
        exI (Mem.ld M45 ⟨k30, 0, none⟩) .i64 fun n46 =>
        exI (Mem.ld M45 ⟨k30, (0 + 1), none⟩) .i64 fun n47 =>
        exI (Mem.ld M45 ⟨k30, (0 + 2), none⟩) .i64 fun n48 =>
        ACalls Try.prog 73 #[(.pointer (some ⟨b0, o0, none⟩)), (.agg #[(.int .i64 n46), (.int .i64 n47), (.int .i64 n48)]), (.int .i64 0)] M45 (fun v49 M50 =>
        (v49 = (.tuple #[])) ∧
        ∃ k51 : Nat, (k51 < k21) ∧
        I19 k51 [(.int .i64 (IntKind.wrap .i64 (n23 + 1)))] M50) Kp)
       (∃ k52 : Nat, (k52 < k21) ∧
        I19 k52 [(.int .i64 (IntKind.wrap .i64 (n23 + 1)))] M34))
     (K (.tuple #[]) M24)))) Kp) :
  ACalls Try.prog 51 ([.pointer (some ⟨b0, o0, none⟩), .int .i64 x1, .pointer (some ⟨b2, o2, none⟩), .agg #[.int .i64 x3_0, .int .i64 x3_1, .int .i64 x3_2, .int .i64 x3_3]] : List Value).toArray M K Kp :=
  acalls_vc (C := Cx) good [(1, .reg [0, 1, 3, 7, 0, 16, 63, 127, 255, 511, 1023, 1023, 1023, 2047, 12287, 32767] (.step 0 (.step 1 (.step 2 (.step 4 (.step 3 (.step 5 (.step 6 (.step 7 (.step 8 (.step 9 (.step 10 (.step 11 (.step 12 (.step 13 (.step 14 (.step 15 .done))))))))))))))))), (2000001, .loop [(37, .c (.int .i64))]), (9, .reg [0, 1, 3, 7, 0, 16, 63, 127, 255, 511, 1023, 2047] (.step 0 (.step 1 (.step 2 (.step 4 (.step 3 (.step 5 (.step 6 (.step 7 (.step 8 (.step 9 (.step 10 (.step 11 .done)))))))))))))] Try.func51 (by kernel_rfl) (by kernel_rfl) h

theorem vc_world_World_sleep {b0 o0 : Nat} {x1 : Int} {b2 o2 : Nat} {x3_0 : Int} {x3_1 : Int} {x3_2 : Int} {x3_3 : Int} {M : Mem} {K : Value → Mem → Prop} {Kp : List PanicEntry → Mem → Prop} (h :
nwc M (.cells #[(.int .i64 x3_0), (.int .i64 x3_1), (.int .i64 x3_2), (.int .i64 x3_3)] 31 (0, 0)) fun k1 M2 =>
exI (Mem.ld M2 ⟨k1, (0 + 1), none⟩) .i64 fun n3 =>
((0 : Int) ≤ n3) ∧
((n3 : Int) < 8) ∧
exI (Mem.ld M2 ⟨b2, ((o2 + 2) + (Int.toNat n3)), none⟩) .i64 fun n4 =>
bsp (decide (((if (1048576 : Int) < n4 then 1048576 else n4) : Int) > 0))
 (exI (Mem.ld M2 ⟨b0, (o0 + 5), none⟩) .u64 fun n5 =>
  ACalls Try.prog 79 #[(.pointer (some ⟨b0, (o0 + 8), none⟩)), (.int .u64 (IntKind.wrap .u64 (n5 + (IntKind.wrap .u64 (if (1048576 : Int) < n4 then 1048576 else n4))))), (.int .i64 x1)] M2 (fun v6 M7 =>
  exI (some v6) .u64 fun n8 =>
  exSl (Mem.ld M7 ⟨b0, (o0 + 4), none⟩) fun A9 k10 k11 =>
  ((0 : Int) ≤ x1) ∧
  ((x1 : Int) < ((k10 : Nat) : Int)) ∧
  nilc A9 fun k12 k13 =>
  exP (Mem.ld M7 ⟨k12, (k13 + (Int.toNat x1)), none⟩) fun A14 =>
  nilc A14 fun k15 k16 =>
  stc M7 ⟨k15, k16, none⟩ (.int .i64 3) fun M17 =>
  K (.tuple #[]) M17) Kp)
 (K (.tuple #[]) M2)) :
  ACalls Try.prog 52 ([.pointer (some ⟨b0, o0, none⟩), .int .i64 x1, .pointer (some ⟨b2, o2, none⟩), .agg #[.int .i64 x3_0, .int .i64 x3_1, .int .i64 x3_2, .int .i64 x3_3]] : List Value).toArray M K Kp :=
  acalls_vc (C := Cx) good [(1, .reg [0, 0, 2, 1, 9, 31, 63, 127, 255] (.step 0 (.step 1 (.step 3 (.step 4 (.step 2 (.step 5 (.step 6 (.step 7 (.step 8 .done)))))))))), (3, .reg [0, 1, 3, 0, 8, 24, 56, 0, 128, 504, 0, 2047] (.step 0 (.step 1 (.step 2 (.step 3 (.step 4 (.step 5 (.step 7 (.step 8 (.step 10 (.step 6 (.step 9 (.step 11 .done)))))))))))))] Try.func52 (by kernel_rfl) (by kernel_rfl) h

theorem vc_world_World_lock {b0 o0 : Nat} {x1 : Int} {b2 o2 : Nat} {x3_0 : Int} {x3_1 : Int} {x3_2 : Int} {x3_3 : Int} {M : Mem} {K : Value → Mem → Prop} {Kp : List PanicEntry → Mem → Prop} (h :
nwc M (.cells #[(.int .i64 x3_0), (.int .i64 x3_1), (.int .i64 x3_2), (.int .i64 x3_3)] 31 (0, 0)) fun k1 M2 =>
exSl (Mem.ld M2 ⟨b0, (o0 + 7), none⟩) fun A3 k4 k5 =>
exI (Mem.ld M2 ⟨k1, (0 + 1), none⟩) .i64 fun n6 =>
((0 : Int) ≤ n6) ∧
((n6 : Int) < ((k4 : Nat) : Int)) ∧
nilc A3 fun k7 k8 =>
exP (Mem.ld M2 ⟨k7, (k8 + (Int.toNat n6)), none⟩) fun A9 =>
ACalls Try.prog 80 #[(.pointer A9), (.int .i64 x1)] M2 (fun v10 M11 =>
exB (some v10) fun t12 =>
bsp (!t12)
 (exI (Mem.ld M11 ⟨k1, 0, none⟩) .i64 fun n13 =>
  exI (Mem.ld M11 ⟨k1, (0 + 1), none⟩) .i64 fun n14 =>
  exI (Mem.ld M11 ⟨k1, (0 + 2), none⟩) .i64 fun n15 =>
  exI (Mem.ld M11 ⟨k1, (0 + 3), none⟩) .i64 fun n16 =>
  ACalls Try.prog 42 #[(.pointer (some ⟨b0, o0, none⟩)), (.int .i64 x1), (.agg #[(.int .i64 n13), (.int .i64 n14), (.int .i64 n15), (.int .i64 n16)])] M11 (fun v17 M18 =>
  (v17 = (.tuple #[])) ∧
  K (.tuple #[]) M18) Kp)
 (K (.tuple #[]) M11)) Kp) :
  ACalls Try.prog 53 ([.pointer (some ⟨b0, o0, none⟩), .int .i64 x1, .pointer (some ⟨b2, o2, none⟩), .agg #[.int .i64 x3_0, .int .i64 x3_1, .int .i64 x3_2, .int .i64 x3_3]] : List Value).toArray M K Kp :=
  acalls_vc (C := Cx) good [(1, .reg [0, 1, 3, 7, 0, 16, 63, 127, 0, 511, 1023] (.step 0 (.step 1 (.step 2 (.step 4 (.step 8 (.step 3 (.step 5 (.step 6 (.step 7 (.step 9 (.step 10 .done))))))))))))] Try.func53 (by kernel_rfl) (by kernel_rfl) h

theorem vc_world_World_unlock {b0 o0 : Nat} {x1 : Int} {b2 o2 : Nat} {x3_0 : Int} {x3_1 : Int} {x3_2 : Int} {x3_3 : Int} {M : Mem} {K : Value → Mem → Prop} {Kp : List PanicEntry → Mem → Prop} (h :
nwc M (.cells #[(.int .i64 x3_0), (.int .i64 x3_1), (.int .i64 x3_2), (.int .i64 x3_3)] 31 (0, 0)) fun k1 M2 =>
exSl (Mem.ld M2 ⟨b0, (o0 + 7), none⟩) fun A3 k4 k5 =>
exI (Mem.ld M2 ⟨k1, (0 + 1), none⟩) .i64 fun n6 =>
((0 : Int) ≤ n6) ∧
((n6 : Int) < ((k4 : Nat) : Int)) ∧
nilc A3 fun k7 k8 =>
exP (Mem.ld M2 ⟨k7, (k8 + (Int.toNat n6)), none⟩) fun A9 =>
ACalls Try.prog 81 #[(.pointer A9), (.int .i64 x1)] M2 (fun v10 M11 =>
∃ n12 : Int, ∃ n13 : Int, (v10 = (.tuple #[(.int .i64 n12), (.int .i64 n13)])) ∧
bsp (n13 != 0)
 (Kp [{ v := (.iface 92 (.int .i64 (-3))), recovered := false }] M11)
 (bsp (n12 != (-1))
   (ACalls Try.prog 29 #[(.pointer (some ⟨b0, o0, none⟩)), (.int .i64 n12)] M11 (fun v14 M15 =>
    (v14 = (.tuple #[])) ∧
    K (.tuple #[]) M15) Kp)
   (K (.tuple #[]) M11))) Kp) :
  ACalls Try.prog 54 ([.pointer (some ⟨b0, o0, none⟩), .int .i64 x1, .pointer (some ⟨b2, o2, none⟩), .agg #[.int .i64 x3_0, .int .i64 x3_1, .int .i64 x3_2, .int .i64 x3_3]] : List Value).toArray M K Kp :=
  acalls_vc (C := Cx) good [(1, .reg [0, 1, 3, 7, 0, 16, 63, 127, 0, 511, 1023, 2047, 2047, 4095, 16383] (.step 0 (.step 1 (.step 2 (.step 4 (.step 8 (.step 3 (.step 5 (.step 6 (.step 7 (.step 9 (.step 10 (.step 11 (.step 12 (.step 13 (.step 14 .done))))))))))))))))] Try.func54 (by kernel_rfl) (by kernel_rfl) h

theorem vc_world_World_emit {b0 o0 : Nat} {x1 : Int} {b2 o2 : Nat} {x3_0 : Int} {x3_1 : Int} {x3_2 : Int} {x3_3 : Int} {M : Mem} {K : Value → Mem → Prop} {Kp : List PanicEntry → Mem → Prop} (h :
nwc M (.cells #[(.int .i64 x3_0), (.int .i64 x3_1), (.int .i64 x3_2), (.int .i64 x3_3)] 31 (0, 0)) fun k1 M2 =>
exSl (Mem.ld M2 ⟨b0, (o0 + 10), none⟩) fun A3 k4 k5 =>
bsp (decide ((((k4 : Nat) : Int) : Int) ≥ 1000))
 (Kp [{ v := (.iface 92 (.int .i64 (-6))), recovered := false }] M2)
 (exSl (Mem.ld M2 ⟨b0, (o0 + 10), none⟩) fun A6 k7 k8 =>
  exI (Mem.ld M2 ⟨k1, (0 + 1), none⟩) .i64 fun n9 =>
  ((0 : Int) ≤ n9) ∧
  ((n9 : Int) < 8) ∧
  exI (Mem.ld M2 ⟨b2, ((o2 + 2) + (Int.toNat n9)), none⟩) .i64 fun n10 =>
  nwc M2 (.cells #[(.int .i64 n10)] 2 (0, 0)) fun k11 M12 =>
  semK Try.prog (Go.Builtin.append_ #[46, 46] 46 #[(.slice A6 k7 k8), (.slice (some ⟨k11, 0, none⟩) 1 1)]) M12 (fun v13 M14 =>
  exSl (some v13) fun A15 k16 k17 =>
  stc M14 ⟨b0, (o0 + 10), none⟩ (.slice A15 k16 k17) fun M18 =>
  K (.tuple #[]) M18) Kp)) :
  ACalls Try.prog 55 ([.pointer (some ⟨b0, o0, none⟩), .int .i64 x1, .pointer (some ⟨b2, o2, none⟩), .agg #[.int .i64 x3_0, .int .i64 x3_1, .int .i64 x3_2, .int .i64 x3_3]] : List Value).toArray M K Kp :=
  acalls_vc (C := Cx) good [(3, .reg [0, 0, 2, 6, 14, 0, 0, 64, 32, 288, 992, 2016, 4064, 8190, 16383, 32767, 65535] (.step 0 (.step 1 (.step 2 (.step 3 (.step 5 (.step 6 (.step 8 (.step 9 (.step 4 (.step 7 (.step 10 (.step 11 (.step 12 (.step 13 (.step 14 (.step 15 (.step 16 .done))))))))))))))))))] Try.func55 (by kernel_rfl) (by kernel_rfl) h

theorem vc_world_World_stop {b0 o0 : Nat} {x1 : Int} {b2 o2 : Nat} {x3_0 : Int} {x3_1 : Int} {x3_2 : Int} {x3_3 : Int} {M : Mem} {K : Value → Mem → Prop} {Kp : List PanicEntry → Mem → Prop} (h :
nwc M (.cells #[(.int .i64 x3_0), (.int .i64 x3_1), (.int .i64 x3_2), (.int .i64 x3_3)] 31 (0, 0)) fun k1 M2 =>
exI (Mem.ld M2 ⟨k1, (0 + 1), none⟩) .i64 fun n3 =>
Kp [{ v := (.iface 92 (.int .i64 n3)), recovered := false }] M2) :
  ACalls Try.prog 56 ([.pointer (some ⟨b0, o0, none⟩), .int .i64 x1, .pointer (some ⟨b2, o2, none⟩), .agg #[.int .i64 x3_0, .int .i64 x3_1, .int .i64 x3_2, .int .i64 x3_3]] : List Value).toArray M K Kp :=
  acalls_vc (C := Cx) good [] Try.func56 (by kernel_rfl) (by kernel_rfl) h

theorem vc_heap_Heap_swap {b0 o0 : Nat} {x1 : Int} {x2 : Int} {M : Mem} {K : Value → Mem → Prop} {Kp : List PanicEntry → Mem → Prop} (h :
exSl (Mem.ld M ⟨b0, o0, none⟩) fun A1 k2 k3 =>
exSl (Mem.ld M ⟨b0, o0, none⟩) fun A4 k5 k6 =>
exSl (Mem.ld M ⟨b0, o0, none⟩) fun A7 k8 k9 =>
((0 : Int) ≤ x2) ∧
((x2 : Int) < ((k8 : Nat) : Int)) ∧
nilc A7 fun k10 k11 =>
exI (Mem.ld M ⟨k10, (k11 + ((Int.toNat x2) * 3)), none⟩) .u64 fun n12 =>
exI (Mem.ld M ⟨k10, ((k11 + ((Int.toNat x2) * 3)) + 1), none⟩) .u64 fun n13 =>
exI (Mem.ld M ⟨k10, ((k11 + ((Int.toNat x2) * 3)) + 2), none⟩) .i64 fun n14 =>
exSl (Mem.ld M ⟨b0, o0, none⟩) fun A15 k16 k17 =>
((0 : Int) ≤ x1) ∧
((x1 : Int) < ((k16 : Nat) : Int)) ∧
nilc A15 fun k18 k19 =>
exI (Mem.ld M ⟨k18, (k19 + ((Int.toNat x1) * 3)), none⟩) .u64 fun n20 =>
exI (Mem.ld M ⟨k18, ((k19 + ((Int.toNat x1) * 3)) + 1), none⟩) .u64 fun n21 =>
exI (Mem.ld M ⟨k18, ((k19 + ((Int.toNat x1) * 3)) + 2), none⟩) .i64 fun n22 =>
((0 : Int) ≤ x1) ∧
((x1 : Int) < ((k2 : Nat) : Int)) ∧
nilc A1 fun k23 k24 =>
stc M ⟨k23, (k24 + ((Int.toNat x1) * 3)), none⟩ (.int .u64 n12) fun M25 =>
stc M25 ⟨k23, ((k24 + ((Int.toNat x1) * 3)) + 1), none⟩ (.int .u64 n13) fun M26 =>
stc M26 ⟨k23, ((k24 + ((Int.toNat x1) * 3)) + 2), none⟩ (.int .i64 n14) fun M27 =>
((0 : Int) ≤ x2) ∧
((x2 : Int) < ((k5 : Nat) : Int)) ∧
nilc A4 fun k28 k29 =>
stc M27 ⟨k28, (k29 + ((Int.toNat x2) * 3)), none⟩ (.int .u64 n20) fun M30 =>
stc M30 ⟨k28, ((k29 + ((Int.toNat x2) * 3)) + 1), none⟩ (.int .u64 n21) fun M31 =>
stc M31 ⟨k28, ((k29 + ((Int.toNat x2) * 3)) + 2), none⟩ (.int .i64 n22) fun M32 =>
K (.tuple #[]) M32) :
  ACalls Try.prog 57 ([.pointer (some ⟨b0, o0, none⟩), .int .i64 x1, .int .i64 x2] : List Value).toArray M K Kp :=
  acalls_vc (C := Cx) good [(0, .reg [0, 1, 3, 7, 0, 0, 32, 96, 224, 0, 0, 1024, 3072, 7168, 0, 31744, 64512, 0, 131072, 393216, 917504, 0, 4063232, 8257536, 16776703, 33553919, 67108863, 134217727] (.step 0 (.step 1 (.step 2 (.step 4 (.step 5 (.step 6 (.step 7 (.step 9 (.step 10 (.step 11 (.step 12 (.step 14 (.step 17 (.step 18 (.step 19 (.step 21 (.step 3 (.step 8 (.step 13 (.step 15 (.step 16 (.step 20 (.step 22 (.step 23 (.step 24 (.step 25 (.step 26 (.step 27 .done)))))))))))))))))))))))))))))] Try.func57 (by kernel_rfl) (by kernel_rfl) h

theorem vc_heap_Heap_down {b0 o0 : Nat} {x1 : Int} {M : Mem} {K : Value → Mem → Prop} {Kp : List PanicEntry → Mem → Prop} (h :
ACalls Try.prog 82 #[(.pointer (some ⟨b0, o0, none⟩)), (.int .i64 x1)] M (fun v1 M2 =>
exI (some v1) .i64 fun n3 =>
∃ I4 : Nat → List Value → Mem → Prop, (∃ k5 : Nat, I4 k5 [(.int .i64 x1), (.int .i64 n3)] M2) ∧
∀ k6 : Nat, ∀ junk7 : Nat → Value, ∀ n8 : Int, ∀ n9 : Int, ∀ M10 : Mem, (I4 k6 [(.int .i64 n8), (.int .i64 n9)] M10) → bsp (n9 != n8)
 (ACalls Try.prog 57 #[(.pointer (some ⟨b0, o0, none⟩)), (.int .i64 n8), (.int .i64 n9)] M10 (fun v11 M12 =>
  (v11 = (.tuple #[])) ∧
  ACalls Try.prog 82 #[(.pointer (some ⟨b0, o0, none⟩)), (.int .i64 n9)] M12 (fun v13 M14 =>
  exI (some v13) .i64 fun n15 =>
  ∃ k16 : Nat, (k16 < k6) ∧
  I4 k16 [(.int .i64 n9), (.int .i64 n15)] M14) Kp) Kp)
 (K (.tuple #[]) M10)) Kp) :
  ACalls Try.prog 58 ([.pointer (some ⟨b0, o0, none⟩), .int .i64 x1] : List Value).toArray M K Kp :=
  acalls_vc (C := Cx) good [(2000000, .loop [(1, .c (.int .i64)), (4, .c (.int .i64))])] Try.func58 (by kernel_rfl) (by kernel_rfl) h

theorem vc_heap_Heap_up {b0 o0 : Nat} {x1 : Int} {M : Mem} {K : Value → Mem → Prop} {Kp : List PanicEntry → Mem → Prop} (h :
∃ I1 : Nat → List Value → Mem → Prop, (∃ k2 : Nat, I1 k2 [(.int .i64 x1)] M) ∧
∀ k3 : Nat, ∀ junk4 : Nat → Value, ∀ n5 : Int, ∀ M6 : Mem, (I1 k3 [(.int .i64 n5)] M6) → bsp (decide ((n5 : Int) > 0))
 (((4 : Int) ≠ 0) ∧
  exSl (Mem.ld M6 ⟨b0, o0, none⟩) fun A7 k8 k9 =>
  ((0 : Int) ≤ n5) ∧
  ((n5 : Int) < ((k8 : Nat) : Int)) ∧
  nilc A7 fun k10 k11 =>
  exI (Mem.ld M6 ⟨k10, (k11 + ((Int.toNat n5) * 3)), none⟩) .u64 fun n12 =>
  exI (Mem.ld M6 ⟨k10, ((k11 + ((Int.toNat n5) * 3)) + 1), none⟩) .u64 fun n13 =>
  exI (Mem.ld M6 ⟨k10, ((k11 + ((Int.toNat n5) * 3)) + 2), none⟩) .i64 fun n14 =>
  exSl (Mem.ld M6 ⟨b0, o0, none⟩) fun A15 k16 k17 =>
  ((0 : Int) ≤ (IntKind.wrap .i64 (Int.tdiv (IntKind.wrap .i64 (n5 - 1)) 4))) ∧
  (((IntKind.wrap .i64 (Int.tdiv (IntKind.wrap .i64 (n5 - 1)) 4)) : Int) < ((k16 : Nat) : Int)) ∧
  nilc A15 fun k18 k19 =>
  exI (Mem.ld M6 ⟨k18, (k19 + ((Int.toNat (IntKind.wrap .i64 (Int.tdiv (IntKind.wrap .i64 (n5 - 1)) 4))) * 3)), none⟩) .u64 fun n20 =>
  exI (Mem.ld M6 ⟨k18, ((k19 + ((Int.toNat (IntKind.wrap .i64 (Int.tdiv (IntKind.wrap .i64 (n5 - 1)) 4))) * 3)) + 1), none⟩) .u64 fun n21 =>
  exI (Mem.ld M6 ⟨k18, ((k19 + ((Int.toNat (IntKind.wrap .i64 (Int.tdiv (IntKind.wrap .i64 (n5 - 1)) 4))) * 3)) + 2), none⟩) .i64 fun n22 =>
  ACalls Try.prog 83 #[(.agg #[(.int .u64 n12), (.int .u64 n13), (.int .i64 n14)]), (.agg #[(.int .u64 n20), (.int .u64 n21), (.int .i64 n22)])] M6 (fun v23 M24 =>
  exB (some v23) fun t25 =>
  bsp t25
   (((4 : Int) ≠ 0) ∧
    ACalls Try.prog 57 #[(.pointer (some ⟨b0, o0, none⟩)), (.int .i64 n5), (.int .i64 (IntKind.wrap .i64 (Int.tdiv (IntKind.wrap .i64 (n5 - 1)) 4)))] M24 (fun v26 M27 =>
    (v26 = (.tuple #[])) ∧
    ((4 : Int) ≠ 0) ∧
    ∃ k28 : Nat, (k28 < k3) ∧
    I1 k28 [(.int .i64 (IntKind.wrap .i64 (Int.tdiv (IntKind.wrap .i64 (n5 - 1)) 4)))] M27) Kp)
   (K (.tuple #[]) M24)) Kp)
 (K (.tuple #[]) M6)) :
  ACalls Try.prog 59 ([.pointer (some ⟨b0, o0, none⟩), .int .i64 x1] : List Value).toArray M K Kp :=
  acalls_vc (C := Cx) good [(2000000, .loop [(1, .c (.int .i64))]), (0, .reg [0, 1, 3, 7, 15, 31, 63, 7, 255, 511, 7, 1031, 3079, 7175, 7, 16391, 49159, 130055, 261127, 524287, 1048575] (.step 0 (.step 1 (.step 2 (.step 3 (.step 4 (.step 5 (.step 7 (.step 10 (.step 11 (.step 12 (.step 14 (.step 15 (.step 16 (.step 6 (.step 8 (.step 9 (.step 13 (.step 17 (.step 18 (.step 19 (.step 20 .done))))))))))))))))))))))] Try.func59 (by kernel_rfl) (by kernel_rfl) h

theorem vc_frame_Frame_nop {b0 o0 : Nat} {x1_0 : Int} {x1_1 : Int} {x1_2 : Int} {x1_3 : Int} {M : Mem} {K : Value → Mem → Prop} {Kp : List PanicEntry → Mem → Prop} (h :
nwc M (.cells #[(.int .i64 x1_0), (.int .i64 x1_1), (.int .i64 x1_2), (.int .i64 x1_3)] 31 (0, 0)) fun k1 M2 =>
K (.tuple #[]) M2) :
  ACalls Try.prog 60 ([.pointer (some ⟨b0, o0, none⟩), .agg #[.int .i64 x1_0, .int .i64 x1_1, .int .i64 x1_2, .int .i64 x1_3]] : List Value).toArray M K Kp :=
  acalls_vc (C := Cx) good [] Try.func60 (by kernel_rfl) (by kernel_rfl) h

theorem vc_frame_Frame_constant {b0 o0 : Nat} {x1_0 : Int} {x1_1 : Int} {x1_2 : Int} {x1_3 : Int} {M : Mem} {K : Value → Mem → Prop} {Kp : List PanicEntry → Mem → Prop} (h :
nwc M (.cells #[(.int .i64 x1_0), (.int .i64 x1_1), (.int .i64 x1_2), (.int .i64 x1_3)] 31 (0, 0)) fun k1 M2 =>
exI (Mem.ld M2 ⟨k1, (0 + 1), none⟩) .i64 fun n3 =>
exI (Mem.ld M2 ⟨k1, (0 + 2), none⟩) .i64 fun n4 =>
((0 : Int) ≤ n3) ∧
((n3 : Int) < 8) ∧
stc M2 ⟨b0, ((o0 + 2) + (Int.toNat n3)), none⟩ (.int .i64 n4) fun M5 =>
K (.tuple #[]) M5) :
  ACalls Try.prog 61 ([.pointer (some ⟨b0, o0, none⟩), .agg #[.int .i64 x1_0, .int .i64 x1_1, .int .i64 x1_2, .int .i64 x1_3]] : List Value).toArray M K Kp :=
  acalls_vc (C := Cx) good [(1, .reg [0, 0, 2, 0, 8, 1, 33, 127, 255] (.step 0 (.step 1 (.step 3 (.step 5 (.step 6 (.step 2 (.step 4 (.step 7 (.step 8 .done))))))))))] Try.func61 (by kernel_rfl) (by kernel_rfl) h

theorem vc_frame_Frame_move {b0 o0 : Nat} {x1_0 : Int} {x1_1 : Int} {x1_2 : Int} {x1_3 : Int} {M : Mem} {K : Value → Mem → Prop} {Kp : List PanicEntry → Mem → Prop} (h :
nwc M (.cells #[(.int .i64 x1_0), (.int .i64 x1_1), (.int .i64 x1_2), (.int .i64 x1_3)] 31 (0, 0)) fun k1 M2 =>
exI (Mem.ld M2 ⟨k1, (0 + 1), none⟩) .i64 fun n3 =>
exI (Mem.ld M2 ⟨k1, (0 + 2), none⟩) .i64 fun n4 =>
((0 : Int) ≤ n4) ∧
((n4 : Int) < 8) ∧
exI (Mem.ld M2 ⟨b0, ((o0 + 2) + (Int.toNat n4)), none⟩) .i64 fun n5 =>
((0 : Int) ≤ n3) ∧
((n3 : Int) < 8) ∧
stc M2 ⟨b0, ((o0 + 2) + (Int.toNat n3)), none⟩ (.int .i64 n5) fun M6 =>
K (.tuple #[]) M6) :
  ACalls Try.prog 62 ([.pointer (some ⟨b0, o0, none⟩), .agg #[.int .i64 x1_0, .int .i64 x1_1, .int .i64 x1_2, .int .i64 x1_3]] : List Value).toArray M K Kp :=
  acalls_vc (C := Cx) good [(1, .reg [0, 0, 2, 0, 0, 16, 8, 72, 248, 504, 1, 1025, 4095, 8191] (.step 0 (.step 1 (.step 3 (.step 4 (.step 6 (.step 7 (.step 10 (.step 11 (.step 2 (.step 5 (.step 8 (.step 9 (.step 12 (.step 13 .done)))))))))))))))] Try.func62 (by kernel_rfl) (by kernel_rfl) h

theorem vc_frame_Frame_add {b0 o0 : Nat} {x1_0 : Int} {x1_1 : Int} {x1_2 : Int} {x1_3 : Int} {M : Mem} {K : Value → Mem → Prop} {Kp : List PanicEntry → Mem → Prop} (h :
nwc M (.cells #[(.int .i64 x1_0), (.int .i64 x1_1), (.int .i64 x1_2), (.int .i64 x1_3)] 31 (0, 0)) fun k1 M2 =>
exI (Mem.ld M2 ⟨k1, (0 + 1), none⟩) .i64 fun n3 =>
exI (Mem.ld M2 ⟨k1, (0 + 2), none⟩) .i64 fun n4 =>
((0 : Int) ≤ n4) ∧
((n4 : Int) < 8) ∧
exI (Mem.ld M2 ⟨b0, ((o0 + 2) + (Int.toNat n4)), none⟩) .i64 fun n5 =>
exI (Mem.ld M2 ⟨k1, (0 + 3), none⟩) .i64 fun n6 =>
((0 : Int) ≤ n6) ∧
((n6 : Int) < 8) ∧
exI (Mem.ld M2 ⟨b0, ((o0 + 2) + (Int.toNat n6)), none⟩) .i64 fun n7 =>
((0 : Int) ≤ n3) ∧
((n3 : Int) < 8) ∧
stc M2 ⟨b0, ((o0 + 2) + (Int.toNat n3)), none⟩ (.int .i64 (IntKind.wrap .i64 (n5 + n7))) fun M8 =>
K (.tuple #[]) M8) :
  ACalls Try.prog 63 ([.pointer (some ⟨b0, o0, none⟩), .agg #[.int .i64 x1_0, .int .i64 x1_1, .int .i64 x1_2, .int .i64 x1_3]] : List Value).toArray M K Kp :=
  acalls_vc (C := Cx) good [(1, .reg [0, 0, 2, 0, 0, 16, 8, 72, 248, 504, 0, 0, 2048, 1024, 9216, 31744, 64512, 131064, 1, 262145, 1048575, 2097151] (.step 0 (.step 1 (.step 3 (.step 4 (.step 6 (.step 7 (.step 10 (.step 11 (.step 13 (.step 14 (.step 18 (.step 19 (.step 2 (.step 5 (.step 8 (.step 9 (.step 12 (.step 15 (.step 16 (.step 17 (.step 20 (.step 21 .done)))))))))))))))))))))))] Try.func63 (by kernel_rfl) (by kernel_rfl) h

theorem vc_frame_Frame_sub {b0 o0 : Nat} {x1_0 : Int} {x1_1 : Int} {x1_2 : Int} {x1_3 : Int} {M : Mem} {K : Value → Mem → Prop} {Kp : List PanicEntry → Mem → Prop} (h :
nwc M (.cells #[(.int .i64 x1_0), (.int .i64 x1_1), (.int .i64 x1_2), (.int .i64 x1_3)] 31 (0, 0)) fun k1 M2 =>
exI (Mem.ld M2 ⟨k1, (0 + 1), none⟩) .i64 fun n3 =>
exI (Mem.ld M2 ⟨k1, (0 + 2), none⟩) .i64 fun n4 =>
((0 : Int) ≤ n4) ∧
((n4 : Int) < 8) ∧
exI (Mem.ld M2 ⟨b0, ((o0 + 2) + (Int.toNat n4)), none⟩) .i64 fun n5 =>
exI (Mem.ld M2 ⟨k1, (0 + 3), none⟩) .i64 fun n6 =>
((0 : Int) ≤ n6) ∧
((n6 : Int) < 8) ∧
exI (Mem.ld M2 ⟨b0, ((o0 + 2) + (Int.toNat n6)), none⟩) .i64 fun n7 =>
((0 : Int) ≤ n3) ∧
((n3 : Int) < 8) ∧
stc M2 ⟨b0, ((o0 + 2) + (Int.toNat n3)), none⟩ (.int .i64 (IntKind.wrap .i64 (n5 - n7))) fun M8 =>
K (.tuple #[]) M8) :
  ACalls Try.prog 64 ([.pointer (some ⟨b0, o0, none⟩), .agg #[.int .i64 x1_0, .int .i64 x1_1, .int .i64 x1_2, .int .i64 x1_3]] : List Value).toArray M K Kp :=
  acalls_vc (C := Cx) good [(1, .reg [0, 0, 2, 0, 0, 16, 8, 72, 248, 504, 0, 0, 2048, 1024, 9216, 31744, 64512, 131064, 1, 262145, 1048575, 2097151] (.step 0 (.step 1 (.step 3 (.step 4 (.step 6 (.step 7 (.step 10 (.step 11 (.step 13 (.step 14 (.step 18 (.step 19 (.step 2 (.step 5 (.step 8 (.step 9 (.step 12 (.step 15 (.step 16 (.step 17 (.step 20 (.step 21 .done)))))))))))))))))))))))] Try.func64 (by kernel_rfl) (by kernel_rfl) h

theorem vc_frame_Frame_mul {b0 o0 : Nat} {x1_0 : Int} {x1_1 : Int} {x1_2 : Int} {x1_3 : Int} {M : Mem} {K : Value → Mem → Prop} {Kp : List PanicEntry → Mem → Prop} (h :
nwc M (.cells #[(.int .i64 x1_0), (.int .i64 x1_1), (.int .i64 x1_2), (.int .i64 x1_3)] 31 (0, 0)) fun k1 M2 =>
exI (Mem.ld M2 ⟨k1, (0 + 1), none⟩) .i64 fun n3 =>
exI (Mem.ld M2 ⟨k1, (0 + 2), none⟩) .i64 fun n4 =>
((0 : Int) ≤ n4) ∧
((n4 : Int) < 8) ∧
exI (Mem.ld M2 ⟨b0, ((o0 + 2) + (Int.toNat n4)), none⟩) .i64 fun n5 =>
exI (Mem.ld M2 ⟨k1, (0 + 3), none⟩) .i64 fun n6 =>
((0 : Int) ≤ n6) ∧
((n6 : Int) < 8) ∧
exI (Mem.ld M2 ⟨b0, ((o0 + 2) + (Int.toNat n6)), none⟩) .i64 fun n7 =>
((0 : Int) ≤ n3) ∧
((n3 : Int) < 8) ∧
stc M2 ⟨b0, ((o0 + 2) + (Int.toNat n3)), none⟩ (.int .i64 (IntKind.wrap .i64 (n5 * n7))) fun M8 =>
K (.tuple #[]) M8) :
  ACalls Try.prog 65 ([.pointer (some ⟨b0, o0, none⟩), .agg #[.int .i64 x1_0, .int .i64 x1_1, .int .i64 x1_2, .int .i64 x1_3]] : List Value).toArray M K Kp :=
  acalls_vc (C := Cx) good [(1, .reg [0, 0, 2, 0, 0, 16, 8, 72, 248, 504, 0, 0, 2048, 1024, 9216, 31744, 64512, 131064, 1, 262145, 1048575, 2097151] (.step 0 (.step 1 (.step 3 (.step 4 (.step 6 (.step 7 (.step 10 (.step 11 (.step 13 (.step 14 (.step 18 (.step 19 (.step 2 (.step 5 (.step 8 (.step 9 (.step 12 (.step 15 (.step 16 (.step 17 (.step 20 (.step 21 .done)))))))))))))))))))))))] Try.func65 (by kernel_rfl) (by kernel_rfl) h

theorem vc_frame_Frame_less {b0 o0 : Nat} {x1_0 : Int} {x1_1 : Int} {x1_2 : Int} {x1_3 : Int} {M : Mem} {K : Value → Mem → Prop} {Kp : List PanicEntry → Mem → Prop} (h :
nwc M (.cells #[(.int .i64 x1_0), (.int .i64 x1_1), (.int .i64 x1_2), (.int .i64 x1_3)] 31 (0, 0)) fun k1 M2 =>
exI (Mem.ld M2 ⟨k1, (0 + 2), none⟩) .i64 fun n3 =>
((0 : Int) ≤ n3) ∧
((n3 : Int) < 8) ∧
exI (Mem.ld M2 ⟨b0, ((o0 + 2) + (Int.toNat n3)), none⟩) .i64 fun n4 =>
exI (Mem.ld M2 ⟨k1, (0 + 3), none⟩) .i64 fun n5 =>
((0 : Int) ≤ n5) ∧
((n5 : Int) < 8) ∧
exI (Mem.ld M2 ⟨b0, ((o0 + 2) + (Int.toNat n5)), none⟩) .i64 fun n6 =>
exI (Mem.ld M2 ⟨k1, (0 + 1), none⟩) .i64 fun n7 =>
((0 : Int) ≤ n7) ∧
((n7 : Int) < 8) ∧
stc M2 ⟨b0, ((o0 + 2) + (Int.toNat n7)), none⟩ (.int .i64 0) fun M8 =>
bsp (decide ((n4 : Int) < n6))
 (exI (Mem.ld M8 ⟨k1, (0 + 1), none⟩) .i64 fun n9 =>
  ((0 : Int) ≤ n9) ∧
  ((n9 : Int) < 8) ∧
  stc M8 ⟨b0, ((o0 + 2) + (Int.toNat n9)), none⟩ (.int .i64 1) fun M10 =>
  K (.tuple #[]) M10)
 (K (.tuple #[]) M8)) :
  ACalls Try.prog 66 ([.pointer (some ⟨b0, o0, none⟩), .agg #[.int .i64 x1_0, .int .i64 x1_1, .int .i64 x1_2, .int .i64 x1_3]] : List Value).toArray M K Kp :=
  acalls_vc (C := Cx) good [(1, .reg [0, 0, 2, 1, 9, 31, 63, 0, 0, 256, 128, 1152, 3968, 8064, 16383, 32767] (.step 0 (.step 1 (.step 3 (.step 4 (.step 7 (.step 8 (.step 10 (.step 11 (.step 2 (.step 5 (.step 6 (.step 9 (.step 12 (.step 13 (.step 14 (.step 15 .done))))))))))))))))), (2, .reg [0, 0, 2, 1, 9, 31, 63] (.step 0 (.step 1 (.step 3 (.step 4 (.step 2 (.step 5 (.step 6 .done)))))))), (4, .reg [0, 0, 2, 1, 9, 31, 63] (.step 0 (.step 1 (.step 3 (.step 4 (.step 2 (.step 5 (.step 6 .done))))))))] Try.func66 (by kernel_rfl) (by kernel_rfl) h

theorem vc_frame_Frame_jump {b0 o0 : Nat} {x1_0 : Int} {x1_1 : Int} {x1_2 : Int} {x1_3 : Int} {M : Mem} {K : Value → Mem → Prop} {Kp : List PanicEntry → Mem → Prop} (h :
nwc M (.cells #[(.int .i64 x1_0), (.int .i64 x1_1), (.int .i64 x1_2), (.int .i64 x1_3)] 31 (0, 0)) fun k1 M2 =>
exI (Mem.ld M2 ⟨k1, (0 + 1), none⟩) .i64 fun n3 =>
stc M2 ⟨b0, (o0 + 1), none⟩ (.int .i64 n3) fun M4 =>
K (.tuple #[]) M4) :
  ACalls Try.prog 67 ([.pointer (some ⟨b0, o0, none⟩), .agg #[.int .i64 x1_0, .int .i64 x1_1, .int .i64 x1_2, .int .i64 x1_3]] : List Value).toArray M K Kp :=
  acalls_vc (C := Cx) good [] Try.func67 (by kernel_rfl) (by kernel_rfl) h

theorem vc_frame_Frame_branch {b0 o0 : Nat} {x1_0 : Int} {x1_1 : Int} {x1_2 : Int} {x1_3 : Int} {M : Mem} {K : Value → Mem → Prop} {Kp : List PanicEntry → Mem → Prop} (h :
nwc M (.cells #[(.int .i64 x1_0), (.int .i64 x1_1), (.int .i64 x1_2), (.int .i64 x1_3)] 31 (0, 0)) fun k1 M2 =>
exI (Mem.ld M2 ⟨k1, (0 + 1), none⟩) .i64 fun n3 =>
((0 : Int) ≤ n3) ∧
((n3 : Int) < 8) ∧
exI (Mem.ld M2 ⟨b0, ((o0 + 2) + (Int.toNat n3)), none⟩) .i64 fun n4 =>
bsp (n4 != 0)
 (exI (Mem.ld M2 ⟨k1, (0 + 2), none⟩) .i64 fun n5 =>
  stc M2 ⟨b0, (o0 + 1), none⟩ (.int .i64 n5) fun M6 =>
  K (.tuple #[]) M6)
 (K (.tuple #[]) M2)) :
  ACalls Try.prog 68 ([.pointer (some ⟨b0, o0, none⟩), .agg #[.int .i64 x1_0, .int .i64 x1_1, .int .i64 x1_2, .int .i64 x1_3]] : List Value).toArray M K Kp :=
  acalls_vc (C := Cx) good [(1, .reg [0, 0, 2, 1, 9, 31, 63, 127] (.step 0 (.step 1 (.step 3 (.step 4 (.step 2 (.step 5 (.step 6 (.step 7 .done)))))))))] Try.func68 (by kernel_rfl) (by kernel_rfl) h

theorem vc_world_World_received {b0 o0 : Nat} {x1_0 : Int} {x1_1 : Int} {x1_2 : Int} {x2 : Int} {M : Mem} {K : Value → Mem → Prop} {Kp : List PanicEntry → Mem → Prop} (h :
nwc M (.cells #[(.int .i64 x1_0), (.int .i64 x1_1), (.int .i64 x1_2)] 120 (0, 0)) fun k1 M2 =>
exSl (Mem.ld M2 ⟨b0, (o0 + 4), none⟩) fun A3 k4 k5 =>
exI (Mem.ld M2 ⟨k1, 0, none⟩) .i64 fun n6 =>
((0 : Int) ≤ n6) ∧
((n6 : Int) < ((k4 : Nat) : Int)) ∧
nilc A3 fun k7 k8 =>
exP (Mem.ld M2 ⟨k7, (k8 + (Int.toNat n6)), none⟩) fun A9 =>
nilc A9 fun k10 k11 =>
exSl (Mem.ld M2 ⟨k10, (k11 + 1), none⟩) fun A12 k13 k14 =>
exSl (Mem.ld M2 ⟨b0, (o0 + 4), none⟩) fun A15 k16 k17 =>
exI (Mem.ld M2 ⟨k1, 0, none⟩) .i64 fun n18 =>
((0 : Int) ≤ n18) ∧
((n18 : Int) < ((k16 : Nat) : Int)) ∧
nilc A15 fun k19 k20 =>
exP (Mem.ld M2 ⟨k19, (k20 + (Int.toNat n18)), none⟩) fun A21 =>
nilc A21 fun k22 k23 =>
exI (Mem.ld M2 ⟨k22, (k23 + 2), none⟩) .i64 fun n24 =>
exI (Mem.ld M2 ⟨k22, ((k23 + 2) + 1), none⟩) .i64 fun n25 =>
exI (Mem.ld M2 ⟨k22, ((k23 + 2) + 2), none⟩) .i64 fun n26 =>
exI (Mem.ld M2 ⟨k22, ((k23 + 2) + 3), none⟩) .i64 fun n27 =>
(True) ∧
ACalls Try.prog 11 #[(.slice A12 k13 k14)] M2 (fun v28 M29 =>
exP (some v28) fun A30 =>
((Mem.lds M29 ⟨k22, (k23 + 2), none⟩ 0 4) = some [(.int .i64 n24), (.int .i64 n25), (.int .i64 n26), (.int .i64 n27)]) ∧
((Mem.ld M29 ⟨k19, (k20 + (Int.toNat n18)), none⟩) = (some (.pointer A21))) ∧
((Mem.ld M29 ⟨k1, 0, none⟩) = (some (.int .i64 n18))) ∧
((Mem.ld M29 ⟨b0, (o0 + 4), none⟩) = (some (.slice A15 k16 k17))) ∧
nilc A30 fun k31 k32 =>
nwc M29 (.cells #[(.int .i64 0), (.int .i64 0), (.int .i64 0), (.int .i64 0)] 31 (0, 0)) fun k33 M34 =>
stc M34 ⟨k33, 0, none⟩ (.int .i64 n24) fun M35 =>
stc M35 ⟨k33, (0 + 1), none⟩ (.int .i64 n25) fun M36 =>
stc M36 ⟨k33, (0 + 2), none⟩ (.int .i64 n26) fun M37 =>
stc M37 ⟨k33, (0 + 3), none⟩ (.int .i64 n27) fun M38 =>
((Mem.lds M38 ⟨k22, (k23 + 2), none⟩ 0 4) = some [(.int .i64 n24), (.int .i64 n25), (.int .i64 n26), (.int .i64 n27)]) ∧
((Mem.ld M38 ⟨k19, (k20 + (Int.toNat n18)), none⟩) = (some (.pointer A21))) ∧
((Mem.ld M38 ⟨k1, 0, none⟩) = (some (.int .i64 n18))) ∧
((Mem.ld M38 ⟨b0, (o0 + 4), none⟩) = (some (.slice A15 k16 k17))) ∧
exI (Mem.ld M38 ⟨k33, 0, none⟩) .i64 fun n39 =>
bsp (n39 == 16)
 (exSl (Mem.ld M38 ⟨b0, (o0 + 3), none⟩) fun A40 k41 k42 =>
  exI (Mem.ld M38 ⟨k33, (0 + 1), none⟩) .i64 fun n43 =>
  exI (Mem.ld M38 ⟨k1, (0 + 1), none⟩) .i64 fun n44 =>
  ((0 : Int) ≤ (IntKind.wrap .i64 (n43 + n44))) ∧
  (((IntKind.wrap .i64 (n43 + n44)) : Int) < ((k41 : Nat) : Int)) ∧
  nilc A40 fun k45 k46 =>
  exI (Mem.ld M38 ⟨k45, ((k46 + ((Int.toNat (IntKind.wrap .i64 (n43 + n44))) * 3)) + 2), none⟩) .i64 fun n47 =>
  exI (Mem.ld M38 ⟨k1, (0 + 2), none⟩) .i64 fun n48 =>
  ((0 : Int) ≤ n47) ∧
  ((n47 : Int) < 8) ∧
  stc M38 ⟨k31, ((k32 + 2) + (Int.toNat n47)), none⟩ (.int .i64 n48) fun M49 =>
  exI (Mem.ld M49 ⟨k1, 0, none⟩) .i64 fun n50 =>
  exI (Mem.ld M49 ⟨k1, (0 + 1), none⟩) .i64 fun n51 =>
  ACalls Try.prog 87 #[(.pointer (some ⟨b0, o0, none⟩)), (.int .i64 n50), (.int .i64 n51)] M49 (fun v52 M53 =>
  (v52 = (.tuple #[])) ∧
  exI (Mem.ld M53 ⟨k1, 0, none⟩) .i64 fun n54 =>
  ACalls Try.prog 29 #[(.pointer (some ⟨b0, o0, none⟩)), (.int .i64 n54)] M53 (fun v55 M56 =>
  (v55 = (.tuple #[])) ∧
  K (.tuple #[]) M56) Kp) Kp)
 (exI (Mem.ld M38 ⟨k33, (0 + 2), none⟩) .i64 fun n57 =>
  exI (Mem.ld M38 ⟨k1, (0 + 2), none⟩) .i64 fun n58 =>
  ((0 : Int) ≤ n57) ∧
  ((n57 : Int) < 8) ∧
  exI (Mem.ld M38 ⟨k33, (0 + 3), none⟩) .i64 fun n59 =>
  stc M38 ⟨k31, ((k32 + 2) + (Int.toNat n57)), none⟩ (.int .i64 n58) fun M60 =>
  ((Mem.ld M60 ⟨k33, (0 + 3), none⟩) = (some (.int .i64 n59))) ∧
  ((0 : Int) ≤ n59) ∧
  ((n59 : Int) < 8) ∧
  stc M60 ⟨k31, ((k32 + 2) + (Int.toNat n59)), none⟩ (.int .i64 x2) fun M61 =>
  ((Mem.ld M61 ⟨k33, (0 + 3), none⟩) = (some (.int .i64 n59))) ∧
  exI (Mem.ld M61 ⟨k1, 0, none⟩) .i64 fun n62 =>
  ACalls Try.prog 29 #[(.pointer (some ⟨b0, o0, none⟩)), (.int .i64 n62)] M61 (fun v63 M64 =>
  (v63 = (.tuple #[])) ∧
  K (.tuple #[]) M64) Kp)) Kp) :
  ACalls Try.prog 73 ([.pointer (some ⟨b0, o0, none⟩), .agg #[.int .i64 x1_0, .int .i64 x1_1, .int .i64 x1_2], .int .i64 x2] : List Value).toArray M K Kp :=
  acalls_vc (C := Cx) good [(1, .reg [0, 1, 3, 7, 0, 16, 63, 127, 255, 511, 1023, 0, 2048, 6144, 14336, 0, 32768, 129024, 260096, 522240, 1046528, 2095104, 4192256, 8386560, 16775168, 0, 41943039, 134217727] (.step 0 (.step 1 (.step 2 (.step 4 (.step 11 (.step 12 (.step 13 (.step 15 (.step 14 (.step 16 (.step 17 (.step 18 (.step 19 (.step 20 (.step 21 (.prom 3 (.prom 5 (.step 6 (.prom 7 (.step 8 (.step 9 (.prom 10 (.late 22 (.step 23 (.step 24 (.step 25 (.step 26 (.step 27 .done))))))))))))))))))))))))))))), (3, .reg [0, 0, 2, 6, 14, 30, 0, 64, 0, 256, 960, 2046, 4094, 8190, 0, 16384, 1, 131071, 262143] (.step 0 (.step 1 (.step 2 (.step 3 (.step 4 (.step 6 (.step 8 (.step 14 (.step 16 (.step 5 (.step 7 (.step 9 (.step 10 (.step 11 (.step 12 (.step 13 (.step 15 (.step 17 (.step 18 .done)))))))))))))))))))), (5, .reg [0, 0, 2, 0, 0, 16, 0, 64, 0, 1, 711, 1735, 8, 8191, 16383] (.step 0 (.step 1 (.step 3 (.step 4 (.step 6 (.step 8 (.step 9 (.step 12 (.step 2 (.step 7 (.step 10 (.prom 5 (.step 11 (.step 13 (.step 14 .done))))))))))))))))] Try.func73 (by kernel_rfl) (by kernel_rfl) h

theorem vc_world_World_sent {b0 o0 : Nat} {x1_0 : Int} {x1_1 : Int} {x1_2 : Int} {M : Mem} {K : Value → Mem → Prop} {Kp : List PanicEntry → Mem → Prop} (h :
nwc M (.cells #[(.int .i64 x1_0), (.int .i64 x1_1), (.int .i64 x1_2)] 120 (0, 0)) fun k1 M2 =>
exSl (Mem.ld M2 ⟨b0, (o0 + 4), none⟩) fun A3 k4 k5 =>
exI (Mem.ld M2 ⟨k1, 0, none⟩) .i64 fun n6 =>
((0 : Int) ≤ n6) ∧
((n6 : Int) < ((k4 : Nat) : Int)) ∧
nilc A3 fun k7 k8 =>
exP (Mem.ld M2 ⟨k7, (k8 + (Int.toNat n6)), none⟩) fun A9 =>
nilc A9 fun k10 k11 =>
exI (Mem.ld M2 ⟨k10, (k11 + 2), none⟩) .i64 fun n12 =>
bsp (n12 == 16)
 (exI (Mem.ld M2 ⟨k1, 0, none⟩) .i64 fun n13 =>
  exI (Mem.ld M2 ⟨k1, (0 + 1), none⟩) .i64 fun n14 =>
  ACalls Try.prog 87 #[(.pointer (some ⟨b0, o0, none⟩)), (.int .i64 n13), (.int .i64 n14)] M2 (fun v15 M16 =>
  (v15 = (.tuple #[])) ∧
  exI (Mem.ld M16 ⟨k1, 0, none⟩) .i64 fun n17 =>
  ACalls Try.prog 29 #[(.pointer (some ⟨b0, o0, none⟩)), (.int .i64 n17)] M16 (fun v18 M19 =>
  (v18 = (.tuple #[])) ∧
  K (.tuple #[]) M19) Kp) Kp)
 (exI (Mem.ld M2 ⟨k1, 0, none⟩) .i64 fun n20 =>
  ACalls Try.prog 29 #[(.pointer (some ⟨b0, o0, none⟩)), (.int .i64 n20)] M2 (fun v21 M22 =>
  (v21 = (.tuple #[])) ∧
  K (.tuple #[]) M22) Kp)) :
  ACalls Try.prog 75 ([.pointer (some ⟨b0, o0, none⟩), .agg #[.int .i64 x1_0, .int .i64 x1_1, .int .i64 x1_2]] : List Value).toArray M K Kp :=
  acalls_vc (C := Cx) good [(1, .reg [0, 1, 3, 7, 0, 16, 63, 127, 255, 511, 1023, 2047, 4095] (.step 0 (.step 1 (.step 2 (.step 4 (.step 3 (.step 5 (.step 6 (.step 7 (.step 8 (.step 9 (.step 10 (.step 11 (.step 12 .done))))))))))))))] Try.func75 (by kernel_rfl) (by kernel_rfl) h

theorem vc_frame_Stack_Call {B0 : Option Addr} {m0 c0 : Nat} {x1 : Int} {x2 : Int} {x3 : Int} {M : Mem} {K : Value → Mem → Prop} {Kp : List PanicEntry → Mem → Prop} (h :
bsp (decide ((((m0 : Nat) : Int) : Int) ≥ 16))
 (K (.tuple #[(.slice B0 m0 c0), (.bool false)]) M)
 (((0 : Int) ≤ ((m0 : Nat) : Int)) ∧
  ((((m0 : Nat) : Int) : Int) ≤ ((c0 : Nat) : Int)) ∧
  ((0 : Int) ≤ ((m0 : Nat) : Int)) ∧
  ((((m0 : Nat) : Int) : Int) ≤ ((m0 : Nat) : Int)) ∧
  ((0 : Int) ≤ 0) ∧
  ((0 : Int) ≤ ((m0 : Nat) : Int)) ∧
  nwc M (.cells #[(.int .i64 x1), (.int .i64 0), (.int .i64 x2), (.int .i64 0), (.int .i64 0), (.int .i64 0), (.int .i64 0), (.int .i64 0), (.int .i64 0), (.int .i64 0), (.int .i64 x3)] 53 (0, 0)) fun k1 M2 =>
  semK Try.prog (Go.Builtin.append_ #[43, 43] 43 #[(.slice (slA B0 0 (Int.toNat ((m0 : Nat) : Int)) 11) ((Int.toNat ((m0 : Nat) : Int)) - 0) ((Int.toNat ((m0 : Nat) : Int)) - 0)), (.slice (some ⟨k1, 0, none⟩) 1 1)]) M2 (fun v3 M4 =>
  exSl (some v3) fun A5 k6 k7 =>
  K (.tuple #[(.slice A5 k6 k7), (.bool true)]) M4) Kp)) :
  ACalls Try.prog 76 ([.slice B0 m0 c0, .int .i64 x1, .int .i64 x2, .int .i64 x3] : List Value).toArray M K Kp :=
  acalls_vc (C := Cx) good [] Try.func76 (by kernel_rfl) (by kernel_rfl) h

theorem vc_frame_Stack_Return {B0 : Option Addr} {m0 c0 : Nat} {x1 : Int} {M : Mem} {K : Value → Mem → Prop} {Kp : List PanicEntry → Mem → Prop} (h :
bsp (decide ((((m0 : Nat) : Int) : Int) < 2))
 (K (.tuple #[(.slice none 0 0), (.bool false)]) M)
 (nwc M (.cells #[] 53 (0, 0)) fun k1 M2 =>
  ((0 : Int) ≤ ((c0 : Nat) : Int)) ∧
  ((((c0 : Nat) : Int) : Int) ≤ ((c0 : Nat) : Int)) ∧
  ((0 : Int) ≤ (IntKind.wrap .i64 (((m0 : Nat) : Int) - 1))) ∧
  (((IntKind.wrap .i64 (((m0 : Nat) : Int) - 1)) : Int) ≤ ((c0 : Nat) : Int)) ∧
  ((0 : Int) ≤ 0) ∧
  ((0 : Int) ≤ (IntKind.wrap .i64 (((m0 : Nat) : Int) - 1))) ∧
  semK Try.prog (Go.Builtin.append_ #[43, 43] 43 #[(.slice (some ⟨k1, 0, none⟩) 0 0), (.slice (slA B0 0 (Int.toNat ((c0 : Nat) : Int)) 11) ((Int.toNat (IntKind.wrap .i64 (((m0 : Nat) : Int) - 1))) - 0) ((Int.toNat ((c0 : Nat) : Int)) - 0))]) M2 (fun v3 M4 =>
  exSl (some v3) fun A5 k6 k7 =>
  ACalls Try.prog 11 #[(.slice A5 k6 k7)] M4 (fun v8 M9 =>
  exP (some v8) fun A10 =>
  nilc A10 fun k11 k12 =>
  ACalls Try.prog 11 #[(.slice B0 m0 c0)] M9 (fun v13 M14 =>
  exP (some v13) fun A15 =>
  nilc A15 fun k16 k17 =>
  exI (Mem.ld M14 ⟨k16, (k17 + 10), none⟩) .i64 fun n18 =>
  ((0 : Int) ≤ n18) ∧
  ((n18 : Int) < 8) ∧
  stc M14 ⟨k11, ((k12 + 2) + (Int.toNat n18)), none⟩ (.int .i64 x1) fun M19 =>
  K (.tuple #[(.slice A5 k6 k7), (.bool true)]) M19) Kp) Kp) Kp)) :
  ACalls Try.prog 77 ([.slice B0 m0 c0, .int .i64 x1] : List Value).toArray M K Kp :=
  acalls_vc (C := Cx) good [(4, .reg [0, 1, 0, 7, 15, 31, 63, 0, 3, 259, 1023, 2047] (.step 0 (.step 2 (.step 7 (.step 1 (.step 8 (.step 9 (.step 3 (.step 4 (.step 5 (.step 6 (.step 10 (.step 11 .done)))))))))))))] Try.func77 (by kernel_rfl) (by kernel_rfl) h

theorem vc_heap_Heap_Push {b0 o0 : Nat} {x1 : Int} {x2 : Int} {M : Mem} {K : Value → Mem → Prop} {Kp : List PanicEntry → Mem → Prop} (h :
exSl (Mem.ld M ⟨b0, o0, none⟩) fun A1 k2 k3 =>
exI (Mem.ld M ⟨b0, (o0 + 1), none⟩) .u64 fun n4 =>
nwc M (.cells #[(.int .u64 x1), (.int .u64 n4), (.int .i64 x2)] 86 (0, 0)) fun k5 M6 =>
semK Try.prog (Go.Builtin.append_ #[62, 62] 62 #[(.slice A1 k2 k3), (.slice (some ⟨k5, 0, none⟩) 1 1)]) M6 (fun v7 M8 =>
exSl (some v7) fun A9 k10 k11 =>
stc M8 ⟨b0, o0, none⟩ (.slice A9 k10 k11) fun M12 =>
exI (Mem.ld M12 ⟨b0, (o0 + 1), none⟩) .u64 fun n13 =>
stc M12 ⟨b0, (o0 + 1), none⟩ (.int .u64 (IntKind.wrap .u64 (n13 + 1))) fun M14 =>
exSl (Mem.ld M14 ⟨b0, o0, none⟩) fun A15 k16 k17 =>
ACalls Try.prog 59 #[(.pointer (some ⟨b0, o0, none⟩)), (.int .i64 (IntKind.wrap .i64 (((k16 : Nat) : Int) - 1)))] M14 (fun v18 M19 =>
(v18 = (.tuple #[])) ∧
exI (Mem.ld M19 ⟨b0, (o0 + 1), none⟩) .u64 fun n20 =>
K (.int .u64 (IntKind.wrap .u64 (n20 - 1))) M19) Kp) Kp) :
  ACalls Try.prog 79 ([.pointer (some ⟨b0, o0, none⟩), .int .u64 x1, .int .i64 x2] : List Value).toArray M K Kp :=
  acalls_vc (C := Cx) good [(1, .reg [0, 0, 2, 6, 14, 0, 0, 64, 192, 448, 0, 2016, 4064, 8190, 16383, 32767, 65535] (.step 0 (.step 1 (.step 2 (.step 3 (.step 5 (.step 6 (.step 7 (.step 8 (.step 10 (.step 4 (.step 9 (.step 11 (.step 12 (.step 13 (.step 14 (.step 15 (.step 16 .done))))))))))))))))))] Try.func79 (by kernel_rfl) (by kernel_rfl) h

theorem vc_locks_Lock_Take {b0 o0 : Nat} {x1 : Int} {M : Mem} {K : Value → Mem → Prop} {Kp : List PanicEntry → Mem → Prop} (h :
exI (Mem.ld M ⟨b0, o0, none⟩) .i64 fun n1 =>
bsp (n1 != (-1))
 (exSl (Mem.ld M ⟨b0, (o0 + 1), none⟩) fun A2 k3 k4 =>
  nwc M (.cells #[(.int .i64 x1)] 3 (0, 0)) fun k5 M6 =>
  semK Try.prog (Go.Builtin.append_ #[25, 25] 25 #[(.slice A2 k3 k4), (.slice (some ⟨k5, 0, none⟩) 1 1)]) M6 (fun v7 M8 =>
  exSl (some v7) fun A9 k10 k11 =>
  stc M8 ⟨b0, (o0 + 1), none⟩ (.slice A9 k10 k11) fun M12 =>
  K (.bool false) M12) Kp)
 (stc M ⟨b0, o0, none⟩ (.int .i64 x1) fun M13 =>
  K (.bool true) M13)) :
  ACalls Try.prog 80 ([.pointer (some ⟨b0, o0, none⟩), .int .i64 x1] : List Value).toArray M K Kp :=
  acalls_vc (C := Cx) good [] Try.func80 (by kernel_rfl) (by kernel_rfl) h

theorem vc_locks_Lock_Give {b0 o0 : Nat} {x1 : Int} {M : Mem} {K : Value → Mem → Prop} {Kp : List PanicEntry → Mem → Prop} (h :
exI (Mem.ld M ⟨b0, o0, none⟩) .i64 fun n1 =>
bsp (n1 == (-1))
 (K (.tuple #[(.int .i64 (-1)), (.int .i64 5)]) M)
 (exI (Mem.ld M ⟨b0, o0, none⟩) .i64 fun n2 =>
  bsp (n2 != x1)
   (K (.tuple #[(.int .i64 (-1)), (.int .i64 5)]) M)
   (stc M ⟨b0, o0, none⟩ (.int .i64 (-1)) fun M3 =>
    exSl (Mem.ld M3 ⟨b0, (o0 + 1), none⟩) fun A4 k5 k6 =>
    bsp (decide ((((k5 : Nat) : Int) : Int) > 0))
     (exSl (Mem.ld M3 ⟨b0, (o0 + 1), none⟩) fun A7 k8 k9 =>
      ((0 : Int) ≤ 0) ∧
      ((0 : Int) < ((k8 : Nat) : Int)) ∧
      nilc A7 fun k10 k11 =>
      exI (Mem.ld M3 ⟨k10, (k11 + 0), none⟩) .i64 fun n12 =>
      stc M3 ⟨b0, o0, none⟩ (.int .i64 n12) fun M13 =>
      nwc M13 (.cells #[] 3 (0, 0)) fun k14 M15 =>
      exSl (Mem.ld M15 ⟨b0, (o0 + 1), none⟩) fun A16 k17 k18 =>
      ((0 : Int) ≤ ((k18 : Nat) : Int)) ∧
      ((((k18 : Nat) : Int) : Int) ≤ ((k18 : Nat) : Int)) ∧
      ((0 : Int) ≤ ((k17 : Nat) : Int)) ∧
      ((((k17 : Nat) : Int) : Int) ≤ ((k18 : Nat) : Int)) ∧
      ((0 : Int) ≤ 1) ∧
      ((1 : Int) ≤ ((k17 : Nat) : Int)) ∧
      semK Try.prog (Go.Builtin.append_ #[25, 25] 25 #[(.slice (some ⟨k14, 0, none⟩) 0 0), (.slice (slA A16 1 (Int.toNat ((k18 : Nat) : Int)) 1) ((Int.toNat ((k17 : Nat) : Int)) - 1) ((Int.toNat ((k18 : Nat) : Int)) - 1))]) M15 (fun v19 M20 =>
      exSl (some v19) fun A21 k22 k23 =>
      stc M20 ⟨b0, (o0 + 1), none⟩ (.slice A21 k22 k23) fun M24 =>
      exI (Mem.ld M24 ⟨b0, o0, none⟩) .i64 fun n25 =>
      K (.tuple #[(.int .i64 n25), (.int .i64 0)]) M24) Kp)
     (exI (Mem.ld M3 ⟨b0, o0, none⟩) .i64 fun n26 =>
      K (.tuple #[(.int .i64 n26), (.int .i64 0)]) M3)))) :
  ACalls Try.prog 81 ([.pointer (some ⟨b0, o0, none⟩), .int .i64 x1] : List Value).toArray M K Kp :=
  acalls_vc (C := Cx) good [] Try.func81 (by kernel_rfl) (by kernel_rfl) h

theorem vc_heap_Heap_least {b0 o0 : Nat} {x1 : Int} {M : Mem} {K : Value → Mem → Prop} {Kp : List PanicEntry → Mem → Prop} (h :
∃ I1 : Nat → List Value → Mem → Prop, (∃ k2 : Nat, I1 k2 [(.int .i64 x1), (.int .i64 (IntKind.wrap .i64 ((IntKind.wrap .i64 (4 * x1)) + 1)))] M) ∧
∀ k3 : Nat, ∀ junk4 : Nat → Value, ∀ n5 : Int, ∀ n6 : Int, ∀ M7 : Mem, (I1 k3 [(.int .i64 n5), (.int .i64 n6)] M7) → bsp (decide ((n6 : Int) ≤ (IntKind.wrap .i64 ((IntKind.wrap .i64 (4 * x1)) + 4))))
 (exSl (Mem.ld M7 ⟨b0, o0, none⟩) fun A8 k9 k10 =>
  bsp (decide ((n6 : Int) < ((k9 : Nat) : Int)))
   (exSl (Mem.ld M7 ⟨b0, o0, none⟩) fun A11 k12 k13 =>
    ((0 : Int) ≤ n6) ∧
    ((n6 : Int) < ((k12 : Nat) : Int)) ∧
    nilc A11 fun k14 k15 =>
    exI (Mem.ld M7 ⟨k14, (k15 + ((Int.toNat n6) * 3)), none⟩) .u64 fun n16 =>
    exI (Mem.ld M7 ⟨k14, ((k15 + ((Int.toNat n6) * 3)) + 1), none⟩) .u64 fun n17 =>
    exI (Mem.ld M7 ⟨k14, ((k15 + ((Int.toNat n6) * 3)) + 2), none⟩) .i64 fun n18 =>
    exSl (Mem.ld M7 ⟨b0, o0, none⟩) fun A19 k20 k21 =>
    ((0 : Int) ≤ n5) ∧
    ((n5 : Int) < ((k20 : Nat) : Int)) ∧
    nilc A19 fun k22 k23 =>
    exI (Mem.ld M7 ⟨k22, (k23 + ((Int.toNat n5) * 3)), none⟩) .u64 fun n24 =>
    exI (Mem.ld M7 ⟨k22, ((k23 + ((Int.toNat n5) * 3)) + 1), none⟩) .u64 fun n25 =>
    exI (Mem.ld M7 ⟨k22, ((k23 + ((Int.toNat n5) * 3)) + 2), none⟩) .i64 fun n26 =>
    ACalls Try.prog 83 #[(.agg #[(.int .u64 n16), (.int .u64 n17), (.int .i64 n18)]), (.agg #[(.int .u64 n24), (.int .u64 n25), (.int .i64 n26)])] M7 (fun v27 M28 =>
    exB (some v27) fun t29 =>
    bsp t29
     (∃ k30 : Nat, (k30 < k3) ∧
      I1 k30 [(.int .i64 n6), (.int .i64 (IntKind.wrap .i64 (n6 + 1)))] M28)
     (∃ k31 : Nat, (k31 < k3) ∧
      I1 k31 [(.int .i64 n5), (.int .i64 (IntKind.wrap .i64 (n6 + 1)))] M28)) Kp)
   (K (.int .i64 n5) M7))
 (K (.int .i64 n5) M7)) :
  ACalls Try.prog 82 ([.pointer (some ⟨b0, o0, none⟩), .int .i64 x1] : List Value).toArray M K Kp :=
  acalls_vc (C := Cx) good [(2000000, .loop [(5, .c (.int .i64)), (6, .c (.int .i64))]), (5, .reg [0, 1, 3, 7, 0, 31, 63, 0, 128, 384, 896, 0, 3968, 8064, 16383] (.step 0 (.step 1 (.step 2 (.step 4 (.step 7 (.step 8 (.step 9 (.step 11 (.step 3 (.step 5 (.step 6 (.step 10 (.step 12 (.step 13 (.step 14 .done))))))))))))))))] Try.func82 (by kernel_rfl) (by kernel_rfl) h

theorem vc_heap_before {x0_0 : Int} {x0_1 : Int} {x0_2 : Int} {x1_0 : Int} {x1_1 : Int} {x1_2 : Int} {M : Mem} {K : Value → Mem → Prop} {Kp : List PanicEntry → Mem → Prop} (h :
nwc M (.cells #[(.int .u64 x0_0), (.int .u64 x0_1), (.int .i64 x0_2)] 86 (0, 0)) fun k1 M2 =>
nwc M2 (.cells #[(.int .u64 x1_0), (.int .u64 x1_1), (.int .i64 x1_2)] 86 (0, 0)) fun k3 M4 =>
exI (Mem.ld M4 ⟨k1, 0, none⟩) .u64 fun n5 =>
exI (Mem.ld M4 ⟨k3, 0, none⟩) .u64 fun n6 =>
bsp (decide ((n5 : Int) < n6))
 (K (.bool true) M4)
 (exI (Mem.ld M4 ⟨k1, 0, none⟩) .u64 fun n7 =>
  exI (Mem.ld M4 ⟨k3, 0, none⟩) .u64 fun n8 =>
  bsp (n7 == n8)
   (exI (Mem.ld M4 ⟨k1, (0 + 1), none⟩) .u64 fun n9 =>
    exI (Mem.ld M4 ⟨k3, (0 + 1), none⟩) .u64 fun n10 =>
    K (.bool (decide ((n9 : Int) < n10))) M4)
   (K (.bool false) M4))) :
  ACalls Try.prog 83 ([.agg #[.int .u64 x0_0, .int .u64 x0_1, .int .i64 x0_2], .agg #[.int .u64 x1_0, .int .u64 x1_1, .int .i64 x1_2]] : List Value).toArray M K Kp :=
  acalls_vc (C := Cx) good [] Try.func83 (by kernel_rfl) (by kernel_rfl) h

theorem vc_world_World_chosen {b0 o0 : Nat} {x1 : Int} {x2 : Int} {M : Mem} {K : Value → Mem → Prop} {Kp : List PanicEntry → Mem → Prop} (h :
exSl (Mem.ld M ⟨b0, (o0 + 4), none⟩) fun A1 k2 k3 =>
((0 : Int) ≤ x1) ∧
((x1 : Int) < ((k2 : Nat) : Int)) ∧
nilc A1 fun k4 k5 =>
exP (Mem.ld M ⟨k4, (k5 + (Int.toNat x1)), none⟩) fun A6 =>
nilc A6 fun k7 k8 =>
exI (Mem.ld M ⟨k7, (k8 + 2), none⟩) .i64 fun n9 =>
exI (Mem.ld M ⟨k7, ((k8 + 2) + 1), none⟩) .i64 fun n10 =>
exI (Mem.ld M ⟨k7, ((k8 + 2) + 2), none⟩) .i64 fun n11 =>
exI (Mem.ld M ⟨k7, ((k8 + 2) + 3), none⟩) .i64 fun n12 =>
nwc M (.cells #[(.int .i64 0), (.int .i64 0), (.int .i64 0), (.int .i64 0)] 31 (0, 0)) fun k13 M14 =>
stc M14 ⟨k13, 0, none⟩ (.int .i64 n9) fun M15 =>
stc M15 ⟨k13, (0 + 1), none⟩ (.int .i64 n10) fun M16 =>
stc M16 ⟨k13, (0 + 2), none⟩ (.int .i64 n11) fun M17 =>
stc M17 ⟨k13, (0 + 3), none⟩ (.int .i64 n12) fun M18 =>
exSl (Mem.ld M18 ⟨b0, (o0 + 4), none⟩) fun A19 k20 k21 =>
((0 : Int) ≤ x1) ∧
((x1 : Int) < ((k20 : Nat) : Int)) ∧
nilc A19 fun k22 k23 =>
exP (Mem.ld M18 ⟨k22, (k23 + (Int.toNat x1)), none⟩) fun A24 =>
nilc A24 fun k25 k26 =>
exSl (Mem.ld M18 ⟨k25, (k26 + 1), none⟩) fun A27 k28 k29 =>
exI (Mem.ld M18 ⟨k13, (0 + 3), none⟩) .i64 fun n30 =>
ACalls Try.prog 11 #[(.slice A27 k28 k29)] M18 (fun v31 M32 =>
exP (some v31) fun A33 =>
((Mem.ld M32 ⟨k13, (0 + 3), none⟩) = (some (.int .i64 n30))) ∧
nilc A33 fun k34 k35 =>
((0 : Int) ≤ n30) ∧
((n30 : Int) < 8) ∧
stc M32 ⟨k34, ((k35 + 2) + (Int.toNat n30)), none⟩ (.int .i64 x2) fun M36 =>
((Mem.ld M36 ⟨k13, (0 + 3), none⟩) = (some (.int .i64 n30))) ∧
exSl (Mem.ld M36 ⟨b0, (o0 + 6), none⟩) fun A37 k38 k39 =>
ACalls Try.prog 88 #[(.int .i64 x1), (.slice A37 k38 k39)] M36 (fun v40 M41 =>
(v40 = (.tuple #[])) ∧
K (.tuple #[]) M41) Kp) Kp) :
  ACalls Try.prog 87 ([.pointer (some ⟨b0, o0, none⟩), .int .i64 x1, .int .i64 x2] : List Value).toArray M K Kp :=
  acalls_vc (C := Cx) good [(1, .reg [0, 1, 3, 7, 0, 31, 63, 127, 255, 511, 1023, 0, 2048, 0, 2047, 18431, 65535, 131071] (.step 0 (.step 1 (.step 2 (.step 4 (.step 11 (.step 13 (.step 3 (.step 5 (.step 6 (.step 7 (.step 8 (.step 9 (.prom 12 (.step 10 (.step 14 (.step 15 (.step 16 (.step 17 .done)))))))))))))))))))] Try.func87 (by kernel_rfl) (by kernel_rfl) h

end Go.Proofs
