/- A part of proofs about functions of one program: a condition over a partial memory that is enough for a call, and what calls answer by it. No condition of its own. -/
import Derived.Test.YtfjgcljdnhkmaaaCx
namespace Go.Proofs
open Go.AF
set_option linter.unusedVariables false
set_option maxRecDepth 100000
theorem vc_world_New {B0_0 : Option Addr} {m0_0 c0_0 : Nat} {B0_1 : Option Addr} {m0_1 c0_1 : Nat} {x0_2 : Int} {B0_3 : Option Addr} {m0_3 c0_3 : Nat} {M : Mem} {K : Value → Mem → Prop} {Kp : List PanicEntry → Mem → Prop} (h :
nwc M (.cells #[(.slice B0_0 m0_0 c0_0), (.slice B0_1 m0_1 c0_1), (.int .i64 x0_2), (.slice B0_3 m0_3 c0_3)] 28 (0, 0)) fun k1 M2 =>
exSl (Mem.ld M2 ⟨k1, 0, none⟩) fun A3 k4 k5 =>
exSl (Mem.ld M2 ⟨k1, (0 + 1), none⟩) fun A6 k7 k8 =>
exI (Mem.ld M2 ⟨k1, (0 + 2), none⟩) .i64 fun n9 =>
exSl (Mem.ld M2 ⟨k1, (0 + 3), none⟩) fun A10 k11 k12 =>
ACalls Try.prog 22 #[(.int .i64 0), (.int .i64 0)] M2 (fun v13 M14 =>
exSl (some v13) fun A15 k16 k17 =>
((Mem.lds M14 ⟨k1, 0, none⟩ 0 4) = some [(.slice A3 k4 k5), (.slice A6 k7 k8), (.int .i64 n9), (.slice A10 k11 k12)]) ∧
nwc M14 (.cells #[(.int .i64 1), (.slice A15 k16 k17), (.int .i64 0), (.int .i64 0), (.int .i64 0), (.int .i64 0)] 68 (0, 0)) fun k18 M19 =>
nwc M19 (.cells #[(.pointer (some ⟨k18, 0, none⟩))] 65 (0, 0)) fun k20 M21 =>
nwc M21 (.cells #[(.slice A3 k4 k5), (.slice A6 k7 k8), (.int .i64 n9), (.slice A10 k11 k12), (.slice (some ⟨k20, 0, none⟩) 1 1), (.int .u64 0), (.slice none 0 0), (.slice none 0 0), (.slice none 0 0), (.int .u64 0), (.slice none 0 0), (.int .i64 0), (.int .i64 0), (.slice none 0 0), .nilFunc] 76 (0, 0)) fun k22 M23 =>
exSl (Mem.ld M23 ⟨k1, (0 + 1), none⟩) fun A24 k25 k26 =>
∃ I27 : Nat → List Value → Mem → Prop, (∃ k28 : Nat, I27 k28 [(.int .i64 0)] M23) ∧
∀ k29 : Nat, ∀ junk30 : Nat → Value, ∀ n31 : Int, ∀ M32 : Mem, (I27 k29 [(.int .i64 n31)] M32) → bsp (decide ((n31 : Int) < ((k25 : Nat) : Int)))
 (((0 : Int) ≤ n31) ∧
  ((n31 : Int) < ((k25 : Nat) : Int)) ∧
  nilc A24 fun k33 k34 =>
  exI (Mem.ld M32 ⟨k33, (k34 + (Int.toNat n31)), none⟩) .i64 fun n35 =>
  ∃ J36 : List Value → Mem → Prop, ((exSl (Mem.ld M32 ⟨k22, (0 + 6), none⟩) fun A37 k38 k39 =>
    ACalls Try.prog 23 #[(.int .i64 n35)] M32 (fun v40 M41 =>
    exP (some v40) fun A42 =>
    nwc M41 (.cells #[(.pointer A42)] 77 (0, 0)) fun k43 M44 =>
    semK Try.prog (Go.Builtin.append_ #[71, 71] 71 #[(.slice A37 k38 k39), (.slice (some ⟨k43, 0, none⟩) 1 1)]) M44 (fun v45 M46 =>
    exSl (some v45) fun A47 k48 k49 =>
    stc M46 ⟨k22, (0 + 6), none⟩ (.slice A47 k48 k49) fun M50 =>
    J36 [] M50) Kp) Kp) ∧
   (ACalls Try.prog 23 #[(.int .i64 n35)] M32 (fun v51 M52 =>
    exP (some v51) fun A53 =>
    exSl (Mem.ld M52 ⟨k22, (0 + 6), none⟩) fun A54 k55 k56 =>
    nwc M52 (.cells #[(.pointer A53)] 77 (0, 0)) fun k57 M58 =>
    semK Try.prog (Go.Builtin.append_ #[71, 71] 71 #[(.slice A54 k55 k56), (.slice (some ⟨k57, 0, none⟩) 1 1)]) M58 (fun v59 M60 =>
    exSl (some v59) fun A61 k62 k63 =>
    stc M60 ⟨k22, (0 + 6), none⟩ (.slice A61 k62 k63) fun M64 =>
    J36 [] M64) Kp) Kp) ∧
   True) ∧
  ∀ junk65 : Nat → Value, ∀ M66 : Mem, (J36 [] M66) → ∃ k67 : Nat, (k67 < k29) ∧
  I27 k67 [(.int .i64 (IntKind.wrap .i64 (n31 + 1)))] M66)
 (exI (Mem.ld M32 ⟨k1, (0 + 2), none⟩) .i64 fun n68 =>
  ∃ I69 : Nat → List Value → Mem → Prop, (∃ k70 : Nat, I69 k70 [(.int .i64 0)] M32) ∧
  ∀ k71 : Nat, ∀ junk72 : Nat → Value, ∀ n73 : Int, ∀ M74 : Mem, (I69 k71 [(.int .i64 n73)] M74) → bsp (decide ((n73 : Int) < n68))
   (∃ J75 : List Value → Mem → Prop, ((exSl (Mem.ld M74 ⟨k22, (0 + 7), none⟩) fun A76 k77 k78 =>
      ACalls Try.prog 24 #[] M74 (fun v79 M80 =>
      exP (some v79) fun A81 =>
      nwc M80 (.cells #[(.pointer A81)] 79 (0, 0)) fun k82 M83 =>
      semK Try.prog (Go.Builtin.append_ #[72, 72] 72 #[(.slice A76 k77 k78), (.slice (some ⟨k82, 0, none⟩) 1 1)]) M83 (fun v84 M85 =>
      exSl (some v84) fun A86 k87 k88 =>
      stc M85 ⟨k22, (0 + 7), none⟩ (.slice A86 k87 k88) fun M89 =>
      J75 [] M89) Kp) Kp) ∧
     (ACalls Try.prog 24 #[] M74 (fun v90 M91 =>
      exP (some v90) fun A92 =>
      exSl (Mem.ld M91 ⟨k22, (0 + 7), none⟩) fun A93 k94 k95 =>
      nwc M91 (.cells #[(.pointer A92)] 79 (0, 0)) fun k96 M97 =>
      semK Try.prog (Go.Builtin.append_ #[72, 72] 72 #[(.slice A93 k94 k95), (.slice (some ⟨k96, 0, none⟩) 1 1)]) M97 (fun v98 M99 =>
      exSl (some v98) fun A100 k101 k102 =>
      stc M99 ⟨k22, (0 + 7), none⟩ (.slice A100 k101 k102) fun M103 =>
      J75 [] M103) Kp) Kp) ∧
     True) ∧
    ∀ junk104 : Nat → Value, ∀ M105 : Mem, (J75 [] M105) → ∃ k106 : Nat, (k106 < k71) ∧
    I69 k106 [(.int .i64 (IntKind.wrap .i64 (n73 + 1)))] M105)
   (K (.pointer (some ⟨k22, 0, none⟩)) M74))) Kp) :
  ACalls Try.prog 7 ([.agg #[.slice B0_0 m0_0 c0_0, .slice B0_1 m0_1 c0_1, .int .i64 x0_2, .slice B0_3 m0_3 c0_3]] : List Value).toArray M K Kp :=
  acalls_vc (C := Cx) good [(1, .reg [0, 0, 2, 6, 14, 31, 63, 127] (.prom 0 (.step 1 (.step 2 (.step 3 (.step 4 (.step 5 (.step 6 (.step 7 .done))))))))), (2000000, .loop [(16, .c (.int .i64))]), (5, .regc [0, 0, 2, 6, 14, 0, 32, 96, 254, 511, 1023, 2047] (.step 0 (.step 1 (.step 2 (.step 3 (.step 5 (.fork 4 (.step 6 (.step 7 (.step 8 (.step 9 (.step 10 (.step 11 .done)))))) (.fork 6 (.step 4 (.step 7 (.step 8 (.step 9 (.step 10 (.step 11 .done)))))) .dead))))))) []), (2000002, .loop [(34, .c (.int .i64))]), (9, .regc [0, 0, 2, 6, 14, 0, 32, 126, 255, 511, 1023] (.step 0 (.step 1 (.step 2 (.step 3 (.fork 4 (.step 5 (.step 6 (.step 7 (.step 8 (.step 9 (.step 10 .done)))))) (.fork 5 (.step 4 (.step 6 (.step 7 (.step 8 (.step 9 (.step 10 .done)))))) .dead)))))) [])] Try.func7 (by kernel_rfl) (by kernel_rfl) h

theorem vc_world_World_Exec {b0 o0 : Nat} {x1 : Int} {u2 : Value} {M : Mem} {K : Value → Mem → Prop} {Kp : List PanicEntry → Mem → Prop} (h :
nwc M (.cells #[(.bool false), (.slice none 0 0)] 39 (0, 0)) fun k1 M2 =>
bsp (decide ((x1 : Int) < 0))
 (stc M2 ⟨k1, 0, none⟩ (.bool false) fun M3 =>
  stc M3 ⟨k1, (0 + 1), none⟩ (.slice none 0 0) fun M4 =>
  exB (Mem.ld M4 ⟨k1, 0, none⟩) fun t5 =>
  exSl (Mem.ld M4 ⟨k1, (0 + 1), none⟩) fun A6 k7 k8 =>
  K (.agg #[(.bool t5), (.slice A6 k7 k8)]) M4)
 (exSl (Mem.ld M2 ⟨b0, (o0 + 4), none⟩) fun A9 k10 k11 =>
  bsp (decide ((x1 : Int) ≥ ((k10 : Nat) : Int)))
   (stc M2 ⟨k1, 0, none⟩ (.bool false) fun M12 =>
    stc M12 ⟨k1, (0 + 1), none⟩ (.slice none 0 0) fun M13 =>
    exB (Mem.ld M13 ⟨k1, 0, none⟩) fun t14 =>
    exSl (Mem.ld M13 ⟨k1, (0 + 1), none⟩) fun A15 k16 k17 =>
    K (.agg #[(.bool t14), (.slice A15 k16 k17)]) M13)
   (exI (Mem.ld M2 ⟨b0, (o0 + 11), none⟩) .i64 fun n18 =>
    bsp (n18 != 0)
     (stc M2 ⟨k1, 0, none⟩ (.bool false) fun M19 =>
      stc M19 ⟨k1, (0 + 1), none⟩ (.slice none 0 0) fun M20 =>
      exB (Mem.ld M20 ⟨k1, 0, none⟩) fun t21 =>
      exSl (Mem.ld M20 ⟨k1, (0 + 1), none⟩) fun A22 k23 k24 =>
      K (.agg #[(.bool t21), (.slice A22 k23 k24)]) M20)
     (exSl (Mem.ld M2 ⟨b0, (o0 + 4), none⟩) fun A25 k26 k27 =>
      ((0 : Int) ≤ x1) ∧
      ((x1 : Int) < ((k26 : Nat) : Int)) ∧
      nilc A25 fun k28 k29 =>
      exP (Mem.ld M2 ⟨k28, (k29 + (Int.toNat x1)), none⟩) fun A30 =>
      nilc A30 fun k31 k32 =>
      exI (Mem.ld M2 ⟨k31, k32, none⟩) .i64 fun n33 =>
      bsp (n33 != 1)
       (stc M2 ⟨k1, 0, none⟩ (.bool false) fun M34 =>
        stc M34 ⟨k1, (0 + 1), none⟩ (.slice none 0 0) fun M35 =>
        exB (Mem.ld M35 ⟨k1, 0, none⟩) fun t36 =>
        exSl (Mem.ld M35 ⟨k1, (0 + 1), none⟩) fun A37 k38 k39 =>
        K (.agg #[(.bool t36), (.slice A37 k38 k39)]) M35)
       (stc M2 ⟨b0, (o0 + 13), none⟩ (.slice none 0 0) fun M40 =>
        pcell u2 <|
        stc M40 ⟨b0, (o0 + 14), none⟩ u2 fun M41 =>
        ACalls Try.prog 25 #[(.pointer (some ⟨b0, o0, none⟩)), (.int .i64 x1)] M41 (fun v42 M43 =>
        exB (some v42) fun t44 =>
        bsp (!t44)
         (exI (Mem.ld M43 ⟨b0, (o0 + 11), none⟩) .i64 fun n45 =>
          bsp (n45 == 0)
           (exSl (Mem.ld M43 ⟨b0, (o0 + 4), none⟩) fun A46 k47 k48 =>
            ((0 : Int) ≤ x1) ∧
            ((x1 : Int) < ((k47 : Nat) : Int)) ∧
            nilc A46 fun k49 k50 =>
            exP (Mem.ld M43 ⟨k49, (k50 + (Int.toNat x1)), none⟩) fun A51 =>
            nilc A51 fun k52 k53 =>
            exI (Mem.ld M43 ⟨k52, k53, none⟩) .i64 fun n54 =>
            exSl (Mem.ld M43 ⟨b0, (o0 + 13), none⟩) fun A55 k56 k57 =>
            stc M43 ⟨k1, 0, none⟩ (.bool (n54 == 1)) fun M58 =>
            stc M58 ⟨k1, (0 + 1), none⟩ (.slice A55 k56 k57) fun M59 =>
            exB (Mem.ld M59 ⟨k1, 0, none⟩) fun t60 =>
            exSl (Mem.ld M59 ⟨k1, (0 + 1), none⟩) fun A61 k62 k63 =>
            K (.agg #[(.bool t60), (.slice A61 k62 k63)]) M59)
           (exSl (Mem.ld M43 ⟨b0, (o0 + 13), none⟩) fun A64 k65 k66 =>
            stc M43 ⟨k1, 0, none⟩ (.bool false) fun M67 =>
            stc M67 ⟨k1, (0 + 1), none⟩ (.slice A64 k65 k66) fun M68 =>
            exB (Mem.ld M68 ⟨k1, 0, none⟩) fun t69 =>
            exSl (Mem.ld M68 ⟨k1, (0 + 1), none⟩) fun A70 k71 k72 =>
            K (.agg #[(.bool t69), (.slice A70 k71 k72)]) M68))
         (exSl (Mem.ld M43 ⟨b0, (o0 + 13), none⟩) fun A73 k74 k75 =>
          stc M43 ⟨k1, 0, none⟩ (.bool false) fun M76 =>
          stc M76 ⟨k1, (0 + 1), none⟩ (.slice A73 k74 k75) fun M77 =>
          exB (Mem.ld M77 ⟨k1, 0, none⟩) fun t78 =>
          exSl (Mem.ld M77 ⟨k1, (0 + 1), none⟩) fun A79 k80 k81 =>
          K (.agg #[(.bool t78), (.slice A79 k80 k81)]) M77)) Kp))))) :
  ACalls Try.prog 9 ([.pointer (some ⟨b0, o0, none⟩), .int .i64 x1, u2] : List Value).toArray M K Kp :=
  acalls_vc (C := Cx) good [(5, .reg [0, 1, 3, 7, 15, 31, 63, 127, 255, 511, 1023, 2047, 4095, 8191, 1023, 32767, 65535, 131071, 262143, 524287, 1048575, 2097151, 0, 4194304, 12582912, 29360128, 67108863, 134217727] (.step 0 (.step 1 (.step 2 (.step 3 (.step 4 (.step 5 (.step 22 (.step 23 (.step 24 (.step 6 (.step 7 (.step 8 (.step 9 (.step 10 (.step 11 (.step 12 (.step 14 (.step 13 (.step 15 (.step 16 (.step 17 (.step 18 (.step 19 (.step 20 (.step 21 (.step 25 (.step 26 (.step 27 .done)))))))))))))))))))))))))))))] Try.func9 (by kernel_rfl) (by kernel_rfl) h

end Go.Proofs
