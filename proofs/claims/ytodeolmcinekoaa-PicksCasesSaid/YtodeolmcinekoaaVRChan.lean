/- A part of proofs about functions of one program: a condition over a partial memory that is enough for a call, and what calls answer by it. No condition of its own. -/
import Derived.Test.YtodeolmcinekoaaCx
namespace Go.Proofs
open Go.AF
set_option linter.unusedVariables false
set_option maxRecDepth 100000
theorem vc_shunterref13_New {x0 : Int} {M : Mem} {K : Value → Mem → Prop} {Kp : List PanicEntry → Mem → Prop} (h :
nwc M (.cells #[(.int .i64 0), (.slice none 0 0), (.slice none 0 0), (.slice none 0 0), (.bool false)] 91 (0, 0)) fun k1 M2 =>
stc M2 ⟨k1, 0, none⟩ (.int .i64 (if ((if (16 : Int) < x0 then 16 else x0) : Int) > 0 then (if (16 : Int) < x0 then 16 else x0) else 0)) fun M3 =>
stc M3 ⟨k1, (0 + 1), none⟩ (.slice none 0 0) fun M4 =>
stc M4 ⟨k1, (0 + 2), none⟩ (.slice none 0 0) fun M5 =>
stc M5 ⟨k1, (0 + 3), none⟩ (.slice none 0 0) fun M6 =>
stc M6 ⟨k1, (0 + 4), none⟩ (.bool false) fun M7 =>
exI (Mem.ld M7 ⟨k1, 0, none⟩) .i64 fun n8 =>
exSl (Mem.ld M7 ⟨k1, (0 + 1), none⟩) fun A9 k10 k11 =>
exSl (Mem.ld M7 ⟨k1, (0 + 2), none⟩) fun A12 k13 k14 =>
exSl (Mem.ld M7 ⟨k1, (0 + 3), none⟩) fun A15 k16 k17 =>
exB (Mem.ld M7 ⟨k1, (0 + 4), none⟩) fun t18 =>
K (.agg #[(.int .i64 n8), (.slice A9 k10 k11), (.slice A12 k13 k14), (.slice A15 k16 k17), (.bool t18)]) M7) :
  ACalls Try.prog 51 ([.int .i64 x0] : List Value).toArray M K Kp :=
  acalls_vc (C := Cx) good [] Try.func51 (by kernel_rfl) (by kernel_rfl) h

theorem vc_shunterref13_Send {x0_0 : Int} {B0_1 : Option Addr} {m0_1 c0_1 : Nat} {B0_2 : Option Addr} {m0_2 c0_2 : Nat} {B0_3 : Option Addr} {m0_3 c0_3 : Nat} {q0_4 : Bool} {x1 : Int} {M : Mem} {K : Value → Mem → Prop} {Kp : List PanicEntry → Mem → Prop} (h :
nwc M (.cells #[(.int .i64 x0_0), (.slice B0_1 m0_1 c0_1), (.slice B0_2 m0_2 c0_2), (.slice B0_3 m0_3 c0_3), (.bool q0_4)] 91 (0, 0)) fun k1 M2 =>
nwc M2 (.cells #[(.int .i64 0), (.slice none 0 0), (.slice none 0 0), (.slice none 0 0), (.bool false)] 91 (0, 0)) fun k3 M4 =>
nwc M4 (.cells #[(.int .i64 0), (.int .i64 0), (.int .i64 0)] 96 (0, 0)) fun k5 M6 =>
exB (Mem.ld M6 ⟨k1, (0 + 4), none⟩) fun t7 =>
bsp t7
 (exI (Mem.ld M6 ⟨k1, 0, none⟩) .i64 fun n8 =>
  exSl (Mem.ld M6 ⟨k1, (0 + 1), none⟩) fun A9 k10 k11 =>
  exSl (Mem.ld M6 ⟨k1, (0 + 2), none⟩) fun A12 k13 k14 =>
  exSl (Mem.ld M6 ⟨k1, (0 + 3), none⟩) fun A15 k16 k17 =>
  exB (Mem.ld M6 ⟨k1, (0 + 4), none⟩) fun t18 =>
  stc M6 ⟨k3, 0, none⟩ (.int .i64 n8) fun M19 =>
  stc M19 ⟨k3, (0 + 1), none⟩ (.slice A9 k10 k11) fun M20 =>
  stc M20 ⟨k3, (0 + 2), none⟩ (.slice A12 k13 k14) fun M21 =>
  stc M21 ⟨k3, (0 + 3), none⟩ (.slice A15 k16 k17) fun M22 =>
  stc M22 ⟨k3, (0 + 4), none⟩ (.bool t18) fun M23 =>
  stc M23 ⟨k5, 0, none⟩ (.int .i64 0) fun M24 =>
  stc M24 ⟨k5, (0 + 1), none⟩ (.int .i64 0) fun M25 =>
  stc M25 ⟨k5, (0 + 2), none⟩ (.int .i64 0) fun M26 =>
  exI (Mem.ld M26 ⟨k3, 0, none⟩) .i64 fun n27 =>
  exSl (Mem.ld M26 ⟨k3, (0 + 1), none⟩) fun A28 k29 k30 =>
  exSl (Mem.ld M26 ⟨k3, (0 + 2), none⟩) fun A31 k32 k33 =>
  exSl (Mem.ld M26 ⟨k3, (0 + 3), none⟩) fun A34 k35 k36 =>
  exB (Mem.ld M26 ⟨k3, (0 + 4), none⟩) fun t37 =>
  exI (Mem.ld M26 ⟨k5, 0, none⟩) .i64 fun n38 =>
  exI (Mem.ld M26 ⟨k5, (0 + 1), none⟩) .i64 fun n39 =>
  exI (Mem.ld M26 ⟨k5, (0 + 2), none⟩) .i64 fun n40 =>
  K (.tuple #[(.agg #[(.int .i64 n27), (.slice A28 k29 k30), (.slice A31 k32 k33), (.slice A34 k35 k36), (.bool t37)]), (.agg #[(.int .i64 n38), (.int .i64 n39), (.int .i64 n40)]), (.bool false), (.int .i64 10)]) M26)
 (exSl (Mem.ld M6 ⟨k1, (0 + 3), none⟩) fun A41 k42 k43 =>
  bsp (decide ((((k42 : Nat) : Int) : Int) > 0))
   (exSl (Mem.ld M6 ⟨k1, (0 + 3), none⟩) fun A44 k45 k46 =>
    ((0 : Int) ≤ 0) ∧
    ((0 : Int) < ((k45 : Nat) : Int)) ∧
    nilc A44 fun k47 k48 =>
    exI (Mem.ld M6 ⟨k47, (k48 + 0), none⟩) .i64 fun n49 =>
    exI (Mem.ld M6 ⟨k47, ((k48 + 0) + 1), none⟩) .i64 fun n50 =>
    exI (Mem.ld M6 ⟨k47, ((k48 + 0) + 2), none⟩) .i64 fun n51 =>
    nwc M6 (.cells #[(.int .i64 0), (.int .i64 0), (.int .i64 0)] 96 (0, 0)) fun k52 M53 =>
    stc M53 ⟨k52, 0, none⟩ (.int .i64 n49) fun M54 =>
    stc M54 ⟨k52, (0 + 1), none⟩ (.int .i64 n50) fun M55 =>
    stc M55 ⟨k52, (0 + 2), none⟩ (.int .i64 n51) fun M56 =>
    stc M56 ⟨k52, (0 + 2), none⟩ (.int .i64 x1) fun M57 =>
    exSl (Mem.ld M57 ⟨k1, (0 + 3), none⟩) fun A58 k59 k60 =>
    ACalls Try.prog 108 #[(.slice A58 k59 k60)] M57 (fun v61 M62 =>
    exSl (some v61) fun A63 k64 k65 =>
    stc M62 ⟨k1, (0 + 3), none⟩ (.slice A63 k64 k65) fun M66 =>
    exI (Mem.ld M66 ⟨k1, 0, none⟩) .i64 fun n67 =>
    exSl (Mem.ld M66 ⟨k1, (0 + 1), none⟩) fun A68 k69 k70 =>
    exSl (Mem.ld M66 ⟨k1, (0 + 2), none⟩) fun A71 k72 k73 =>
    exSl (Mem.ld M66 ⟨k1, (0 + 3), none⟩) fun A74 k75 k76 =>
    exB (Mem.ld M66 ⟨k1, (0 + 4), none⟩) fun t77 =>
    exI (Mem.ld M66 ⟨k52, 0, none⟩) .i64 fun n78 =>
    exI (Mem.ld M66 ⟨k52, (0 + 1), none⟩) .i64 fun n79 =>
    exI (Mem.ld M66 ⟨k52, (0 + 2), none⟩) .i64 fun n80 =>
    stc M66 ⟨k3, 0, none⟩ (.int .i64 n67) fun M81 =>
    stc M81 ⟨k3, (0 + 1), none⟩ (.slice A68 k69 k70) fun M82 =>
    stc M82 ⟨k3, (0 + 2), none⟩ (.slice A71 k72 k73) fun M83 =>
    stc M83 ⟨k3, (0 + 3), none⟩ (.slice A74 k75 k76) fun M84 =>
    stc M84 ⟨k3, (0 + 4), none⟩ (.bool t77) fun M85 =>
    ((Mem.lds M85 ⟨k52, 0, none⟩ 0 3) = some [(.int .i64 n78), (.int .i64 n79), (.int .i64 n80)]) ∧
    stc M85 ⟨k5, 0, none⟩ (.int .i64 n78) fun M86 =>
    stc M86 ⟨k5, (0 + 1), none⟩ (.int .i64 n79) fun M87 =>
    stc M87 ⟨k5, (0 + 2), none⟩ (.int .i64 n80) fun M88 =>
    ((Mem.lds M88 ⟨k52, 0, none⟩ 0 3) = some [(.int .i64 n78), (.int .i64 n79), (.int .i64 n80)]) ∧
    exI (Mem.ld M88 ⟨k3, 0, none⟩) .i64 fun n89 =>
    exSl (Mem.ld M88 ⟨k3, (0 + 1), none⟩) fun A90 k91 k92 =>
    exSl (Mem.ld M88 ⟨k3, (0 + 2), none⟩) fun A93 k94 k95 =>
    exSl (Mem.ld M88 ⟨k3, (0 + 3), none⟩) fun A96 k97 k98 =>
    exB (Mem.ld M88 ⟨k3, (0 + 4), none⟩) fun t99 =>
    exI (Mem.ld M88 ⟨k5, 0, none⟩) .i64 fun n100 =>
    exI (Mem.ld M88 ⟨k5, (0 + 1), none⟩) .i64 fun n101 =>
    exI (Mem.ld M88 ⟨k5, (0 + 2), none⟩) .i64 fun n102 =>
    K (.tuple #[(.agg #[(.int .i64 n89), (.slice A90 k91 k92), (.slice A93 k94 k95), (.slice A96 k97 k98), (.bool t99)]), (.agg #[(.int .i64 n100), (.int .i64 n101), (.int .i64 n102)]), (.bool true), (.int .i64 0)]) M88) Kp)
   (exSl (Mem.ld M6 ⟨k1, (0 + 1), none⟩) fun A103 k104 k105 =>
    exI (Mem.ld M6 ⟨k1, 0, none⟩) .i64 fun n106 =>
    bsp (decide ((((k104 : Nat) : Int) : Int) ≥ n106))
     (exI (Mem.ld M6 ⟨k1, 0, none⟩) .i64 fun n107 =>
      exSl (Mem.ld M6 ⟨k1, (0 + 1), none⟩) fun A108 k109 k110 =>
      exSl (Mem.ld M6 ⟨k1, (0 + 2), none⟩) fun A111 k112 k113 =>
      exSl (Mem.ld M6 ⟨k1, (0 + 3), none⟩) fun A114 k115 k116 =>
      exB (Mem.ld M6 ⟨k1, (0 + 4), none⟩) fun t117 =>
      stc M6 ⟨k3, 0, none⟩ (.int .i64 n107) fun M118 =>
      stc M118 ⟨k3, (0 + 1), none⟩ (.slice A108 k109 k110) fun M119 =>
      stc M119 ⟨k3, (0 + 2), none⟩ (.slice A111 k112 k113) fun M120 =>
      stc M120 ⟨k3, (0 + 3), none⟩ (.slice A114 k115 k116) fun M121 =>
      stc M121 ⟨k3, (0 + 4), none⟩ (.bool t117) fun M122 =>
      stc M122 ⟨k5, 0, none⟩ (.int .i64 0) fun M123 =>
      stc M123 ⟨k5, (0 + 1), none⟩ (.int .i64 0) fun M124 =>
      stc M124 ⟨k5, (0 + 2), none⟩ (.int .i64 0) fun M125 =>
      exI (Mem.ld M125 ⟨k3, 0, none⟩) .i64 fun n126 =>
      exSl (Mem.ld M125 ⟨k3, (0 + 1), none⟩) fun A127 k128 k129 =>
      exSl (Mem.ld M125 ⟨k3, (0 + 2), none⟩) fun A130 k131 k132 =>
      exSl (Mem.ld M125 ⟨k3, (0 + 3), none⟩) fun A133 k134 k135 =>
      exB (Mem.ld M125 ⟨k3, (0 + 4), none⟩) fun t136 =>
      exI (Mem.ld M125 ⟨k5, 0, none⟩) .i64 fun n137 =>
      exI (Mem.ld M125 ⟨k5, (0 + 1), none⟩) .i64 fun n138 =>
      exI (Mem.ld M125 ⟨k5, (0 + 2), none⟩) .i64 fun n139 =>
      K (.tuple #[(.agg #[(.int .i64 n126), (.slice A127 k128 k129), (.slice A130 k131 k132), (.slice A133 k134 k135), (.bool t136)]), (.agg #[(.int .i64 n137), (.int .i64 n138), (.int .i64 n139)]), (.bool false), (.int .i64 6)]) M125)
     (nwc M6 (.cells #[] 2 (0, 0)) fun k140 M141 =>
      exSl (Mem.ld M141 ⟨k1, (0 + 1), none⟩) fun A142 k143 k144 =>
      semK Try.prog (Go.Builtin.append_ #[49, 49] 49 #[(.slice (some ⟨k140, 0, none⟩) 0 0), (.slice A142 k143 k144)]) M141 (fun v145 M146 =>
      exSl (some v145) fun A147 k148 k149 =>
      nwc M146 (.cells #[(.int .i64 x1)] 2 (0, 0)) fun k150 M151 =>
      semK Try.prog (Go.Builtin.append_ #[49, 49] 49 #[(.slice A147 k148 k149), (.slice (some ⟨k150, 0, none⟩) 1 1)]) M151 (fun v152 M153 =>
      exSl (some v152) fun A154 k155 k156 =>
      stc M153 ⟨k1, (0 + 1), none⟩ (.slice A154 k155 k156) fun M157 =>
      exI (Mem.ld M157 ⟨k1, 0, none⟩) .i64 fun n158 =>
      exSl (Mem.ld M157 ⟨k1, (0 + 1), none⟩) fun A159 k160 k161 =>
      exSl (Mem.ld M157 ⟨k1, (0 + 2), none⟩) fun A162 k163 k164 =>
      exSl (Mem.ld M157 ⟨k1, (0 + 3), none⟩) fun A165 k166 k167 =>
      exB (Mem.ld M157 ⟨k1, (0 + 4), none⟩) fun t168 =>
      stc M157 ⟨k3, 0, none⟩ (.int .i64 n158) fun M169 =>
      stc M169 ⟨k3, (0 + 1), none⟩ (.slice A159 k160 k161) fun M170 =>
      stc M170 ⟨k3, (0 + 2), none⟩ (.slice A162 k163 k164) fun M171 =>
      stc M171 ⟨k3, (0 + 3), none⟩ (.slice A165 k166 k167) fun M172 =>
      stc M172 ⟨k3, (0 + 4), none⟩ (.bool t168) fun M173 =>
      stc M173 ⟨k5, 0, none⟩ (.int .i64 0) fun M174 =>
      stc M174 ⟨k5, (0 + 1), none⟩ (.int .i64 0) fun M175 =>
      stc M175 ⟨k5, (0 + 2), none⟩ (.int .i64 0) fun M176 =>
      exI (Mem.ld M176 ⟨k3, 0, none⟩) .i64 fun n177 =>
      exSl (Mem.ld M176 ⟨k3, (0 + 1), none⟩) fun A178 k179 k180 =>
      exSl (Mem.ld M176 ⟨k3, (0 + 2), none⟩) fun A181 k182 k183 =>
      exSl (Mem.ld M176 ⟨k3, (0 + 3), none⟩) fun A184 k185 k186 =>
      exB (Mem.ld M176 ⟨k3, (0 + 4), none⟩) fun t187 =>
      exI (Mem.ld M176 ⟨k5, 0, none⟩) .i64 fun n188 =>
      exI (Mem.ld M176 ⟨k5, (0 + 1), none⟩) .i64 fun n189 =>
      exI (Mem.ld M176 ⟨k5, (0 + 2), none⟩) .i64 fun n190 =>
      K (.tuple #[(.agg #[(.int .i64 n177), (.slice A178 k179 k180), (.slice A181 k182 k183), (.slice A184 k185 k186), (.bool t187)]), (.agg #[(.int .i64 n188), (.int .i64 n189), (.int .i64 n190)]), (.bool false), (.int .i64 0)]) M176) Kp) Kp)))) :
  ACalls Try.prog 87 ([.agg #[.int .i64 x0_0, .slice B0_1 m0_1 c0_1, .slice B0_2 m0_2 c0_2, .slice B0_3 m0_3 c0_3, .bool q0_4], .int .i64 x1] : List Value).toArray M K Kp :=
  acalls_vc (C := Cx) good [(7, .reg [0, 0, 1, 7, 15, 31] (.step 0 (.prom 1 (.step 2 (.step 3 (.step 4 (.step 5 .done)))))))] Try.func87 (by kernel_rfl) (by kernel_rfl) h

theorem vc_shunterref13_Recv {x0_0 : Int} {B0_1 : Option Addr} {m0_1 c0_1 : Nat} {B0_2 : Option Addr} {m0_2 c0_2 : Nat} {B0_3 : Option Addr} {m0_3 c0_3 : Nat} {q0_4 : Bool} {M : Mem} {K : Value → Mem → Prop} {Kp : List PanicEntry → Mem → Prop} (h :
nwc M (.cells #[(.int .i64 x0_0), (.slice B0_1 m0_1 c0_1), (.slice B0_2 m0_2 c0_2), (.slice B0_3 m0_3 c0_3), (.bool q0_4)] 91 (0, 0)) fun k1 M2 =>
nwc M2 (.cells #[(.int .i64 0), (.slice none 0 0), (.slice none 0 0), (.slice none 0 0), (.bool false)] 91 (0, 0)) fun k3 M4 =>
nwc M4 (.cells #[(.int .i64 0), (.int .i64 0), (.int .i64 0)] 96 (0, 0)) fun k5 M6 =>
nwc M6 (.cells #[(.int .i64 0), (.int .i64 0), (.int .i64 0)] 96 (0, 0)) fun k7 M8 =>
stc M8 ⟨k7, 0, none⟩ (.int .i64 0) fun M9 =>
stc M9 ⟨k7, (0 + 1), none⟩ (.int .i64 0) fun M10 =>
stc M10 ⟨k7, (0 + 2), none⟩ (.int .i64 0) fun M11 =>
nwc M11 (.cells #[] 2 (0, 0)) fun k12 M13 =>
exSl (Mem.ld M13 ⟨k1, (0 + 1), none⟩) fun A14 k15 k16 =>
semK Try.prog (Go.Builtin.append_ #[49, 49] 49 #[(.slice (some ⟨k12, 0, none⟩) 0 0), (.slice A14 k15 k16)]) M13 (fun v17 M18 =>
exSl (some v17) fun A19 k20 k21 =>
exSl (Mem.ld M18 ⟨k1, (0 + 2), none⟩) fun A22 k23 k24 =>
bsp (decide ((((k23 : Nat) : Int) : Int) > 0))
 (exSl (Mem.ld M18 ⟨k1, (0 + 2), none⟩) fun A25 k26 k27 =>
  ((0 : Int) ≤ 0) ∧
  ((0 : Int) < ((k26 : Nat) : Int)) ∧
  nilc A25 fun k28 k29 =>
  exI (Mem.ld M18 ⟨k28, (k29 + 0), none⟩) .i64 fun n30 =>
  exI (Mem.ld M18 ⟨k28, ((k29 + 0) + 1), none⟩) .i64 fun n31 =>
  exI (Mem.ld M18 ⟨k28, ((k29 + 0) + 2), none⟩) .i64 fun n32 =>
  stc M18 ⟨k7, 0, none⟩ (.int .i64 n30) fun M33 =>
  stc M33 ⟨k7, (0 + 1), none⟩ (.int .i64 n31) fun M34 =>
  stc M34 ⟨k7, (0 + 2), none⟩ (.int .i64 n32) fun M35 =>
  exI (Mem.ld M35 ⟨k7, (0 + 2), none⟩) .i64 fun n36 =>
  nwc M35 (.cells #[(.int .i64 n36)] 2 (0, 0)) fun k37 M38 =>
  semK Try.prog (Go.Builtin.append_ #[49, 49] 49 #[(.slice A19 k20 k21), (.slice (some ⟨k37, 0, none⟩) 1 1)]) M38 (fun v39 M40 =>
  exSl (some v39) fun A41 k42 k43 =>
  exSl (Mem.ld M40 ⟨k1, (0 + 2), none⟩) fun A44 k45 k46 =>
  ACalls Try.prog 108 #[(.slice A44 k45 k46)] M40 (fun v47 M48 =>
  exSl (some v47) fun A49 k50 k51 =>
  stc M48 ⟨k1, (0 + 2), none⟩ (.slice A49 k50 k51) fun M52 =>
  bsp (decide ((((k42 : Nat) : Int) : Int) > 0))
   (((0 : Int) ≤ ((k43 : Nat) : Int)) ∧
    ((((k43 : Nat) : Int) : Int) ≤ ((k43 : Nat) : Int)) ∧
    ((0 : Int) ≤ ((k42 : Nat) : Int)) ∧
    ((((k42 : Nat) : Int) : Int) ≤ ((k43 : Nat) : Int)) ∧
    ((0 : Int) ≤ 1) ∧
    ((1 : Int) ≤ ((k42 : Nat) : Int)) ∧
    stc M52 ⟨k1, (0 + 1), none⟩ (.slice (slA A41 1 (Int.toNat ((k43 : Nat) : Int)) 1) ((Int.toNat ((k42 : Nat) : Int)) - 1) ((Int.toNat ((k43 : Nat) : Int)) - 1)) fun M53 =>
    ((0 : Int) ≤ 0) ∧
    ((0 : Int) < ((k42 : Nat) : Int)) ∧
    nilc A41 fun k54 k55 =>
    exI (Mem.ld M53 ⟨k1, 0, none⟩) .i64 fun n56 =>
    exSl (Mem.ld M53 ⟨k1, (0 + 1), none⟩) fun A57 k58 k59 =>
    exSl (Mem.ld M53 ⟨k1, (0 + 2), none⟩) fun A60 k61 k62 =>
    exSl (Mem.ld M53 ⟨k1, (0 + 3), none⟩) fun A63 k64 k65 =>
    exB (Mem.ld M53 ⟨k1, (0 + 4), none⟩) fun t66 =>
    exI (Mem.ld M53 ⟨k54, (k55 + 0), none⟩) .i64 fun n67 =>
    exI (Mem.ld M53 ⟨k7, 0, none⟩) .i64 fun n68 =>
    exI (Mem.ld M53 ⟨k7, (0 + 1), none⟩) .i64 fun n69 =>
    exI (Mem.ld M53 ⟨k7, (0 + 2), none⟩) .i64 fun n70 =>
    stc M53 ⟨k3, 0, none⟩ (.int .i64 n56) fun M71 =>
    stc M71 ⟨k3, (0 + 1), none⟩ (.slice A57 k58 k59) fun M72 =>
    stc M72 ⟨k3, (0 + 2), none⟩ (.slice A60 k61 k62) fun M73 =>
    stc M73 ⟨k3, (0 + 3), none⟩ (.slice A63 k64 k65) fun M74 =>
    stc M74 ⟨k3, (0 + 4), none⟩ (.bool t66) fun M75 =>
    ((Mem.lds M75 ⟨k7, 0, none⟩ 0 3) = some [(.int .i64 n68), (.int .i64 n69), (.int .i64 n70)]) ∧
    ((Mem.ld M75 ⟨k54, (k55 + 0), none⟩) = (some (.int .i64 n67))) ∧
    stc M75 ⟨k5, 0, none⟩ (.int .i64 n68) fun M76 =>
    stc M76 ⟨k5, (0 + 1), none⟩ (.int .i64 n69) fun M77 =>
    stc M77 ⟨k5, (0 + 2), none⟩ (.int .i64 n70) fun M78 =>
    ((Mem.lds M78 ⟨k7, 0, none⟩ 0 3) = some [(.int .i64 n68), (.int .i64 n69), (.int .i64 n70)]) ∧
    ((Mem.ld M78 ⟨k54, (k55 + 0), none⟩) = (some (.int .i64 n67))) ∧
    exI (Mem.ld M78 ⟨k3, 0, none⟩) .i64 fun n79 =>
    exSl (Mem.ld M78 ⟨k3, (0 + 1), none⟩) fun A80 k81 k82 =>
    exSl (Mem.ld M78 ⟨k3, (0 + 2), none⟩) fun A83 k84 k85 =>
    exSl (Mem.ld M78 ⟨k3, (0 + 3), none⟩) fun A86 k87 k88 =>
    exB (Mem.ld M78 ⟨k3, (0 + 4), none⟩) fun t89 =>
    exI (Mem.ld M78 ⟨k5, 0, none⟩) .i64 fun n90 =>
    exI (Mem.ld M78 ⟨k5, (0 + 1), none⟩) .i64 fun n91 =>
    exI (Mem.ld M78 ⟨k5, (0 + 2), none⟩) .i64 fun n92 =>
    K (.tuple #[(.agg #[(.int .i64 n79), (.slice A80 k81 k82), (.slice A83 k84 k85), (.slice A86 k87 k88), (.bool t89)]), (.int .i64 n67), (.bool true), (.agg #[(.int .i64 n90), (.int .i64 n91), (.int .i64 n92)]), (.bool true), (.int .i64 0)]) M78)
   (exB (Mem.ld M52 ⟨k1, (0 + 4), none⟩) fun t93 =>
    bsp t93
     (exI (Mem.ld M52 ⟨k1, 0, none⟩) .i64 fun n94 =>
      exSl (Mem.ld M52 ⟨k1, (0 + 1), none⟩) fun A95 k96 k97 =>
      exSl (Mem.ld M52 ⟨k1, (0 + 2), none⟩) fun A98 k99 k100 =>
      exSl (Mem.ld M52 ⟨k1, (0 + 3), none⟩) fun A101 k102 k103 =>
      exB (Mem.ld M52 ⟨k1, (0 + 4), none⟩) fun t104 =>
      exI (Mem.ld M52 ⟨k7, 0, none⟩) .i64 fun n105 =>
      exI (Mem.ld M52 ⟨k7, (0 + 1), none⟩) .i64 fun n106 =>
      exI (Mem.ld M52 ⟨k7, (0 + 2), none⟩) .i64 fun n107 =>
      stc M52 ⟨k3, 0, none⟩ (.int .i64 n94) fun M108 =>
      stc M108 ⟨k3, (0 + 1), none⟩ (.slice A95 k96 k97) fun M109 =>
      stc M109 ⟨k3, (0 + 2), none⟩ (.slice A98 k99 k100) fun M110 =>
      stc M110 ⟨k3, (0 + 3), none⟩ (.slice A101 k102 k103) fun M111 =>
      stc M111 ⟨k3, (0 + 4), none⟩ (.bool t104) fun M112 =>
      ((Mem.lds M112 ⟨k7, 0, none⟩ 0 3) = some [(.int .i64 n105), (.int .i64 n106), (.int .i64 n107)]) ∧
      stc M112 ⟨k5, 0, none⟩ (.int .i64 n105) fun M113 =>
      stc M113 ⟨k5, (0 + 1), none⟩ (.int .i64 n106) fun M114 =>
      stc M114 ⟨k5, (0 + 2), none⟩ (.int .i64 n107) fun M115 =>
      ((Mem.lds M115 ⟨k7, 0, none⟩ 0 3) = some [(.int .i64 n105), (.int .i64 n106), (.int .i64 n107)]) ∧
      exI (Mem.ld M115 ⟨k3, 0, none⟩) .i64 fun n116 =>
      exSl (Mem.ld M115 ⟨k3, (0 + 1), none⟩) fun A117 k118 k119 =>
      exSl (Mem.ld M115 ⟨k3, (0 + 2), none⟩) fun A120 k121 k122 =>
      exSl (Mem.ld M115 ⟨k3, (0 + 3), none⟩) fun A123 k124 k125 =>
      exB (Mem.ld M115 ⟨k3, (0 + 4), none⟩) fun t126 =>
      exI (Mem.ld M115 ⟨k5, 0, none⟩) .i64 fun n127 =>
      exI (Mem.ld M115 ⟨k5, (0 + 1), none⟩) .i64 fun n128 =>
      exI (Mem.ld M115 ⟨k5, (0 + 2), none⟩) .i64 fun n129 =>
      K (.tuple #[(.agg #[(.int .i64 n116), (.slice A117 k118 k119), (.slice A120 k121 k122), (.slice A123 k124 k125), (.bool t126)]), (.int .i64 0), (.bool false), (.agg #[(.int .i64 n127), (.int .i64 n128), (.int .i64 n129)]), (.bool true), (.int .i64 0)]) M115)
     (exI (Mem.ld M52 ⟨k1, 0, none⟩) .i64 fun n130 =>
      exSl (Mem.ld M52 ⟨k1, (0 + 1), none⟩) fun A131 k132 k133 =>
      exSl (Mem.ld M52 ⟨k1, (0 + 2), none⟩) fun A134 k135 k136 =>
      exSl (Mem.ld M52 ⟨k1, (0 + 3), none⟩) fun A137 k138 k139 =>
      exB (Mem.ld M52 ⟨k1, (0 + 4), none⟩) fun t140 =>
      exI (Mem.ld M52 ⟨k7, 0, none⟩) .i64 fun n141 =>
      exI (Mem.ld M52 ⟨k7, (0 + 1), none⟩) .i64 fun n142 =>
      exI (Mem.ld M52 ⟨k7, (0 + 2), none⟩) .i64 fun n143 =>
      stc M52 ⟨k3, 0, none⟩ (.int .i64 n130) fun M144 =>
      stc M144 ⟨k3, (0 + 1), none⟩ (.slice A131 k132 k133) fun M145 =>
      stc M145 ⟨k3, (0 + 2), none⟩ (.slice A134 k135 k136) fun M146 =>
      stc M146 ⟨k3, (0 + 3), none⟩ (.slice A137 k138 k139) fun M147 =>
      stc M147 ⟨k3, (0 + 4), none⟩ (.bool t140) fun M148 =>
      ((Mem.lds M148 ⟨k7, 0, none⟩ 0 3) = some [(.int .i64 n141), (.int .i64 n142), (.int .i64 n143)]) ∧
      stc M148 ⟨k5, 0, none⟩ (.int .i64 n141) fun M149 =>
      stc M149 ⟨k5, (0 + 1), none⟩ (.int .i64 n142) fun M150 =>
      stc M150 ⟨k5, (0 + 2), none⟩ (.int .i64 n143) fun M151 =>
      ((Mem.lds M151 ⟨k7, 0, none⟩ 0 3) = some [(.int .i64 n141), (.int .i64 n142), (.int .i64 n143)]) ∧
      exI (Mem.ld M151 ⟨k3, 0, none⟩) .i64 fun n152 =>
      exSl (Mem.ld M151 ⟨k3, (0 + 1), none⟩) fun A153 k154 k155 =>
      exSl (Mem.ld M151 ⟨k3, (0 + 2), none⟩) fun A156 k157 k158 =>
      exSl (Mem.ld M151 ⟨k3, (0 + 3), none⟩) fun A159 k160 k161 =>
      exB (Mem.ld M151 ⟨k3, (0 + 4), none⟩) fun t162 =>
      exI (Mem.ld M151 ⟨k5, 0, none⟩) .i64 fun n163 =>
      exI (Mem.ld M151 ⟨k5, (0 + 1), none⟩) .i64 fun n164 =>
      exI (Mem.ld M151 ⟨k5, (0 + 2), none⟩) .i64 fun n165 =>
      K (.tuple #[(.agg #[(.int .i64 n152), (.slice A153 k154 k155), (.slice A156 k157 k158), (.slice A159 k160 k161), (.bool t162)]), (.int .i64 0), (.bool false), (.agg #[(.int .i64 n163), (.int .i64 n164), (.int .i64 n165)]), (.bool true), (.int .i64 5)]) M151))) Kp) Kp)
 (bsp (decide ((((k20 : Nat) : Int) : Int) > 0))
   (((0 : Int) ≤ ((k21 : Nat) : Int)) ∧
    ((((k21 : Nat) : Int) : Int) ≤ ((k21 : Nat) : Int)) ∧
    ((0 : Int) ≤ ((k20 : Nat) : Int)) ∧
    ((((k20 : Nat) : Int) : Int) ≤ ((k21 : Nat) : Int)) ∧
    ((0 : Int) ≤ 1) ∧
    ((1 : Int) ≤ ((k20 : Nat) : Int)) ∧
    stc M18 ⟨k1, (0 + 1), none⟩ (.slice (slA A19 1 (Int.toNat ((k21 : Nat) : Int)) 1) ((Int.toNat ((k20 : Nat) : Int)) - 1) ((Int.toNat ((k21 : Nat) : Int)) - 1)) fun M166 =>
    ((0 : Int) ≤ 0) ∧
    ((0 : Int) < ((k20 : Nat) : Int)) ∧
    nilc A19 fun k167 k168 =>
    exI (Mem.ld M166 ⟨k1, 0, none⟩) .i64 fun n169 =>
    exSl (Mem.ld M166 ⟨k1, (0 + 1), none⟩) fun A170 k171 k172 =>
    exSl (Mem.ld M166 ⟨k1, (0 + 2), none⟩) fun A173 k174 k175 =>
    exSl (Mem.ld M166 ⟨k1, (0 + 3), none⟩) fun A176 k177 k178 =>
    exB (Mem.ld M166 ⟨k1, (0 + 4), none⟩) fun t179 =>
    exI (Mem.ld M166 ⟨k167, (k168 + 0), none⟩) .i64 fun n180 =>
    exI (Mem.ld M166 ⟨k7, 0, none⟩) .i64 fun n181 =>
    exI (Mem.ld M166 ⟨k7, (0 + 1), none⟩) .i64 fun n182 =>
    exI (Mem.ld M166 ⟨k7, (0 + 2), none⟩) .i64 fun n183 =>
    stc M166 ⟨k3, 0, none⟩ (.int .i64 n169) fun M184 =>
    stc M184 ⟨k3, (0 + 1), none⟩ (.slice A170 k171 k172) fun M185 =>
    stc M185 ⟨k3, (0 + 2), none⟩ (.slice A173 k174 k175) fun M186 =>
    stc M186 ⟨k3, (0 + 3), none⟩ (.slice A176 k177 k178) fun M187 =>
    stc M187 ⟨k3, (0 + 4), none⟩ (.bool t179) fun M188 =>
    ((Mem.lds M188 ⟨k7, 0, none⟩ 0 3) = some [(.int .i64 n181), (.int .i64 n182), (.int .i64 n183)]) ∧
    ((Mem.ld M188 ⟨k167, (k168 + 0), none⟩) = (some (.int .i64 n180))) ∧
    stc M188 ⟨k5, 0, none⟩ (.int .i64 n181) fun M189 =>
    stc M189 ⟨k5, (0 + 1), none⟩ (.int .i64 n182) fun M190 =>
    stc M190 ⟨k5, (0 + 2), none⟩ (.int .i64 n183) fun M191 =>
    ((Mem.lds M191 ⟨k7, 0, none⟩ 0 3) = some [(.int .i64 n181), (.int .i64 n182), (.int .i64 n183)]) ∧
    ((Mem.ld M191 ⟨k167, (k168 + 0), none⟩) = (some (.int .i64 n180))) ∧
    exI (Mem.ld M191 ⟨k3, 0, none⟩) .i64 fun n192 =>
    exSl (Mem.ld M191 ⟨k3, (0 + 1), none⟩) fun A193 k194 k195 =>
    exSl (Mem.ld M191 ⟨k3, (0 + 2), none⟩) fun A196 k197 k198 =>
    exSl (Mem.ld M191 ⟨k3, (0 + 3), none⟩) fun A199 k200 k201 =>
    exB (Mem.ld M191 ⟨k3, (0 + 4), none⟩) fun t202 =>
    exI (Mem.ld M191 ⟨k5, 0, none⟩) .i64 fun n203 =>
    exI (Mem.ld M191 ⟨k5, (0 + 1), none⟩) .i64 fun n204 =>
    exI (Mem.ld M191 ⟨k5, (0 + 2), none⟩) .i64 fun n205 =>
    K (.tuple #[(.agg #[(.int .i64 n192), (.slice A193 k194 k195), (.slice A196 k197 k198), (.slice A199 k200 k201), (.bool t202)]), (.int .i64 n180), (.bool true), (.agg #[(.int .i64 n203), (.int .i64 n204), (.int .i64 n205)]), (.bool false), (.int .i64 0)]) M191)
   (exB (Mem.ld M18 ⟨k1, (0 + 4), none⟩) fun t206 =>
    bsp t206
     (exI (Mem.ld M18 ⟨k1, 0, none⟩) .i64 fun n207 =>
      exSl (Mem.ld M18 ⟨k1, (0 + 1), none⟩) fun A208 k209 k210 =>
      exSl (Mem.ld M18 ⟨k1, (0 + 2), none⟩) fun A211 k212 k213 =>
      exSl (Mem.ld M18 ⟨k1, (0 + 3), none⟩) fun A214 k215 k216 =>
      exB (Mem.ld M18 ⟨k1, (0 + 4), none⟩) fun t217 =>
      exI (Mem.ld M18 ⟨k7, 0, none⟩) .i64 fun n218 =>
      exI (Mem.ld M18 ⟨k7, (0 + 1), none⟩) .i64 fun n219 =>
      exI (Mem.ld M18 ⟨k7, (0 + 2), none⟩) .i64 fun n220 =>
      stc M18 ⟨k3, 0, none⟩ (.int .i64 n207) fun M221 =>
      stc M221 ⟨k3, (0 + 1), none⟩ (.slice A208 k209 k210) fun M222 =>
      stc M222 ⟨k3, (0 + 2), none⟩ (.slice A211 k212 k213) fun M223 =>
      stc M223 ⟨k3, (0 + 3), none⟩ (.slice A214 k215 k216) fun M224 =>
      stc M224 ⟨k3, (0 + 4), none⟩ (.bool t217) fun M225 =>
      ((Mem.lds M225 ⟨k7, 0, none⟩ 0 3) = some [(.int .i64 n218), (.int .i64 n219), (.int .i64 n220)]) ∧
      stc M225 ⟨k5, 0, none⟩ (.int .i64 n218) fun M226 =>
      stc M226 ⟨k5, (0 + 1), none⟩ (.int .i64 n219) fun M227 =>
      stc M227 ⟨k5, (0 + 2), none⟩ (.int .i64 n220) fun M228 =>
      ((Mem.lds M228 ⟨k7, 0, none⟩ 0 3) = some [(.int .i64 n218), (.int .i64 n219), (.int .i64 n220)]) ∧
      exI (Mem.ld M228 ⟨k3, 0, none⟩) .i64 fun n229 =>
      exSl (Mem.ld M228 ⟨k3, (0 + 1), none⟩) fun A230 k231 k232 =>
      exSl (Mem.ld M228 ⟨k3, (0 + 2), none⟩) fun A233 k234 k235 =>
      exSl (Mem.ld M228 ⟨k3, (0 + 3), none⟩) fun A236 k237 k238 =>
      exB (Mem.ld M228 ⟨k3, (0 + 4), none⟩) fun t239 =>
      exI (Mem.ld M228 ⟨k5, 0, none⟩) .i64 fun n240 =>
      exI (Mem.ld M228 ⟨k5, (0 + 1), none⟩) .i64 fun n241 =>
      exI (Mem.ld M228 ⟨k5, (0 + 2), none⟩) .i64 fun n242 =>
      K (.tuple #[(.agg #[(.int .i64 n229), (.slice A230 k231 k232), (.slice A233 k234 k235), (.slice A236 k237 k238), (.bool t239)]), (.int .i64 0), (.bool false), (.agg #[(.int .i64 n240), (.int .i64 n241), (.int .i64 n242)]), (.bool false), (.int .i64 0)]) M228)
     (exI (Mem.ld M18 ⟨k1, 0, none⟩) .i64 fun n243 =>
      exSl (Mem.ld M18 ⟨k1, (0 + 1), none⟩) fun A244 k245 k246 =>
      exSl (Mem.ld M18 ⟨k1, (0 + 2), none⟩) fun A247 k248 k249 =>
      exSl (Mem.ld M18 ⟨k1, (0 + 3), none⟩) fun A250 k251 k252 =>
      exB (Mem.ld M18 ⟨k1, (0 + 4), none⟩) fun t253 =>
      exI (Mem.ld M18 ⟨k7, 0, none⟩) .i64 fun n254 =>
      exI (Mem.ld M18 ⟨k7, (0 + 1), none⟩) .i64 fun n255 =>
      exI (Mem.ld M18 ⟨k7, (0 + 2), none⟩) .i64 fun n256 =>
      stc M18 ⟨k3, 0, none⟩ (.int .i64 n243) fun M257 =>
      stc M257 ⟨k3, (0 + 1), none⟩ (.slice A244 k245 k246) fun M258 =>
      stc M258 ⟨k3, (0 + 2), none⟩ (.slice A247 k248 k249) fun M259 =>
      stc M259 ⟨k3, (0 + 3), none⟩ (.slice A250 k251 k252) fun M260 =>
      stc M260 ⟨k3, (0 + 4), none⟩ (.bool t253) fun M261 =>
      ((Mem.lds M261 ⟨k7, 0, none⟩ 0 3) = some [(.int .i64 n254), (.int .i64 n255), (.int .i64 n256)]) ∧
      stc M261 ⟨k5, 0, none⟩ (.int .i64 n254) fun M262 =>
      stc M262 ⟨k5, (0 + 1), none⟩ (.int .i64 n255) fun M263 =>
      stc M263 ⟨k5, (0 + 2), none⟩ (.int .i64 n256) fun M264 =>
      ((Mem.lds M264 ⟨k7, 0, none⟩ 0 3) = some [(.int .i64 n254), (.int .i64 n255), (.int .i64 n256)]) ∧
      exI (Mem.ld M264 ⟨k3, 0, none⟩) .i64 fun n265 =>
      exSl (Mem.ld M264 ⟨k3, (0 + 1), none⟩) fun A266 k267 k268 =>
      exSl (Mem.ld M264 ⟨k3, (0 + 2), none⟩) fun A269 k270 k271 =>
      exSl (Mem.ld M264 ⟨k3, (0 + 3), none⟩) fun A272 k273 k274 =>
      exB (Mem.ld M264 ⟨k3, (0 + 4), none⟩) fun t275 =>
      exI (Mem.ld M264 ⟨k5, 0, none⟩) .i64 fun n276 =>
      exI (Mem.ld M264 ⟨k5, (0 + 1), none⟩) .i64 fun n277 =>
      exI (Mem.ld M264 ⟨k5, (0 + 2), none⟩) .i64 fun n278 =>
      K (.tuple #[(.agg #[(.int .i64 n265), (.slice A266 k267 k268), (.slice A269 k270 k271), (.slice A272 k273 k274), (.bool t275)]), (.int .i64 0), (.bool false), (.agg #[(.int .i64 n276), (.int .i64 n277), (.int .i64 n278)]), (.bool false), (.int .i64 5)]) M264)))) Kp) :
  ACalls Try.prog 88 ([.agg #[.int .i64 x0_0, .slice B0_1 m0_1 c0_1, .slice B0_2 m0_2 c0_2, .slice B0_3 m0_3 c0_3, .bool q0_4]] : List Value).toArray M K Kp :=
  acalls_vc (C := Cx) good [(11, .reg [0, 0, 2, 6, 0, 0, 1, 79, 207, 479, 1023, 2047] (.step 1 (.step 2 (.step 5 (.step 0 (.prom 3 (.prom 4 (.step 6 (.step 7 (.step 8 (.step 9 (.step 10 (.step 11 .done))))))))))))), (13, .reg [0, 0, 0, 1, 9, 25, 59, 127, 255] (.step 2 (.step 0 (.prom 1 (.step 3 (.step 4 (.step 5 (.step 6 (.step 7 (.step 8 .done)))))))))), (14, .reg [0, 0, 0, 1, 9, 25, 59, 127, 255] (.step 2 (.step 0 (.prom 1 (.step 3 (.step 4 (.step 5 (.step 6 (.step 7 (.step 8 .done))))))))))] Try.func88 (by kernel_rfl) (by kernel_rfl) h

theorem vc_shunterref13_Drop {x0_0 : Int} {B0_1 : Option Addr} {m0_1 c0_1 : Nat} {B0_2 : Option Addr} {m0_2 c0_2 : Nat} {B0_3 : Option Addr} {m0_3 c0_3 : Nat} {q0_4 : Bool} {x1 : Int} {M : Mem} {K : Value → Mem → Prop} {Kp : List PanicEntry → Mem → Prop} (h :
nwc M (.cells #[(.int .i64 x0_0), (.slice B0_1 m0_1 c0_1), (.slice B0_2 m0_2 c0_2), (.slice B0_3 m0_3 c0_3), (.bool q0_4)] 91 (0, 0)) fun k1 M2 =>
nwc M2 (.cells #[(.int .i64 0), (.slice none 0 0), (.slice none 0 0), (.slice none 0 0), (.bool false)] 91 (0, 0)) fun k3 M4 =>
nwc M4 (.cells #[] 96 (0, 0)) fun k5 M6 =>
nwc M6 (.cells #[] 96 (0, 0)) fun k7 M8 =>
exSl (Mem.ld M8 ⟨k1, (0 + 2), none⟩) fun A9 k10 k11 =>
∃ I12 : Nat → List Value → Mem → Prop, (∃ k13 : Nat, I12 k13 [(.slice (some ⟨k5, 0, none⟩) 0 0), (.int .i64 0)] M8) ∧
∀ k14 : Nat, ∀ junk15 : Nat → Value, ∀ A16 : Option Addr, ∀ k17 : Nat, ∀ k18 : Nat, ∀ n19 : Int, ∀ M20 : Mem, (I12 k14 [(.slice A16 k17 k18), (.int .i64 n19)] M20) → bsp (decide ((n19 : Int) < ((k10 : Nat) : Int)))
 (((0 : Int) ≤ n19) ∧
  ((n19 : Int) < ((k10 : Nat) : Int)) ∧
  nilc A9 fun k21 k22 =>
  exI (Mem.ld M20 ⟨k21, (k22 + ((Int.toNat n19) * 3)), none⟩) .i64 fun n23 =>
  exI (Mem.ld M20 ⟨k21, ((k22 + ((Int.toNat n19) * 3)) + 1), none⟩) .i64 fun n24 =>
  exI (Mem.ld M20 ⟨k21, ((k22 + ((Int.toNat n19) * 3)) + 2), none⟩) .i64 fun n25 =>
  nwc M20 (.cells #[(.int .i64 0), (.int .i64 0), (.int .i64 0)] 96 (0, 0)) fun k26 M27 =>
  stc M27 ⟨k26, 0, none⟩ (.int .i64 n23) fun M28 =>
  stc M28 ⟨k26, (0 + 1), none⟩ (.int .i64 n24) fun M29 =>
  stc M29 ⟨k26, (0 + 2), none⟩ (.int .i64 n25) fun M30 =>
  exI (Mem.ld M30 ⟨k26, 0, none⟩) .i64 fun n31 =>
  bsp (n31 != x1)
   (exI (Mem.ld M30 ⟨k26, 0, none⟩) .i64 fun n32 =>
    exI (Mem.ld M30 ⟨k26, (0 + 1), none⟩) .i64 fun n33 =>
    exI (Mem.ld M30 ⟨k26, (0 + 2), none⟩) .i64 fun n34 =>
    nwc M30 (.cells #[(.int .i64 n32), (.int .i64 n33), (.int .i64 n34)] 96 (0, 0)) fun k35 M36 =>
    semK Try.prog (Go.Builtin.append_ #[89, 89] 89 #[(.slice A16 k17 k18), (.slice (some ⟨k35, 0, none⟩) 1 1)]) M36 (fun v37 M38 =>
    exSl (some v37) fun A39 k40 k41 =>
    ∃ k42 : Nat, (k42 < k14) ∧
    I12 k42 [(.slice A39 k40 k41), (.int .i64 (IntKind.wrap .i64 (n19 + 1)))] M38) Kp)
   (∃ k43 : Nat, (k43 < k14) ∧
    I12 k43 [(.slice A16 k17 k18), (.int .i64 (IntKind.wrap .i64 (n19 + 1)))] M30))
 (exSl (Mem.ld M20 ⟨k1, (0 + 3), none⟩) fun A44 k45 k46 =>
  ∃ I47 : Nat → List Value → Mem → Prop, (∃ k48 : Nat, I47 k48 [(.slice (some ⟨k7, 0, none⟩) 0 0), (.int .i64 0)] M20) ∧
  ∀ k49 : Nat, ∀ junk50 : Nat → Value, ∀ A51 : Option Addr, ∀ k52 : Nat, ∀ k53 : Nat, ∀ n54 : Int, ∀ M55 : Mem, (I47 k49 [(.slice A51 k52 k53), (.int .i64 n54)] M55) → bsp (decide ((n54 : Int) < ((k45 : Nat) : Int)))
   (((0 : Int) ≤ n54) ∧
    ((n54 : Int) < ((k45 : Nat) : Int)) ∧
    nilc A44 fun k56 k57 =>
    exI (Mem.ld M55 ⟨k56, (k57 + ((Int.toNat n54) * 3)), none⟩) .i64 fun n58 =>
    exI (Mem.ld M55 ⟨k56, ((k57 + ((Int.toNat n54) * 3)) + 1), none⟩) .i64 fun n59 =>
    exI (Mem.ld M55 ⟨k56, ((k57 + ((Int.toNat n54) * 3)) + 2), none⟩) .i64 fun n60 =>
    nwc M55 (.cells #[(.int .i64 0), (.int .i64 0), (.int .i64 0)] 96 (0, 0)) fun k61 M62 =>
    stc M62 ⟨k61, 0, none⟩ (.int .i64 n58) fun M63 =>
    stc M63 ⟨k61, (0 + 1), none⟩ (.int .i64 n59) fun M64 =>
    stc M64 ⟨k61, (0 + 2), none⟩ (.int .i64 n60) fun M65 =>
    exI (Mem.ld M65 ⟨k61, 0, none⟩) .i64 fun n66 =>
    bsp (n66 != x1)
     (exI (Mem.ld M65 ⟨k61, 0, none⟩) .i64 fun n67 =>
      exI (Mem.ld M65 ⟨k61, (0 + 1), none⟩) .i64 fun n68 =>
      exI (Mem.ld M65 ⟨k61, (0 + 2), none⟩) .i64 fun n69 =>
      nwc M65 (.cells #[(.int .i64 n67), (.int .i64 n68), (.int .i64 n69)] 96 (0, 0)) fun k70 M71 =>
      semK Try.prog (Go.Builtin.append_ #[89, 89] 89 #[(.slice A51 k52 k53), (.slice (some ⟨k70, 0, none⟩) 1 1)]) M71 (fun v72 M73 =>
      exSl (some v72) fun A74 k75 k76 =>
      ∃ k77 : Nat, (k77 < k49) ∧
      I47 k77 [(.slice A74 k75 k76), (.int .i64 (IntKind.wrap .i64 (n54 + 1)))] M73) Kp)
     (∃ k78 : Nat, (k78 < k49) ∧
      I47 k78 [(.slice A51 k52 k53), (.int .i64 (IntKind.wrap .i64 (n54 + 1)))] M65))
   (stc M55 ⟨k1, (0 + 2), none⟩ (.slice A16 k17 k18) fun M79 =>
    stc M79 ⟨k1, (0 + 3), none⟩ (.slice A51 k52 k53) fun M80 =>
    exI (Mem.ld M80 ⟨k1, 0, none⟩) .i64 fun n81 =>
    exSl (Mem.ld M80 ⟨k1, (0 + 1), none⟩) fun A82 k83 k84 =>
    exSl (Mem.ld M80 ⟨k1, (0 + 2), none⟩) fun A85 k86 k87 =>
    exSl (Mem.ld M80 ⟨k1, (0 + 3), none⟩) fun A88 k89 k90 =>
    exB (Mem.ld M80 ⟨k1, (0 + 4), none⟩) fun t91 =>
    stc M80 ⟨k3, 0, none⟩ (.int .i64 n81) fun M92 =>
    stc M92 ⟨k3, (0 + 1), none⟩ (.slice A82 k83 k84) fun M93 =>
    stc M93 ⟨k3, (0 + 2), none⟩ (.slice A85 k86 k87) fun M94 =>
    stc M94 ⟨k3, (0 + 3), none⟩ (.slice A88 k89 k90) fun M95 =>
    stc M95 ⟨k3, (0 + 4), none⟩ (.bool t91) fun M96 =>
    exI (Mem.ld M96 ⟨k3, 0, none⟩) .i64 fun n97 =>
    exSl (Mem.ld M96 ⟨k3, (0 + 1), none⟩) fun A98 k99 k100 =>
    exSl (Mem.ld M96 ⟨k3, (0 + 2), none⟩) fun A101 k102 k103 =>
    exSl (Mem.ld M96 ⟨k3, (0 + 3), none⟩) fun A104 k105 k106 =>
    exB (Mem.ld M96 ⟨k3, (0 + 4), none⟩) fun t107 =>
    K (.agg #[(.int .i64 n97), (.slice A98 k99 k100), (.slice A101 k102 k103), (.slice A104 k105 k106), (.bool t107)]) M96))) :
  ACalls Try.prog 90 ([.agg #[.int .i64 x0_0, .slice B0_1 m0_1 c0_1, .slice B0_2 m0_2 c0_2, .slice B0_3 m0_3 c0_3, .bool q0_4], .int .i64 x1] : List Value).toArray M K Kp :=
  acalls_vc (C := Cx) good [(2000000, .loop [(5, .c .sl), (16, .c (.int .i64))]), (2000002, .loop [(6, .c .sl), (32, .c (.int .i64))])] Try.func90 (by kernel_rfl) (by kernel_rfl) h

theorem vc_shunterref13_Close {x0_0 : Int} {B0_1 : Option Addr} {m0_1 c0_1 : Nat} {B0_2 : Option Addr} {m0_2 c0_2 : Nat} {B0_3 : Option Addr} {m0_3 c0_3 : Nat} {q0_4 : Bool} {M : Mem} {K : Value → Mem → Prop} {Kp : List PanicEntry → Mem → Prop} (h :
nwc M (.cells #[(.int .i64 x0_0), (.slice B0_1 m0_1 c0_1), (.slice B0_2 m0_2 c0_2), (.slice B0_3 m0_3 c0_3), (.bool q0_4)] 91 (0, 0)) fun k1 M2 =>
nwc M2 (.cells #[(.int .i64 0), (.slice none 0 0), (.slice none 0 0), (.slice none 0 0), (.bool false)] 91 (0, 0)) fun k3 M4 =>
exB (Mem.ld M4 ⟨k1, (0 + 4), none⟩) fun t5 =>
bsp t5
 (exI (Mem.ld M4 ⟨k1, 0, none⟩) .i64 fun n6 =>
  exSl (Mem.ld M4 ⟨k1, (0 + 1), none⟩) fun A7 k8 k9 =>
  exSl (Mem.ld M4 ⟨k1, (0 + 2), none⟩) fun A10 k11 k12 =>
  exSl (Mem.ld M4 ⟨k1, (0 + 3), none⟩) fun A13 k14 k15 =>
  exB (Mem.ld M4 ⟨k1, (0 + 4), none⟩) fun t16 =>
  stc M4 ⟨k3, 0, none⟩ (.int .i64 n6) fun M17 =>
  stc M17 ⟨k3, (0 + 1), none⟩ (.slice A7 k8 k9) fun M18 =>
  stc M18 ⟨k3, (0 + 2), none⟩ (.slice A10 k11 k12) fun M19 =>
  stc M19 ⟨k3, (0 + 3), none⟩ (.slice A13 k14 k15) fun M20 =>
  stc M20 ⟨k3, (0 + 4), none⟩ (.bool t16) fun M21 =>
  exI (Mem.ld M21 ⟨k3, 0, none⟩) .i64 fun n22 =>
  exSl (Mem.ld M21 ⟨k3, (0 + 1), none⟩) fun A23 k24 k25 =>
  exSl (Mem.ld M21 ⟨k3, (0 + 2), none⟩) fun A26 k27 k28 =>
  exSl (Mem.ld M21 ⟨k3, (0 + 3), none⟩) fun A29 k30 k31 =>
  exB (Mem.ld M21 ⟨k3, (0 + 4), none⟩) fun t32 =>
  K (.tuple #[(.agg #[(.int .i64 n22), (.slice A23 k24 k25), (.slice A26 k27 k28), (.slice A29 k30 k31), (.bool t32)]), (.slice none 0 0), (.slice none 0 0), (.int .i64 10)]) M21)
 (exI (Mem.ld M4 ⟨k1, 0, none⟩) .i64 fun n33 =>
  exSl (Mem.ld M4 ⟨k1, (0 + 1), none⟩) fun A34 k35 k36 =>
  exSl (Mem.ld M4 ⟨k1, (0 + 3), none⟩) fun A37 k38 k39 =>
  exSl (Mem.ld M4 ⟨k1, (0 + 2), none⟩) fun A40 k41 k42 =>
  stc M4 ⟨k3, 0, none⟩ (.int .i64 n33) fun M43 =>
  stc M43 ⟨k3, (0 + 1), none⟩ (.slice A34 k35 k36) fun M44 =>
  stc M44 ⟨k3, (0 + 2), none⟩ (.slice none 0 0) fun M45 =>
  stc M45 ⟨k3, (0 + 3), none⟩ (.slice none 0 0) fun M46 =>
  stc M46 ⟨k3, (0 + 4), none⟩ (.bool true) fun M47 =>
  ((Mem.ld M47 ⟨k1, (0 + 2), none⟩) = (some (.slice A40 k41 k42))) ∧
  ((Mem.ld M47 ⟨k1, (0 + 3), none⟩) = (some (.slice A37 k38 k39))) ∧
  exI (Mem.ld M47 ⟨k3, 0, none⟩) .i64 fun n48 =>
  exSl (Mem.ld M47 ⟨k3, (0 + 1), none⟩) fun A49 k50 k51 =>
  exSl (Mem.ld M47 ⟨k3, (0 + 2), none⟩) fun A52 k53 k54 =>
  exSl (Mem.ld M47 ⟨k3, (0 + 3), none⟩) fun A55 k56 k57 =>
  exB (Mem.ld M47 ⟨k3, (0 + 4), none⟩) fun t58 =>
  K (.tuple #[(.agg #[(.int .i64 n48), (.slice A49 k50 k51), (.slice A52 k53 k54), (.slice A55 k56 k57), (.bool t58)]), (.slice A37 k38 k39), (.slice A40 k41 k42), (.int .i64 0)]) M47)) :
  ACalls Try.prog 91 ([.agg #[.int .i64 x0_0, .slice B0_1 m0_1 c0_1, .slice B0_2 m0_2 c0_2, .slice B0_3 m0_3 c0_3, .bool q0_4]] : List Value).toArray M K Kp :=
  acalls_vc (C := Cx) good [(3, .reg [0, 1, 0, 4, 15, 0, 32, 0, 128, 31, 639, 2047, 4095] (.step 0 (.step 2 (.step 5 (.step 7 (.step 1 (.step 3 (.step 4 (.prom 6 (.prom 8 (.step 9 (.step 10 (.step 11 (.step 12 .done))))))))))))))] Try.func91 (by kernel_rfl) (by kernel_rfl) h

theorem vc_shunterref13_rest {B0 : Option Addr} {m0 c0 : Nat} {M : Mem} {K : Value → Mem → Prop} {Kp : List PanicEntry → Mem → Prop} (h :
nwc M (.cells #[] 96 (0, 0)) fun k1 M2 =>
((0 : Int) ≤ ((c0 : Nat) : Int)) ∧
((((c0 : Nat) : Int) : Int) ≤ ((c0 : Nat) : Int)) ∧
((0 : Int) ≤ ((m0 : Nat) : Int)) ∧
((((m0 : Nat) : Int) : Int) ≤ ((c0 : Nat) : Int)) ∧
((0 : Int) ≤ 1) ∧
((1 : Int) ≤ ((m0 : Nat) : Int)) ∧
semK Try.prog (Go.Builtin.append_ #[89, 89] 89 #[(.slice (some ⟨k1, 0, none⟩) 0 0), (.slice (slA B0 1 (Int.toNat ((c0 : Nat) : Int)) 3) ((Int.toNat ((m0 : Nat) : Int)) - 1) ((Int.toNat ((c0 : Nat) : Int)) - 1))]) M2 (fun v3 M4 =>
exSl (some v3) fun A5 k6 k7 =>
K (.slice A5 k6 k7) M4) Kp) :
  ACalls Try.prog 108 ([.slice B0 m0 c0] : List Value).toArray M K Kp :=
  acalls_vc (C := Cx) good [] Try.func108 (by kernel_rfl) (by kernel_rfl) h

theorem vc_shunterlaw13_Waits {B0 : Option Addr} {m0 c0 : Nat} {B1 : Option Addr} {m1 c1 : Nat} {M : Mem} {K : Value → Mem → Prop} {Kp : List PanicEntry → Mem → Prop} (h :
bsp (((m0 : Nat) : Int) != ((m1 : Nat) : Int))
 (K (.int .i64 (-1)) M)
 (∃ I1 : Nat → List Value → Mem → Prop, (∃ k2 : Nat, I1 k2 [(.int .i64 0)] M) ∧
  ∀ k3 : Nat, ∀ junk4 : Nat → Value, ∀ n5 : Int, ∀ M6 : Mem, (I1 k3 [(.int .i64 n5)] M6) → bsp (decide ((n5 : Int) < ((m1 : Nat) : Int)))
   (((0 : Int) ≤ n5) ∧
    ((n5 : Int) < ((m0 : Nat) : Int)) ∧
    nilc B0 fun k7 k8 =>
    ((0 : Int) ≤ n5) ∧
    ((n5 : Int) < ((m1 : Nat) : Int)) ∧
    nilc B1 fun k9 k10 =>
    exI (Mem.ld M6 ⟨k7, (k8 + ((Int.toNat n5) * 3)), none⟩) .i64 fun n11 =>
    exI (Mem.ld M6 ⟨k7, ((k8 + ((Int.toNat n5) * 3)) + 1), none⟩) .i64 fun n12 =>
    exI (Mem.ld M6 ⟨k7, ((k8 + ((Int.toNat n5) * 3)) + 2), none⟩) .i64 fun n13 =>
    exI (Mem.ld M6 ⟨k9, (k10 + ((Int.toNat n5) * 3)), none⟩) .i64 fun n14 =>
    exI (Mem.ld M6 ⟨k9, ((k10 + ((Int.toNat n5) * 3)) + 1), none⟩) .i64 fun n15 =>
    exI (Mem.ld M6 ⟨k9, ((k10 + ((Int.toNat n5) * 3)) + 2), none⟩) .i64 fun n16 =>
    bsp (!((n11 == n14) && ((n12 == n15) && ((n13 == n16) && true))))
     (K (.int .i64 (-1)) M6)
     (∃ k17 : Nat, (k17 < k3) ∧
      I1 k17 [(.int .i64 (IntKind.wrap .i64 (n5 + 1)))] M6))
   (K (.int .i64 0) M6))) :
  ACalls Try.prog 92 ([.slice B0 m0 c0, .slice B1 m1 c1] : List Value).toArray M K Kp :=
  acalls_vc (C := Cx) good [(2000000, .loop [(13, .c (.int .i64))]), (6, .reg [0, 0, 3, 7, 0, 0, 48, 112, 255] (.step 0 (.step 1 (.step 2 (.step 4 (.step 5 (.step 6 (.step 3 (.step 7 (.step 8 .done))))))))))] Try.func92 (by kernel_rfl) (by kernel_rfl) h

theorem vc_shunterlaw13_Same {B0_0 : Option Addr} {m0_0 c0_0 : Nat} {B0_1 : Option Addr} {m0_1 c0_1 : Nat} {B0_2 : Option Addr} {m0_2 c0_2 : Nat} {q0_3 : Bool} {x1_0 : Int} {B1_1 : Option Addr} {m1_1 c1_1 : Nat} {B1_2 : Option Addr} {m1_2 c1_2 : Nat} {B1_3 : Option Addr} {m1_3 c1_3 : Nat} {q1_4 : Bool} {M : Mem} {K : Value → Mem → Prop} {Kp : List PanicEntry → Mem → Prop} (h :
nwc M (.cells #[(.slice B0_0 m0_0 c0_0), (.slice B0_1 m0_1 c0_1), (.slice B0_2 m0_2 c0_2), (.bool q0_3)] 79 (0, 0)) fun k1 M2 =>
nwc M2 (.cells #[(.int .i64 x1_0), (.slice B1_1 m1_1 c1_1), (.slice B1_2 m1_2 c1_2), (.slice B1_3 m1_3 c1_3), (.bool q1_4)] 91 (0, 0)) fun k3 M4 =>
exSl (Mem.ld M4 ⟨k1, 0, none⟩) fun A5 k6 k7 =>
exSl (Mem.ld M4 ⟨k3, (0 + 1), none⟩) fun A8 k9 k10 =>
bsp (((k6 : Nat) : Int) != ((k9 : Nat) : Int))
 (K (.int .i64 (-1)) M4)
 (exB (Mem.ld M4 ⟨k1, (0 + 3), none⟩) fun t11 =>
  exB (Mem.ld M4 ⟨k3, (0 + 4), none⟩) fun t12 =>
  bsp (!(t11 == t12))
   (K (.int .i64 (-1)) M4)
   (exSl (Mem.ld M4 ⟨k1, (0 + 1), none⟩) fun A13 k14 k15 =>
    exSl (Mem.ld M4 ⟨k3, (0 + 2), none⟩) fun A16 k17 k18 =>
    ACalls Try.prog 92 #[(.slice A13 k14 k15), (.slice A16 k17 k18)] M4 (fun v19 M20 =>
    exI (some v19) .i64 fun n21 =>
    bsp (n21 != 0)
     (K (.int .i64 (-1)) M20)
     (exSl (Mem.ld M20 ⟨k1, (0 + 2), none⟩) fun A22 k23 k24 =>
      exSl (Mem.ld M20 ⟨k3, (0 + 3), none⟩) fun A25 k26 k27 =>
      ACalls Try.prog 92 #[(.slice A22 k23 k24), (.slice A25 k26 k27)] M20 (fun v28 M29 =>
      exI (some v28) .i64 fun n30 =>
      bsp (n30 != 0)
       (K (.int .i64 (-1)) M29)
       (exSl (Mem.ld M29 ⟨k3, (0 + 1), none⟩) fun A31 k32 k33 =>
        ∃ I34 : Nat → List Value → Mem → Prop, (∃ k35 : Nat, I34 k35 [(.int .i64 0)] M29) ∧
        ∀ k36 : Nat, ∀ junk37 : Nat → Value, ∀ n38 : Int, ∀ M39 : Mem, (I34 k36 [(.int .i64 n38)] M39) → bsp (decide ((n38 : Int) < ((k32 : Nat) : Int)))
         (((0 : Int) ≤ n38) ∧
          ((n38 : Int) < ((k32 : Nat) : Int)) ∧
          nilc A31 fun k40 k41 =>
          exI (Mem.ld M39 ⟨k40, (k41 + (Int.toNat n38)), none⟩) .i64 fun n42 =>
          exSl (Mem.ld M39 ⟨k1, 0, none⟩) fun A43 k44 k45 =>
          ((0 : Int) ≤ n38) ∧
          ((n38 : Int) < ((k44 : Nat) : Int)) ∧
          nilc A43 fun k46 k47 =>
          exI (Mem.ld M39 ⟨k46, (k47 + (Int.toNat n38)), none⟩) .i64 fun n48 =>
          bsp (n48 != n42)
           (K (.int .i64 (-1)) M39)
           (∃ k49 : Nat, (k49 < k36) ∧
            I34 k49 [(.int .i64 (IntKind.wrap .i64 (n38 + 1)))] M39))
         (K (.int .i64 0) M39))) Kp)) Kp))) :
  ACalls Try.prog 54 ([.agg #[.slice B0_0 m0_0 c0_0, .slice B0_1 m0_1 c0_1, .slice B0_2 m0_2 c0_2, .bool q0_3], .agg #[.int .i64 x1_0, .slice B1_1 m1_1 c1_1, .slice B1_2 m1_2 c1_2, .slice B1_3 m1_3 c1_3, .bool q1_4]] : List Value).toArray M K Kp :=
  acalls_vc (C := Cx) good [(2000000, .loop [(40, .c (.int .i64))])] Try.func54 (by kernel_rfl) (by kernel_rfl) h

theorem vc_shunterlaw13_does {b0 o0 : Nat} {x1_0 : Int} {B1_1 : Option Addr} {m1_1 c1_1 : Nat} {B1_2 : Option Addr} {m1_2 c1_2 : Nat} {B1_3 : Option Addr} {m1_3 c1_3 : Nat} {q1_4 : Bool} {x2_0 : Int} {x2_1 : Int} {x2_2 : Int} {x2_3 : Int} {x2_4 : Int} {M : Mem} {K : Value → Mem → Prop} {Kp : List PanicEntry → Mem → Prop} (h :
nwc M (.cells #[(.int .i64 x1_0), (.slice B1_1 m1_1 c1_1), (.slice B1_2 m1_2 c1_2), (.slice B1_3 m1_3 c1_3), (.bool q1_4)] 91 (0, 0)) fun k1 M2 =>
nwc M2 (.cells #[(.int .i64 x2_0), (.int .i64 x2_1), (.int .i64 x2_2), (.int .i64 x2_3), (.int .i64 x2_4)] 98 (0, 0)) fun k3 M4 =>
nwc M4 (.cells #[(.int .i64 0), (.slice none 0 0), (.slice none 0 0), (.slice none 0 0), (.bool false)] 91 (0, 0)) fun k5 M6 =>
exI (Mem.ld M6 ⟨k3, 0, none⟩) .i64 fun n7 =>
((8 : Int) ≠ 0) ∧
bsp ((Int.tmod (IntKind.wrap .i64 (((Nat.bitwise and (BitVec.ofInt IntKind.i64.bits n7).toNat (BitVec.ofInt IntKind.i64.bits 255).toNat) : Nat) : Int)) 8) == 0)
 (exI (Mem.ld M6 ⟨k3, (0 + 1), none⟩) .i64 fun n8 =>
  ACalls Try.prog 38 #[(.pointer (some ⟨b0, o0, none⟩)), (.int .i64 n8)] M6 (fun v9 M10 =>
  ∃ n11 : Int, ∃ n12 : Int, ∃ n13 : Int, ∃ t14 : Bool, ∃ n15 : Int, (v9 = (.tuple #[(.agg #[(.int .i64 n11), (.int .i64 n12), (.int .i64 n13)]), (.bool t14), (.int .i64 n15)])) ∧
  nwc M10 (.cells #[(.int .i64 0), (.int .i64 0), (.int .i64 0)] 54 (0, 0)) fun k16 M17 =>
  stc M17 ⟨k16, 0, none⟩ (.int .i64 n11) fun M18 =>
  stc M18 ⟨k16, (0 + 1), none⟩ (.int .i64 n12) fun M19 =>
  stc M19 ⟨k16, (0 + 2), none⟩ (.int .i64 n13) fun M20 =>
  exI (Mem.ld M20 ⟨k1, 0, none⟩) .i64 fun n21 =>
  exSl (Mem.ld M20 ⟨k1, (0 + 1), none⟩) fun A22 k23 k24 =>
  exSl (Mem.ld M20 ⟨k1, (0 + 2), none⟩) fun A25 k26 k27 =>
  exSl (Mem.ld M20 ⟨k1, (0 + 3), none⟩) fun A28 k29 k30 =>
  exB (Mem.ld M20 ⟨k1, (0 + 4), none⟩) fun t31 =>
  exI (Mem.ld M20 ⟨k3, (0 + 1), none⟩) .i64 fun n32 =>
  ACalls Try.prog 87 #[(.agg #[(.int .i64 n21), (.slice A22 k23 k24), (.slice A25 k26 k27), (.slice A28 k29 k30), (.bool t31)]), (.int .i64 n32)] M20 (fun v33 M34 =>
  ∃ n35 : Int, ∃ A36 : Option Addr, ∃ k37 : Nat, ∃ k38 : Nat, ∃ A39 : Option Addr, ∃ k40 : Nat, ∃ k41 : Nat, ∃ A42 : Option Addr, ∃ k43 : Nat, ∃ k44 : Nat, ∃ t45 : Bool, ∃ n46 : Int, ∃ n47 : Int, ∃ n48 : Int, ∃ t49 : Bool, ∃ n50 : Int, (v33 = (.tuple #[(.agg #[(.int .i64 n35), (.slice A36 k37 k38), (.slice A39 k40 k41), (.slice A42 k43 k44), (.bool t45)]), (.agg #[(.int .i64 n46), (.int .i64 n47), (.int .i64 n48)]), (.bool t49), (.int .i64 n50)])) ∧
  nwc M34 (.cells #[(.int .i64 0), (.slice none 0 0), (.slice none 0 0), (.slice none 0 0), (.bool false)] 91 (0, 0)) fun k51 M52 =>
  nwc M52 (.cells #[(.int .i64 0), (.int .i64 0), (.int .i64 0)] 96 (0, 0)) fun k53 M54 =>
  stc M54 ⟨k51, 0, none⟩ (.int .i64 n35) fun M55 =>
  stc M55 ⟨k51, (0 + 1), none⟩ (.slice A36 k37 k38) fun M56 =>
  stc M56 ⟨k51, (0 + 2), none⟩ (.slice A39 k40 k41) fun M57 =>
  stc M57 ⟨k51, (0 + 3), none⟩ (.slice A42 k43 k44) fun M58 =>
  stc M58 ⟨k51, (0 + 4), none⟩ (.bool t45) fun M59 =>
  stc M59 ⟨k53, 0, none⟩ (.int .i64 n46) fun M60 =>
  stc M60 ⟨k53, (0 + 1), none⟩ (.int .i64 n47) fun M61 =>
  stc M61 ⟨k53, (0 + 2), none⟩ (.int .i64 n48) fun M62 =>
  exI (Mem.ld M62 ⟨k51, 0, none⟩) .i64 fun n63 =>
  exSl (Mem.ld M62 ⟨k51, (0 + 1), none⟩) fun A64 k65 k66 =>
  exSl (Mem.ld M62 ⟨k51, (0 + 2), none⟩) fun A67 k68 k69 =>
  exSl (Mem.ld M62 ⟨k51, (0 + 3), none⟩) fun A70 k71 k72 =>
  exB (Mem.ld M62 ⟨k51, (0 + 4), none⟩) fun t73 =>
  exI (Mem.ld M62 ⟨k16, 0, none⟩) .i64 fun n74 =>
  exI (Mem.ld M62 ⟨k16, (0 + 1), none⟩) .i64 fun n75 =>
  exI (Mem.ld M62 ⟨k16, (0 + 2), none⟩) .i64 fun n76 =>
  exI (Mem.ld M62 ⟨k53, 0, none⟩) .i64 fun n77 =>
  exI (Mem.ld M62 ⟨k53, (0 + 1), none⟩) .i64 fun n78 =>
  exI (Mem.ld M62 ⟨k53, (0 + 2), none⟩) .i64 fun n79 =>
  bsp ((n74 == n77) && ((n75 == n78) && ((n76 == n79) && true)))
   (bsp (t14 == t49)
     (stc M62 ⟨k5, 0, none⟩ (.int .i64 n63) fun M80 =>
      stc M80 ⟨k5, (0 + 1), none⟩ (.slice A64 k65 k66) fun M81 =>
      stc M81 ⟨k5, (0 + 2), none⟩ (.slice A67 k68 k69) fun M82 =>
      stc M82 ⟨k5, (0 + 3), none⟩ (.slice A70 k71 k72) fun M83 =>
      stc M83 ⟨k5, (0 + 4), none⟩ (.bool t73) fun M84 =>
      exI (Mem.ld M84 ⟨k5, 0, none⟩) .i64 fun n85 =>
      exSl (Mem.ld M84 ⟨k5, (0 + 1), none⟩) fun A86 k87 k88 =>
      exSl (Mem.ld M84 ⟨k5, (0 + 2), none⟩) fun A89 k90 k91 =>
      exSl (Mem.ld M84 ⟨k5, (0 + 3), none⟩) fun A92 k93 k94 =>
      exB (Mem.ld M84 ⟨k5, (0 + 4), none⟩) fun t95 =>
      K (.tuple #[(.agg #[(.int .i64 n85), (.slice A86 k87 k88), (.slice A89 k90 k91), (.slice A92 k93 k94), (.bool t95)]), (.bool (n15 == n50))]) M84)
     (stc M62 ⟨k5, 0, none⟩ (.int .i64 n63) fun M96 =>
      stc M96 ⟨k5, (0 + 1), none⟩ (.slice A64 k65 k66) fun M97 =>
      stc M97 ⟨k5, (0 + 2), none⟩ (.slice A67 k68 k69) fun M98 =>
      stc M98 ⟨k5, (0 + 3), none⟩ (.slice A70 k71 k72) fun M99 =>
      stc M99 ⟨k5, (0 + 4), none⟩ (.bool t73) fun M100 =>
      exI (Mem.ld M100 ⟨k5, 0, none⟩) .i64 fun n101 =>
      exSl (Mem.ld M100 ⟨k5, (0 + 1), none⟩) fun A102 k103 k104 =>
      exSl (Mem.ld M100 ⟨k5, (0 + 2), none⟩) fun A105 k106 k107 =>
      exSl (Mem.ld M100 ⟨k5, (0 + 3), none⟩) fun A108 k109 k110 =>
      exB (Mem.ld M100 ⟨k5, (0 + 4), none⟩) fun t111 =>
      K (.tuple #[(.agg #[(.int .i64 n101), (.slice A102 k103 k104), (.slice A105 k106 k107), (.slice A108 k109 k110), (.bool t111)]), (.bool false)]) M100))
   (stc M62 ⟨k5, 0, none⟩ (.int .i64 n63) fun M112 =>
    stc M112 ⟨k5, (0 + 1), none⟩ (.slice A64 k65 k66) fun M113 =>
    stc M113 ⟨k5, (0 + 2), none⟩ (.slice A67 k68 k69) fun M114 =>
    stc M114 ⟨k5, (0 + 3), none⟩ (.slice A70 k71 k72) fun M115 =>
    stc M115 ⟨k5, (0 + 4), none⟩ (.bool t73) fun M116 =>
    exI (Mem.ld M116 ⟨k5, 0, none⟩) .i64 fun n117 =>
    exSl (Mem.ld M116 ⟨k5, (0 + 1), none⟩) fun A118 k119 k120 =>
    exSl (Mem.ld M116 ⟨k5, (0 + 2), none⟩) fun A121 k122 k123 =>
    exSl (Mem.ld M116 ⟨k5, (0 + 3), none⟩) fun A124 k125 k126 =>
    exB (Mem.ld M116 ⟨k5, (0 + 4), none⟩) fun t127 =>
    K (.tuple #[(.agg #[(.int .i64 n117), (.slice A118 k119 k120), (.slice A121 k122 k123), (.slice A124 k125 k126), (.bool t127)]), (.bool false)]) M116)) Kp) Kp)
 (bsp ((Int.tmod (IntKind.wrap .i64 (((Nat.bitwise and (BitVec.ofInt IntKind.i64.bits n7).toNat (BitVec.ofInt IntKind.i64.bits 255).toNat) : Nat) : Int)) 8) == 1)
   (exI (Mem.ld M6 ⟨k3, (0 + 1), none⟩) .i64 fun n128 =>
    ACalls Try.prog 38 #[(.pointer (some ⟨b0, o0, none⟩)), (.int .i64 n128)] M6 (fun v129 M130 =>
    ∃ n131 : Int, ∃ n132 : Int, ∃ n133 : Int, ∃ t134 : Bool, ∃ n135 : Int, (v129 = (.tuple #[(.agg #[(.int .i64 n131), (.int .i64 n132), (.int .i64 n133)]), (.bool t134), (.int .i64 n135)])) ∧
    nwc M130 (.cells #[(.int .i64 0), (.int .i64 0), (.int .i64 0)] 54 (0, 0)) fun k136 M137 =>
    stc M137 ⟨k136, 0, none⟩ (.int .i64 n131) fun M138 =>
    stc M138 ⟨k136, (0 + 1), none⟩ (.int .i64 n132) fun M139 =>
    stc M139 ⟨k136, (0 + 2), none⟩ (.int .i64 n133) fun M140 =>
    exI (Mem.ld M140 ⟨k1, 0, none⟩) .i64 fun n141 =>
    exSl (Mem.ld M140 ⟨k1, (0 + 1), none⟩) fun A142 k143 k144 =>
    exSl (Mem.ld M140 ⟨k1, (0 + 2), none⟩) fun A145 k146 k147 =>
    exSl (Mem.ld M140 ⟨k1, (0 + 3), none⟩) fun A148 k149 k150 =>
    exB (Mem.ld M140 ⟨k1, (0 + 4), none⟩) fun t151 =>
    exI (Mem.ld M140 ⟨k3, (0 + 1), none⟩) .i64 fun n152 =>
    ACalls Try.prog 87 #[(.agg #[(.int .i64 n141), (.slice A142 k143 k144), (.slice A145 k146 k147), (.slice A148 k149 k150), (.bool t151)]), (.int .i64 n152)] M140 (fun v153 M154 =>
    ∃ n155 : Int, ∃ A156 : Option Addr, ∃ k157 : Nat, ∃ k158 : Nat, ∃ A159 : Option Addr, ∃ k160 : Nat, ∃ k161 : Nat, ∃ A162 : Option Addr, ∃ k163 : Nat, ∃ k164 : Nat, ∃ t165 : Bool, ∃ n166 : Int, ∃ n167 : Int, ∃ n168 : Int, ∃ t169 : Bool, ∃ n170 : Int, (v153 = (.tuple #[(.agg #[(.int .i64 n155), (.slice A156 k157 k158), (.slice A159 k160 k161), (.slice A162 k163 k164), (.bool t165)]), (.agg #[(.int .i64 n166), (.int .i64 n167), (.int .i64 n168)]), (.bool t169), (.int .i64 n170)])) ∧
    nwc M154 (.cells #[(.int .i64 0), (.slice none 0 0), (.slice none 0 0), (.slice none 0 0), (.bool false)] 91 (0, 0)) fun k171 M172 =>
    nwc M172 (.cells #[(.int .i64 0), (.int .i64 0), (.int .i64 0)] 96 (0, 0)) fun k173 M174 =>
    stc M174 ⟨k171, 0, none⟩ (.int .i64 n155) fun M175 =>
    stc M175 ⟨k171, (0 + 1), none⟩ (.slice A156 k157 k158) fun M176 =>
    stc M176 ⟨k171, (0 + 2), none⟩ (.slice A159 k160 k161) fun M177 =>
    stc M177 ⟨k171, (0 + 3), none⟩ (.slice A162 k163 k164) fun M178 =>
    stc M178 ⟨k171, (0 + 4), none⟩ (.bool t165) fun M179 =>
    stc M179 ⟨k173, 0, none⟩ (.int .i64 n166) fun M180 =>
    stc M180 ⟨k173, (0 + 1), none⟩ (.int .i64 n167) fun M181 =>
    stc M181 ⟨k173, (0 + 2), none⟩ (.int .i64 n168) fun M182 =>
    exI (Mem.ld M182 ⟨k171, 0, none⟩) .i64 fun n183 =>
    exSl (Mem.ld M182 ⟨k171, (0 + 1), none⟩) fun A184 k185 k186 =>
    exSl (Mem.ld M182 ⟨k171, (0 + 2), none⟩) fun A187 k188 k189 =>
    exSl (Mem.ld M182 ⟨k171, (0 + 3), none⟩) fun A190 k191 k192 =>
    exB (Mem.ld M182 ⟨k171, (0 + 4), none⟩) fun t193 =>
    exI (Mem.ld M182 ⟨k136, 0, none⟩) .i64 fun n194 =>
    exI (Mem.ld M182 ⟨k136, (0 + 1), none⟩) .i64 fun n195 =>
    exI (Mem.ld M182 ⟨k136, (0 + 2), none⟩) .i64 fun n196 =>
    exI (Mem.ld M182 ⟨k173, 0, none⟩) .i64 fun n197 =>
    exI (Mem.ld M182 ⟨k173, (0 + 1), none⟩) .i64 fun n198 =>
    exI (Mem.ld M182 ⟨k173, (0 + 2), none⟩) .i64 fun n199 =>
    bsp ((n194 == n197) && ((n195 == n198) && ((n196 == n199) && true)))
     (bsp (t134 == t169)
       (stc M182 ⟨k5, 0, none⟩ (.int .i64 n183) fun M200 =>
        stc M200 ⟨k5, (0 + 1), none⟩ (.slice A184 k185 k186) fun M201 =>
        stc M201 ⟨k5, (0 + 2), none⟩ (.slice A187 k188 k189) fun M202 =>
        stc M202 ⟨k5, (0 + 3), none⟩ (.slice A190 k191 k192) fun M203 =>
        stc M203 ⟨k5, (0 + 4), none⟩ (.bool t193) fun M204 =>
        exI (Mem.ld M204 ⟨k5, 0, none⟩) .i64 fun n205 =>
        exSl (Mem.ld M204 ⟨k5, (0 + 1), none⟩) fun A206 k207 k208 =>
        exSl (Mem.ld M204 ⟨k5, (0 + 2), none⟩) fun A209 k210 k211 =>
        exSl (Mem.ld M204 ⟨k5, (0 + 3), none⟩) fun A212 k213 k214 =>
        exB (Mem.ld M204 ⟨k5, (0 + 4), none⟩) fun t215 =>
        K (.tuple #[(.agg #[(.int .i64 n205), (.slice A206 k207 k208), (.slice A209 k210 k211), (.slice A212 k213 k214), (.bool t215)]), (.bool (n135 == n170))]) M204)
       (stc M182 ⟨k5, 0, none⟩ (.int .i64 n183) fun M216 =>
        stc M216 ⟨k5, (0 + 1), none⟩ (.slice A184 k185 k186) fun M217 =>
        stc M217 ⟨k5, (0 + 2), none⟩ (.slice A187 k188 k189) fun M218 =>
        stc M218 ⟨k5, (0 + 3), none⟩ (.slice A190 k191 k192) fun M219 =>
        stc M219 ⟨k5, (0 + 4), none⟩ (.bool t193) fun M220 =>
        exI (Mem.ld M220 ⟨k5, 0, none⟩) .i64 fun n221 =>
        exSl (Mem.ld M220 ⟨k5, (0 + 1), none⟩) fun A222 k223 k224 =>
        exSl (Mem.ld M220 ⟨k5, (0 + 2), none⟩) fun A225 k226 k227 =>
        exSl (Mem.ld M220 ⟨k5, (0 + 3), none⟩) fun A228 k229 k230 =>
        exB (Mem.ld M220 ⟨k5, (0 + 4), none⟩) fun t231 =>
        K (.tuple #[(.agg #[(.int .i64 n221), (.slice A222 k223 k224), (.slice A225 k226 k227), (.slice A228 k229 k230), (.bool t231)]), (.bool false)]) M220))
     (stc M182 ⟨k5, 0, none⟩ (.int .i64 n183) fun M232 =>
      stc M232 ⟨k5, (0 + 1), none⟩ (.slice A184 k185 k186) fun M233 =>
      stc M233 ⟨k5, (0 + 2), none⟩ (.slice A187 k188 k189) fun M234 =>
      stc M234 ⟨k5, (0 + 3), none⟩ (.slice A190 k191 k192) fun M235 =>
      stc M235 ⟨k5, (0 + 4), none⟩ (.bool t193) fun M236 =>
      exI (Mem.ld M236 ⟨k5, 0, none⟩) .i64 fun n237 =>
      exSl (Mem.ld M236 ⟨k5, (0 + 1), none⟩) fun A238 k239 k240 =>
      exSl (Mem.ld M236 ⟨k5, (0 + 2), none⟩) fun A241 k242 k243 =>
      exSl (Mem.ld M236 ⟨k5, (0 + 3), none⟩) fun A244 k245 k246 =>
      exB (Mem.ld M236 ⟨k5, (0 + 4), none⟩) fun t247 =>
      K (.tuple #[(.agg #[(.int .i64 n237), (.slice A238 k239 k240), (.slice A241 k242 k243), (.slice A244 k245 k246), (.bool t247)]), (.bool false)]) M236)) Kp) Kp)
   (bsp ((Int.tmod (IntKind.wrap .i64 (((Nat.bitwise and (BitVec.ofInt IntKind.i64.bits n7).toNat (BitVec.ofInt IntKind.i64.bits 255).toNat) : Nat) : Int)) 8) == 2)
     (ACalls Try.prog 37 #[(.pointer (some ⟨b0, o0, none⟩))] M6 (fun v248 M249 =>
      ∃ n250 : Int, ∃ t251 : Bool, ∃ n252 : Int, ∃ n253 : Int, ∃ n254 : Int, ∃ t255 : Bool, ∃ n256 : Int, (v248 = (.tuple #[(.agg #[(.int .i64 n250), (.bool t251), (.int .i64 n252), (.int .i64 n253), (.int .i64 n254), (.bool t255)]), (.int .i64 n256)])) ∧
      nwc M249 (.cells #[(.int .i64 0), (.bool false), (.int .i64 0), (.int .i64 0), (.int .i64 0), (.bool false)] 56 (0, 0)) fun k257 M258 =>
      stc M258 ⟨k257, 0, none⟩ (.int .i64 n250) fun M259 =>
      stc M259 ⟨k257, (0 + 1), none⟩ (.bool t251) fun M260 =>
      stc M260 ⟨k257, (0 + 2), none⟩ (.int .i64 n252) fun M261 =>
      stc M261 ⟨k257, (0 + 3), none⟩ (.int .i64 n253) fun M262 =>
      stc M262 ⟨k257, (0 + 4), none⟩ (.int .i64 n254) fun M263 =>
      stc M263 ⟨k257, (0 + 5), none⟩ (.bool t255) fun M264 =>
      exI (Mem.ld M264 ⟨k1, 0, none⟩) .i64 fun n265 =>
      exSl (Mem.ld M264 ⟨k1, (0 + 1), none⟩) fun A266 k267 k268 =>
      exSl (Mem.ld M264 ⟨k1, (0 + 2), none⟩) fun A269 k270 k271 =>
      exSl (Mem.ld M264 ⟨k1, (0 + 3), none⟩) fun A272 k273 k274 =>
      exB (Mem.ld M264 ⟨k1, (0 + 4), none⟩) fun t275 =>
      ACalls Try.prog 88 #[(.agg #[(.int .i64 n265), (.slice A266 k267 k268), (.slice A269 k270 k271), (.slice A272 k273 k274), (.bool t275)])] M264 (fun v276 M277 =>
      ∃ n278 : Int, ∃ A279 : Option Addr, ∃ k280 : Nat, ∃ k281 : Nat, ∃ A282 : Option Addr, ∃ k283 : Nat, ∃ k284 : Nat, ∃ A285 : Option Addr, ∃ k286 : Nat, ∃ k287 : Nat, ∃ t288 : Bool, ∃ n289 : Int, ∃ t290 : Bool, ∃ n291 : Int, ∃ n292 : Int, ∃ n293 : Int, ∃ t294 : Bool, ∃ n295 : Int, (v276 = (.tuple #[(.agg #[(.int .i64 n278), (.slice A279 k280 k281), (.slice A282 k283 k284), (.slice A285 k286 k287), (.bool t288)]), (.int .i64 n289), (.bool t290), (.agg #[(.int .i64 n291), (.int .i64 n292), (.int .i64 n293)]), (.bool t294), (.int .i64 n295)])) ∧
      nwc M277 (.cells #[(.int .i64 0), (.slice none 0 0), (.slice none 0 0), (.slice none 0 0), (.bool false)] 91 (0, 0)) fun k296 M297 =>
      nwc M297 (.cells #[(.int .i64 0), (.int .i64 0), (.int .i64 0)] 96 (0, 0)) fun k298 M299 =>
      stc M299 ⟨k296, 0, none⟩ (.int .i64 n278) fun M300 =>
      stc M300 ⟨k296, (0 + 1), none⟩ (.slice A279 k280 k281) fun M301 =>
      stc M301 ⟨k296, (0 + 2), none⟩ (.slice A282 k283 k284) fun M302 =>
      stc M302 ⟨k296, (0 + 3), none⟩ (.slice A285 k286 k287) fun M303 =>
      stc M303 ⟨k296, (0 + 4), none⟩ (.bool t288) fun M304 =>
      stc M304 ⟨k298, 0, none⟩ (.int .i64 n291) fun M305 =>
      stc M305 ⟨k298, (0 + 1), none⟩ (.int .i64 n292) fun M306 =>
      stc M306 ⟨k298, (0 + 2), none⟩ (.int .i64 n293) fun M307 =>
      exI (Mem.ld M307 ⟨k296, 0, none⟩) .i64 fun n308 =>
      exSl (Mem.ld M307 ⟨k296, (0 + 1), none⟩) fun A309 k310 k311 =>
      exSl (Mem.ld M307 ⟨k296, (0 + 2), none⟩) fun A312 k313 k314 =>
      exSl (Mem.ld M307 ⟨k296, (0 + 3), none⟩) fun A315 k316 k317 =>
      exB (Mem.ld M307 ⟨k296, (0 + 4), none⟩) fun t318 =>
      exI (Mem.ld M307 ⟨k257, 0, none⟩) .i64 fun n319 =>
      bsp (n319 == n289)
       (exB (Mem.ld M307 ⟨k257, (0 + 1), none⟩) fun t320 =>
        bsp (t320 == t290)
         (exI (Mem.ld M307 ⟨k257, (0 + 2), none⟩) .i64 fun n321 =>
          exI (Mem.ld M307 ⟨k257, ((0 + 2) + 1), none⟩) .i64 fun n322 =>
          exI (Mem.ld M307 ⟨k257, ((0 + 2) + 2), none⟩) .i64 fun n323 =>
          exI (Mem.ld M307 ⟨k298, 0, none⟩) .i64 fun n324 =>
          exI (Mem.ld M307 ⟨k298, (0 + 1), none⟩) .i64 fun n325 =>
          exI (Mem.ld M307 ⟨k298, (0 + 2), none⟩) .i64 fun n326 =>
          bsp ((n321 == n324) && ((n322 == n325) && ((n323 == n326) && true)))
           (exB (Mem.ld M307 ⟨k257, (0 + 5), none⟩) fun t327 =>
            bsp (t327 == t294)
             (stc M307 ⟨k5, 0, none⟩ (.int .i64 n308) fun M328 =>
              stc M328 ⟨k5, (0 + 1), none⟩ (.slice A309 k310 k311) fun M329 =>
              stc M329 ⟨k5, (0 + 2), none⟩ (.slice A312 k313 k314) fun M330 =>
              stc M330 ⟨k5, (0 + 3), none⟩ (.slice A315 k316 k317) fun M331 =>
              stc M331 ⟨k5, (0 + 4), none⟩ (.bool t318) fun M332 =>
              exI (Mem.ld M332 ⟨k5, 0, none⟩) .i64 fun n333 =>
              exSl (Mem.ld M332 ⟨k5, (0 + 1), none⟩) fun A334 k335 k336 =>
              exSl (Mem.ld M332 ⟨k5, (0 + 2), none⟩) fun A337 k338 k339 =>
              exSl (Mem.ld M332 ⟨k5, (0 + 3), none⟩) fun A340 k341 k342 =>
              exB (Mem.ld M332 ⟨k5, (0 + 4), none⟩) fun t343 =>
              K (.tuple #[(.agg #[(.int .i64 n333), (.slice A334 k335 k336), (.slice A337 k338 k339), (.slice A340 k341 k342), (.bool t343)]), (.bool (n256 == n295))]) M332)
             (stc M307 ⟨k5, 0, none⟩ (.int .i64 n308) fun M344 =>
              stc M344 ⟨k5, (0 + 1), none⟩ (.slice A309 k310 k311) fun M345 =>
              stc M345 ⟨k5, (0 + 2), none⟩ (.slice A312 k313 k314) fun M346 =>
              stc M346 ⟨k5, (0 + 3), none⟩ (.slice A315 k316 k317) fun M347 =>
              stc M347 ⟨k5, (0 + 4), none⟩ (.bool t318) fun M348 =>
              exI (Mem.ld M348 ⟨k5, 0, none⟩) .i64 fun n349 =>
              exSl (Mem.ld M348 ⟨k5, (0 + 1), none⟩) fun A350 k351 k352 =>
              exSl (Mem.ld M348 ⟨k5, (0 + 2), none⟩) fun A353 k354 k355 =>
              exSl (Mem.ld M348 ⟨k5, (0 + 3), none⟩) fun A356 k357 k358 =>
              exB (Mem.ld M348 ⟨k5, (0 + 4), none⟩) fun t359 =>
              K (.tuple #[(.agg #[(.int .i64 n349), (.slice A350 k351 k352), (.slice A353 k354 k355), (.slice A356 k357 k358), (.bool t359)]), (.bool false)]) M348))
           (stc M307 ⟨k5, 0, none⟩ (.int .i64 n308) fun M360 =>
            stc M360 ⟨k5, (0 + 1), none⟩ (.slice A309 k310 k311) fun M361 =>
            stc M361 ⟨k5, (0 + 2), none⟩ (.slice A312 k313 k314) fun M362 =>
            stc M362 ⟨k5, (0 + 3), none⟩ (.slice A315 k316 k317) fun M363 =>
            stc M363 ⟨k5, (0 + 4), none⟩ (.bool t318) fun M364 =>
            exI (Mem.ld M364 ⟨k5, 0, none⟩) .i64 fun n365 =>
            exSl (Mem.ld M364 ⟨k5, (0 + 1), none⟩) fun A366 k367 k368 =>
            exSl (Mem.ld M364 ⟨k5, (0 + 2), none⟩) fun A369 k370 k371 =>
            exSl (Mem.ld M364 ⟨k5, (0 + 3), none⟩) fun A372 k373 k374 =>
            exB (Mem.ld M364 ⟨k5, (0 + 4), none⟩) fun t375 =>
            K (.tuple #[(.agg #[(.int .i64 n365), (.slice A366 k367 k368), (.slice A369 k370 k371), (.slice A372 k373 k374), (.bool t375)]), (.bool false)]) M364))
         (stc M307 ⟨k5, 0, none⟩ (.int .i64 n308) fun M376 =>
          stc M376 ⟨k5, (0 + 1), none⟩ (.slice A309 k310 k311) fun M377 =>
          stc M377 ⟨k5, (0 + 2), none⟩ (.slice A312 k313 k314) fun M378 =>
          stc M378 ⟨k5, (0 + 3), none⟩ (.slice A315 k316 k317) fun M379 =>
          stc M379 ⟨k5, (0 + 4), none⟩ (.bool t318) fun M380 =>
          exI (Mem.ld M380 ⟨k5, 0, none⟩) .i64 fun n381 =>
          exSl (Mem.ld M380 ⟨k5, (0 + 1), none⟩) fun A382 k383 k384 =>
          exSl (Mem.ld M380 ⟨k5, (0 + 2), none⟩) fun A385 k386 k387 =>
          exSl (Mem.ld M380 ⟨k5, (0 + 3), none⟩) fun A388 k389 k390 =>
          exB (Mem.ld M380 ⟨k5, (0 + 4), none⟩) fun t391 =>
          K (.tuple #[(.agg #[(.int .i64 n381), (.slice A382 k383 k384), (.slice A385 k386 k387), (.slice A388 k389 k390), (.bool t391)]), (.bool false)]) M380))
       (stc M307 ⟨k5, 0, none⟩ (.int .i64 n308) fun M392 =>
        stc M392 ⟨k5, (0 + 1), none⟩ (.slice A309 k310 k311) fun M393 =>
        stc M393 ⟨k5, (0 + 2), none⟩ (.slice A312 k313 k314) fun M394 =>
        stc M394 ⟨k5, (0 + 3), none⟩ (.slice A315 k316 k317) fun M395 =>
        stc M395 ⟨k5, (0 + 4), none⟩ (.bool t318) fun M396 =>
        exI (Mem.ld M396 ⟨k5, 0, none⟩) .i64 fun n397 =>
        exSl (Mem.ld M396 ⟨k5, (0 + 1), none⟩) fun A398 k399 k400 =>
        exSl (Mem.ld M396 ⟨k5, (0 + 2), none⟩) fun A401 k402 k403 =>
        exSl (Mem.ld M396 ⟨k5, (0 + 3), none⟩) fun A404 k405 k406 =>
        exB (Mem.ld M396 ⟨k5, (0 + 4), none⟩) fun t407 =>
        K (.tuple #[(.agg #[(.int .i64 n397), (.slice A398 k399 k400), (.slice A401 k402 k403), (.slice A404 k405 k406), (.bool t407)]), (.bool false)]) M396)) Kp) Kp)
     (bsp ((Int.tmod (IntKind.wrap .i64 (((Nat.bitwise and (BitVec.ofInt IntKind.i64.bits n7).toNat (BitVec.ofInt IntKind.i64.bits 255).toNat) : Nat) : Int)) 8) == 3)
       (ACalls Try.prog 37 #[(.pointer (some ⟨b0, o0, none⟩))] M6 (fun v408 M409 =>
        ∃ n410 : Int, ∃ t411 : Bool, ∃ n412 : Int, ∃ n413 : Int, ∃ n414 : Int, ∃ t415 : Bool, ∃ n416 : Int, (v408 = (.tuple #[(.agg #[(.int .i64 n410), (.bool t411), (.int .i64 n412), (.int .i64 n413), (.int .i64 n414), (.bool t415)]), (.int .i64 n416)])) ∧
        nwc M409 (.cells #[(.int .i64 0), (.bool false), (.int .i64 0), (.int .i64 0), (.int .i64 0), (.bool false)] 56 (0, 0)) fun k417 M418 =>
        stc M418 ⟨k417, 0, none⟩ (.int .i64 n410) fun M419 =>
        stc M419 ⟨k417, (0 + 1), none⟩ (.bool t411) fun M420 =>
        stc M420 ⟨k417, (0 + 2), none⟩ (.int .i64 n412) fun M421 =>
        stc M421 ⟨k417, (0 + 3), none⟩ (.int .i64 n413) fun M422 =>
        stc M422 ⟨k417, (0 + 4), none⟩ (.int .i64 n414) fun M423 =>
        stc M423 ⟨k417, (0 + 5), none⟩ (.bool t415) fun M424 =>
        exI (Mem.ld M424 ⟨k1, 0, none⟩) .i64 fun n425 =>
        exSl (Mem.ld M424 ⟨k1, (0 + 1), none⟩) fun A426 k427 k428 =>
        exSl (Mem.ld M424 ⟨k1, (0 + 2), none⟩) fun A429 k430 k431 =>
        exSl (Mem.ld M424 ⟨k1, (0 + 3), none⟩) fun A432 k433 k434 =>
        exB (Mem.ld M424 ⟨k1, (0 + 4), none⟩) fun t435 =>
        ACalls Try.prog 88 #[(.agg #[(.int .i64 n425), (.slice A426 k427 k428), (.slice A429 k430 k431), (.slice A432 k433 k434), (.bool t435)])] M424 (fun v436 M437 =>
        ∃ n438 : Int, ∃ A439 : Option Addr, ∃ k440 : Nat, ∃ k441 : Nat, ∃ A442 : Option Addr, ∃ k443 : Nat, ∃ k444 : Nat, ∃ A445 : Option Addr, ∃ k446 : Nat, ∃ k447 : Nat, ∃ t448 : Bool, ∃ n449 : Int, ∃ t450 : Bool, ∃ n451 : Int, ∃ n452 : Int, ∃ n453 : Int, ∃ t454 : Bool, ∃ n455 : Int, (v436 = (.tuple #[(.agg #[(.int .i64 n438), (.slice A439 k440 k441), (.slice A442 k443 k444), (.slice A445 k446 k447), (.bool t448)]), (.int .i64 n449), (.bool t450), (.agg #[(.int .i64 n451), (.int .i64 n452), (.int .i64 n453)]), (.bool t454), (.int .i64 n455)])) ∧
        nwc M437 (.cells #[(.int .i64 0), (.slice none 0 0), (.slice none 0 0), (.slice none 0 0), (.bool false)] 91 (0, 0)) fun k456 M457 =>
        nwc M457 (.cells #[(.int .i64 0), (.int .i64 0), (.int .i64 0)] 96 (0, 0)) fun k458 M459 =>
        stc M459 ⟨k456, 0, none⟩ (.int .i64 n438) fun M460 =>
        stc M460 ⟨k456, (0 + 1), none⟩ (.slice A439 k440 k441) fun M461 =>
        stc M461 ⟨k456, (0 + 2), none⟩ (.slice A442 k443 k444) fun M462 =>
        stc M462 ⟨k456, (0 + 3), none⟩ (.slice A445 k446 k447) fun M463 =>
        stc M463 ⟨k456, (0 + 4), none⟩ (.bool t448) fun M464 =>
        stc M464 ⟨k458, 0, none⟩ (.int .i64 n451) fun M465 =>
        stc M465 ⟨k458, (0 + 1), none⟩ (.int .i64 n452) fun M466 =>
        stc M466 ⟨k458, (0 + 2), none⟩ (.int .i64 n453) fun M467 =>
        exI (Mem.ld M467 ⟨k456, 0, none⟩) .i64 fun n468 =>
        exSl (Mem.ld M467 ⟨k456, (0 + 1), none⟩) fun A469 k470 k471 =>
        exSl (Mem.ld M467 ⟨k456, (0 + 2), none⟩) fun A472 k473 k474 =>
        exSl (Mem.ld M467 ⟨k456, (0 + 3), none⟩) fun A475 k476 k477 =>
        exB (Mem.ld M467 ⟨k456, (0 + 4), none⟩) fun t478 =>
        exI (Mem.ld M467 ⟨k417, 0, none⟩) .i64 fun n479 =>
        bsp (n479 == n449)
         (exB (Mem.ld M467 ⟨k417, (0 + 1), none⟩) fun t480 =>
          bsp (t480 == t450)
           (exI (Mem.ld M467 ⟨k417, (0 + 2), none⟩) .i64 fun n481 =>
            exI (Mem.ld M467 ⟨k417, ((0 + 2) + 1), none⟩) .i64 fun n482 =>
            exI (Mem.ld M467 ⟨k417, ((0 + 2) + 2), none⟩) .i64 fun n483 =>
            exI (Mem.ld M467 ⟨k458, 0, none⟩) .i64 fun n484 =>
            exI (Mem.ld M467 ⟨k458, (0 + 1), none⟩) .i64 fun n485 =>
            exI (Mem.ld M467 ⟨k458, (0 + 2), none⟩) .i64 fun n486 =>
            bsp ((n481 == n484) && ((n482 == n485) && ((n483 == n486) && true)))
             (exB (Mem.ld M467 ⟨k417, (0 + 5), none⟩) fun t487 =>
              bsp (t487 == t454)
               (stc M467 ⟨k5, 0, none⟩ (.int .i64 n468) fun M488 =>
                stc M488 ⟨k5, (0 + 1), none⟩ (.slice A469 k470 k471) fun M489 =>
                stc M489 ⟨k5, (0 + 2), none⟩ (.slice A472 k473 k474) fun M490 =>
                stc M490 ⟨k5, (0 + 3), none⟩ (.slice A475 k476 k477) fun M491 =>
                stc M491 ⟨k5, (0 + 4), none⟩ (.bool t478) fun M492 =>
                exI (Mem.ld M492 ⟨k5, 0, none⟩) .i64 fun n493 =>
                exSl (Mem.ld M492 ⟨k5, (0 + 1), none⟩) fun A494 k495 k496 =>
                exSl (Mem.ld M492 ⟨k5, (0 + 2), none⟩) fun A497 k498 k499 =>
                exSl (Mem.ld M492 ⟨k5, (0 + 3), none⟩) fun A500 k501 k502 =>
                exB (Mem.ld M492 ⟨k5, (0 + 4), none⟩) fun t503 =>
                K (.tuple #[(.agg #[(.int .i64 n493), (.slice A494 k495 k496), (.slice A497 k498 k499), (.slice A500 k501 k502), (.bool t503)]), (.bool (n416 == n455))]) M492)
               (stc M467 ⟨k5, 0, none⟩ (.int .i64 n468) fun M504 =>
                stc M504 ⟨k5, (0 + 1), none⟩ (.slice A469 k470 k471) fun M505 =>
                stc M505 ⟨k5, (0 + 2), none⟩ (.slice A472 k473 k474) fun M506 =>
                stc M506 ⟨k5, (0 + 3), none⟩ (.slice A475 k476 k477) fun M507 =>
                stc M507 ⟨k5, (0 + 4), none⟩ (.bool t478) fun M508 =>
                exI (Mem.ld M508 ⟨k5, 0, none⟩) .i64 fun n509 =>
                exSl (Mem.ld M508 ⟨k5, (0 + 1), none⟩) fun A510 k511 k512 =>
                exSl (Mem.ld M508 ⟨k5, (0 + 2), none⟩) fun A513 k514 k515 =>
                exSl (Mem.ld M508 ⟨k5, (0 + 3), none⟩) fun A516 k517 k518 =>
                exB (Mem.ld M508 ⟨k5, (0 + 4), none⟩) fun t519 =>
                K (.tuple #[(.agg #[(.int .i64 n509), (.slice A510 k511 k512), (.slice A513 k514 k515), (.slice A516 k517 k518), (.bool t519)]), (.bool false)]) M508))
             (stc M467 ⟨k5, 0, none⟩ (.int .i64 n468) fun M520 =>
              stc M520 ⟨k5, (0 + 1), none⟩ (.slice A469 k470 k471) fun M521 =>
              stc M521 ⟨k5, (0 + 2), none⟩ (.slice A472 k473 k474) fun M522 =>
              stc M522 ⟨k5, (0 + 3), none⟩ (.slice A475 k476 k477) fun M523 =>
              stc M523 ⟨k5, (0 + 4), none⟩ (.bool t478) fun M524 =>
              exI (Mem.ld M524 ⟨k5, 0, none⟩) .i64 fun n525 =>
              exSl (Mem.ld M524 ⟨k5, (0 + 1), none⟩) fun A526 k527 k528 =>
              exSl (Mem.ld M524 ⟨k5, (0 + 2), none⟩) fun A529 k530 k531 =>
              exSl (Mem.ld M524 ⟨k5, (0 + 3), none⟩) fun A532 k533 k534 =>
              exB (Mem.ld M524 ⟨k5, (0 + 4), none⟩) fun t535 =>
              K (.tuple #[(.agg #[(.int .i64 n525), (.slice A526 k527 k528), (.slice A529 k530 k531), (.slice A532 k533 k534), (.bool t535)]), (.bool false)]) M524))
           (stc M467 ⟨k5, 0, none⟩ (.int .i64 n468) fun M536 =>
            stc M536 ⟨k5, (0 + 1), none⟩ (.slice A469 k470 k471) fun M537 =>
            stc M537 ⟨k5, (0 + 2), none⟩ (.slice A472 k473 k474) fun M538 =>
            stc M538 ⟨k5, (0 + 3), none⟩ (.slice A475 k476 k477) fun M539 =>
            stc M539 ⟨k5, (0 + 4), none⟩ (.bool t478) fun M540 =>
            exI (Mem.ld M540 ⟨k5, 0, none⟩) .i64 fun n541 =>
            exSl (Mem.ld M540 ⟨k5, (0 + 1), none⟩) fun A542 k543 k544 =>
            exSl (Mem.ld M540 ⟨k5, (0 + 2), none⟩) fun A545 k546 k547 =>
            exSl (Mem.ld M540 ⟨k5, (0 + 3), none⟩) fun A548 k549 k550 =>
            exB (Mem.ld M540 ⟨k5, (0 + 4), none⟩) fun t551 =>
            K (.tuple #[(.agg #[(.int .i64 n541), (.slice A542 k543 k544), (.slice A545 k546 k547), (.slice A548 k549 k550), (.bool t551)]), (.bool false)]) M540))
         (stc M467 ⟨k5, 0, none⟩ (.int .i64 n468) fun M552 =>
          stc M552 ⟨k5, (0 + 1), none⟩ (.slice A469 k470 k471) fun M553 =>
          stc M553 ⟨k5, (0 + 2), none⟩ (.slice A472 k473 k474) fun M554 =>
          stc M554 ⟨k5, (0 + 3), none⟩ (.slice A475 k476 k477) fun M555 =>
          stc M555 ⟨k5, (0 + 4), none⟩ (.bool t478) fun M556 =>
          exI (Mem.ld M556 ⟨k5, 0, none⟩) .i64 fun n557 =>
          exSl (Mem.ld M556 ⟨k5, (0 + 1), none⟩) fun A558 k559 k560 =>
          exSl (Mem.ld M556 ⟨k5, (0 + 2), none⟩) fun A561 k562 k563 =>
          exSl (Mem.ld M556 ⟨k5, (0 + 3), none⟩) fun A564 k565 k566 =>
          exB (Mem.ld M556 ⟨k5, (0 + 4), none⟩) fun t567 =>
          K (.tuple #[(.agg #[(.int .i64 n557), (.slice A558 k559 k560), (.slice A561 k562 k563), (.slice A564 k565 k566), (.bool t567)]), (.bool false)]) M556)) Kp) Kp)
       (bsp ((Int.tmod (IntKind.wrap .i64 (((Nat.bitwise and (BitVec.ofInt IntKind.i64.bits n7).toNat (BitVec.ofInt IntKind.i64.bits 255).toNat) : Nat) : Int)) 8) == 4)
         (exI (Mem.ld M6 ⟨k3, (0 + 2), none⟩) .i64 fun n568 =>
          exI (Mem.ld M6 ⟨k3, ((0 + 2) + 1), none⟩) .i64 fun n569 =>
          exI (Mem.ld M6 ⟨k3, ((0 + 2) + 2), none⟩) .i64 fun n570 =>
          ACalls Try.prog 35 #[(.pointer (some ⟨b0, o0, none⟩)), (.agg #[(.int .i64 n568), (.int .i64 n569), (.int .i64 n570)])] M6 (fun v571 M572 =>
          (v571 = (.tuple #[])) ∧
          exSl (Mem.ld M572 ⟨k1, (0 + 2), none⟩) fun A573 k574 k575 =>
          exI (Mem.ld M572 ⟨k3, (0 + 2), none⟩) .i64 fun n576 =>
          exI (Mem.ld M572 ⟨k3, ((0 + 2) + 1), none⟩) .i64 fun n577 =>
          exI (Mem.ld M572 ⟨k3, ((0 + 2) + 2), none⟩) .i64 fun n578 =>
          nwc M572 (.cells #[] 96 (0, 0)) fun k579 M580 =>
          (True) ∧
          semK Try.prog (Go.Builtin.append_ #[89, 89] 89 #[(.slice (some ⟨k579, 0, none⟩) 0 0), (.slice A573 k574 k575)]) M580 (fun v581 M582 =>
          exSl (some v581) fun A583 k584 k585 =>
          ((Mem.lds M582 ⟨k3, (0 + 2), none⟩ 0 3) = some [(.int .i64 n576), (.int .i64 n577), (.int .i64 n578)]) ∧
          nwc M582 (.cells #[(.int .i64 n576), (.int .i64 n577), (.int .i64 n578)] 96 (0, 0)) fun k586 M587 =>
          semK Try.prog (Go.Builtin.append_ #[89, 89] 89 #[(.slice A583 k584 k585), (.slice (some ⟨k586, 0, none⟩) 1 1)]) M587 (fun v588 M589 =>
          exSl (some v588) fun A590 k591 k592 =>
          ((Mem.lds M589 ⟨k3, (0 + 2), none⟩ 0 3) = some [(.int .i64 n576), (.int .i64 n577), (.int .i64 n578)]) ∧
          stc M589 ⟨k1, (0 + 2), none⟩ (.slice A590 k591 k592) fun M593 =>
          ((Mem.lds M593 ⟨k3, (0 + 2), none⟩ 0 3) = some [(.int .i64 n576), (.int .i64 n577), (.int .i64 n578)]) ∧
          exI (Mem.ld M593 ⟨k1, 0, none⟩) .i64 fun n594 =>
          exSl (Mem.ld M593 ⟨k1, (0 + 1), none⟩) fun A595 k596 k597 =>
          exSl (Mem.ld M593 ⟨k1, (0 + 2), none⟩) fun A598 k599 k600 =>
          exSl (Mem.ld M593 ⟨k1, (0 + 3), none⟩) fun A601 k602 k603 =>
          exB (Mem.ld M593 ⟨k1, (0 + 4), none⟩) fun t604 =>
          stc M593 ⟨k5, 0, none⟩ (.int .i64 n594) fun M605 =>
          stc M605 ⟨k5, (0 + 1), none⟩ (.slice A595 k596 k597) fun M606 =>
          stc M606 ⟨k5, (0 + 2), none⟩ (.slice A598 k599 k600) fun M607 =>
          stc M607 ⟨k5, (0 + 3), none⟩ (.slice A601 k602 k603) fun M608 =>
          stc M608 ⟨k5, (0 + 4), none⟩ (.bool t604) fun M609 =>
          exI (Mem.ld M609 ⟨k5, 0, none⟩) .i64 fun n610 =>
          exSl (Mem.ld M609 ⟨k5, (0 + 1), none⟩) fun A611 k612 k613 =>
          exSl (Mem.ld M609 ⟨k5, (0 + 2), none⟩) fun A614 k615 k616 =>
          exSl (Mem.ld M609 ⟨k5, (0 + 3), none⟩) fun A617 k618 k619 =>
          exB (Mem.ld M609 ⟨k5, (0 + 4), none⟩) fun t620 =>
          K (.tuple #[(.agg #[(.int .i64 n610), (.slice A611 k612 k613), (.slice A614 k615 k616), (.slice A617 k618 k619), (.bool t620)]), (.bool true)]) M609) Kp) Kp) Kp)
         (bsp ((Int.tmod (IntKind.wrap .i64 (((Nat.bitwise and (BitVec.ofInt IntKind.i64.bits n7).toNat (BitVec.ofInt IntKind.i64.bits 255).toNat) : Nat) : Int)) 8) == 5)
           (exI (Mem.ld M6 ⟨k3, (0 + 2), none⟩) .i64 fun n621 =>
            exI (Mem.ld M6 ⟨k3, ((0 + 2) + 1), none⟩) .i64 fun n622 =>
            exI (Mem.ld M6 ⟨k3, ((0 + 2) + 2), none⟩) .i64 fun n623 =>
            ACalls Try.prog 36 #[(.pointer (some ⟨b0, o0, none⟩)), (.agg #[(.int .i64 n621), (.int .i64 n622), (.int .i64 n623)])] M6 (fun v624 M625 =>
            (v624 = (.tuple #[])) ∧
            exSl (Mem.ld M625 ⟨k1, (0 + 3), none⟩) fun A626 k627 k628 =>
            exI (Mem.ld M625 ⟨k3, (0 + 2), none⟩) .i64 fun n629 =>
            exI (Mem.ld M625 ⟨k3, ((0 + 2) + 1), none⟩) .i64 fun n630 =>
            exI (Mem.ld M625 ⟨k3, ((0 + 2) + 2), none⟩) .i64 fun n631 =>
            nwc M625 (.cells #[] 96 (0, 0)) fun k632 M633 =>
            (True) ∧
            semK Try.prog (Go.Builtin.append_ #[89, 89] 89 #[(.slice (some ⟨k632, 0, none⟩) 0 0), (.slice A626 k627 k628)]) M633 (fun v634 M635 =>
            exSl (some v634) fun A636 k637 k638 =>
            ((Mem.lds M635 ⟨k3, (0 + 2), none⟩ 0 3) = some [(.int .i64 n629), (.int .i64 n630), (.int .i64 n631)]) ∧
            nwc M635 (.cells #[(.int .i64 n629), (.int .i64 n630), (.int .i64 n631)] 96 (0, 0)) fun k639 M640 =>
            semK Try.prog (Go.Builtin.append_ #[89, 89] 89 #[(.slice A636 k637 k638), (.slice (some ⟨k639, 0, none⟩) 1 1)]) M640 (fun v641 M642 =>
            exSl (some v641) fun A643 k644 k645 =>
            ((Mem.lds M642 ⟨k3, (0 + 2), none⟩ 0 3) = some [(.int .i64 n629), (.int .i64 n630), (.int .i64 n631)]) ∧
            stc M642 ⟨k1, (0 + 3), none⟩ (.slice A643 k644 k645) fun M646 =>
            ((Mem.lds M646 ⟨k3, (0 + 2), none⟩ 0 3) = some [(.int .i64 n629), (.int .i64 n630), (.int .i64 n631)]) ∧
            exI (Mem.ld M646 ⟨k1, 0, none⟩) .i64 fun n647 =>
            exSl (Mem.ld M646 ⟨k1, (0 + 1), none⟩) fun A648 k649 k650 =>
            exSl (Mem.ld M646 ⟨k1, (0 + 2), none⟩) fun A651 k652 k653 =>
            exSl (Mem.ld M646 ⟨k1, (0 + 3), none⟩) fun A654 k655 k656 =>
            exB (Mem.ld M646 ⟨k1, (0 + 4), none⟩) fun t657 =>
            stc M646 ⟨k5, 0, none⟩ (.int .i64 n647) fun M658 =>
            stc M658 ⟨k5, (0 + 1), none⟩ (.slice A648 k649 k650) fun M659 =>
            stc M659 ⟨k5, (0 + 2), none⟩ (.slice A651 k652 k653) fun M660 =>
            stc M660 ⟨k5, (0 + 3), none⟩ (.slice A654 k655 k656) fun M661 =>
            stc M661 ⟨k5, (0 + 4), none⟩ (.bool t657) fun M662 =>
            exI (Mem.ld M662 ⟨k5, 0, none⟩) .i64 fun n663 =>
            exSl (Mem.ld M662 ⟨k5, (0 + 1), none⟩) fun A664 k665 k666 =>
            exSl (Mem.ld M662 ⟨k5, (0 + 2), none⟩) fun A667 k668 k669 =>
            exSl (Mem.ld M662 ⟨k5, (0 + 3), none⟩) fun A670 k671 k672 =>
            exB (Mem.ld M662 ⟨k5, (0 + 4), none⟩) fun t673 =>
            K (.tuple #[(.agg #[(.int .i64 n663), (.slice A664 k665 k666), (.slice A667 k668 k669), (.slice A670 k671 k672), (.bool t673)]), (.bool true)]) M662) Kp) Kp) Kp)
           (bsp ((Int.tmod (IntKind.wrap .i64 (((Nat.bitwise and (BitVec.ofInt IntKind.i64.bits n7).toNat (BitVec.ofInt IntKind.i64.bits 255).toNat) : Nat) : Int)) 8) == 6)
             (exI (Mem.ld M6 ⟨k3, (0 + 2), none⟩) .i64 fun n674 =>
              ACalls Try.prog 89 #[(.pointer (some ⟨b0, o0, none⟩)), (.int .i64 n674)] M6 (fun v675 M676 =>
              (v675 = (.tuple #[])) ∧
              exI (Mem.ld M676 ⟨k1, 0, none⟩) .i64 fun n677 =>
              exSl (Mem.ld M676 ⟨k1, (0 + 1), none⟩) fun A678 k679 k680 =>
              exSl (Mem.ld M676 ⟨k1, (0 + 2), none⟩) fun A681 k682 k683 =>
              exSl (Mem.ld M676 ⟨k1, (0 + 3), none⟩) fun A684 k685 k686 =>
              exB (Mem.ld M676 ⟨k1, (0 + 4), none⟩) fun t687 =>
              exI (Mem.ld M676 ⟨k3, (0 + 2), none⟩) .i64 fun n688 =>
              ACalls Try.prog 90 #[(.agg #[(.int .i64 n677), (.slice A678 k679 k680), (.slice A681 k682 k683), (.slice A684 k685 k686), (.bool t687)]), (.int .i64 n688)] M676 (fun v689 M690 =>
              ∃ n691 : Int, ∃ A692 : Option Addr, ∃ k693 : Nat, ∃ k694 : Nat, ∃ A695 : Option Addr, ∃ k696 : Nat, ∃ k697 : Nat, ∃ A698 : Option Addr, ∃ k699 : Nat, ∃ k700 : Nat, ∃ t701 : Bool, (v689 = (.agg #[(.int .i64 n691), (.slice A692 k693 k694), (.slice A695 k696 k697), (.slice A698 k699 k700), (.bool t701)])) ∧
              stc M690 ⟨k5, 0, none⟩ (.int .i64 n691) fun M702 =>
              stc M702 ⟨k5, (0 + 1), none⟩ (.slice A692 k693 k694) fun M703 =>
              stc M703 ⟨k5, (0 + 2), none⟩ (.slice A695 k696 k697) fun M704 =>
              stc M704 ⟨k5, (0 + 3), none⟩ (.slice A698 k699 k700) fun M705 =>
              stc M705 ⟨k5, (0 + 4), none⟩ (.bool t701) fun M706 =>
              exI (Mem.ld M706 ⟨k5, 0, none⟩) .i64 fun n707 =>
              exSl (Mem.ld M706 ⟨k5, (0 + 1), none⟩) fun A708 k709 k710 =>
              exSl (Mem.ld M706 ⟨k5, (0 + 2), none⟩) fun A711 k712 k713 =>
              exSl (Mem.ld M706 ⟨k5, (0 + 3), none⟩) fun A714 k715 k716 =>
              exB (Mem.ld M706 ⟨k5, (0 + 4), none⟩) fun t717 =>
              K (.tuple #[(.agg #[(.int .i64 n707), (.slice A708 k709 k710), (.slice A711 k712 k713), (.slice A714 k715 k716), (.bool t717)]), (.bool true)]) M706) Kp) Kp)
             (ACalls Try.prog 45 #[(.pointer (some ⟨b0, o0, none⟩))] M6 (fun v718 M719 =>
              ∃ A720 : Option Addr, ∃ k721 : Nat, ∃ k722 : Nat, ∃ A723 : Option Addr, ∃ k724 : Nat, ∃ k725 : Nat, ∃ n726 : Int, (v718 = (.tuple #[(.slice A720 k721 k722), (.slice A723 k724 k725), (.int .i64 n726)])) ∧
              exI (Mem.ld M719 ⟨k1, 0, none⟩) .i64 fun n727 =>
              exSl (Mem.ld M719 ⟨k1, (0 + 1), none⟩) fun A728 k729 k730 =>
              exSl (Mem.ld M719 ⟨k1, (0 + 2), none⟩) fun A731 k732 k733 =>
              exSl (Mem.ld M719 ⟨k1, (0 + 3), none⟩) fun A734 k735 k736 =>
              exB (Mem.ld M719 ⟨k1, (0 + 4), none⟩) fun t737 =>
              ACalls Try.prog 91 #[(.agg #[(.int .i64 n727), (.slice A728 k729 k730), (.slice A731 k732 k733), (.slice A734 k735 k736), (.bool t737)])] M719 (fun v738 M739 =>
              ∃ n740 : Int, ∃ A741 : Option Addr, ∃ k742 : Nat, ∃ k743 : Nat, ∃ A744 : Option Addr, ∃ k745 : Nat, ∃ k746 : Nat, ∃ A747 : Option Addr, ∃ k748 : Nat, ∃ k749 : Nat, ∃ t750 : Bool, ∃ A751 : Option Addr, ∃ k752 : Nat, ∃ k753 : Nat, ∃ A754 : Option Addr, ∃ k755 : Nat, ∃ k756 : Nat, ∃ n757 : Int, (v738 = (.tuple #[(.agg #[(.int .i64 n740), (.slice A741 k742 k743), (.slice A744 k745 k746), (.slice A747 k748 k749), (.bool t750)]), (.slice A751 k752 k753), (.slice A754 k755 k756), (.int .i64 n757)])) ∧
              nwc M739 (.cells #[(.int .i64 0), (.slice none 0 0), (.slice none 0 0), (.slice none 0 0), (.bool false)] 91 (0, 0)) fun k758 M759 =>
              stc M759 ⟨k758, 0, none⟩ (.int .i64 n740) fun M760 =>
              stc M760 ⟨k758, (0 + 1), none⟩ (.slice A741 k742 k743) fun M761 =>
              stc M761 ⟨k758, (0 + 2), none⟩ (.slice A744 k745 k746) fun M762 =>
              stc M762 ⟨k758, (0 + 3), none⟩ (.slice A747 k748 k749) fun M763 =>
              stc M763 ⟨k758, (0 + 4), none⟩ (.bool t750) fun M764 =>
              bsp (n726 == n757)
               (exI (Mem.ld M764 ⟨k758, 0, none⟩) .i64 fun n765 =>
                exSl (Mem.ld M764 ⟨k758, (0 + 1), none⟩) fun A766 k767 k768 =>
                exSl (Mem.ld M764 ⟨k758, (0 + 2), none⟩) fun A769 k770 k771 =>
                exSl (Mem.ld M764 ⟨k758, (0 + 3), none⟩) fun A772 k773 k774 =>
                exB (Mem.ld M764 ⟨k758, (0 + 4), none⟩) fun t775 =>
                ACalls Try.prog 92 #[(.slice A720 k721 k722), (.slice A751 k752 k753)] M764 (fun v776 M777 =>
                exI (some v776) .i64 fun n778 =>
                ((Mem.lds M777 ⟨k758, 0, none⟩ 0 5) = some [(.int .i64 n765), (.slice A766 k767 k768), (.slice A769 k770 k771), (.slice A772 k773 k774), (.bool t775)]) ∧
                bsp (n778 == 0)
                 (ACalls Try.prog 92 #[(.slice A723 k724 k725), (.slice A754 k755 k756)] M777 (fun v779 M780 =>
                  exI (some v779) .i64 fun n781 =>
                  ((Mem.lds M780 ⟨k758, 0, none⟩ 0 5) = some [(.int .i64 n765), (.slice A766 k767 k768), (.slice A769 k770 k771), (.slice A772 k773 k774), (.bool t775)]) ∧
                  stc M780 ⟨k5, 0, none⟩ (.int .i64 n765) fun M782 =>
                  stc M782 ⟨k5, (0 + 1), none⟩ (.slice A766 k767 k768) fun M783 =>
                  stc M783 ⟨k5, (0 + 2), none⟩ (.slice A769 k770 k771) fun M784 =>
                  stc M784 ⟨k5, (0 + 3), none⟩ (.slice A772 k773 k774) fun M785 =>
                  stc M785 ⟨k5, (0 + 4), none⟩ (.bool t775) fun M786 =>
                  ((Mem.lds M786 ⟨k758, 0, none⟩ 0 5) = some [(.int .i64 n765), (.slice A766 k767 k768), (.slice A769 k770 k771), (.slice A772 k773 k774), (.bool t775)]) ∧
                  exI (Mem.ld M786 ⟨k5, 0, none⟩) .i64 fun n787 =>
                  exSl (Mem.ld M786 ⟨k5, (0 + 1), none⟩) fun A788 k789 k790 =>
                  exSl (Mem.ld M786 ⟨k5, (0 + 2), none⟩) fun A791 k792 k793 =>
                  exSl (Mem.ld M786 ⟨k5, (0 + 3), none⟩) fun A794 k795 k796 =>
                  exB (Mem.ld M786 ⟨k5, (0 + 4), none⟩) fun t797 =>
                  K (.tuple #[(.agg #[(.int .i64 n787), (.slice A788 k789 k790), (.slice A791 k792 k793), (.slice A794 k795 k796), (.bool t797)]), (.bool (n781 == 0))]) M786) Kp)
                 (((Mem.lds M777 ⟨k758, 0, none⟩ 0 5) = some [(.int .i64 n765), (.slice A766 k767 k768), (.slice A769 k770 k771), (.slice A772 k773 k774), (.bool t775)]) ∧
                  stc M777 ⟨k5, 0, none⟩ (.int .i64 n765) fun M798 =>
                  stc M798 ⟨k5, (0 + 1), none⟩ (.slice A766 k767 k768) fun M799 =>
                  stc M799 ⟨k5, (0 + 2), none⟩ (.slice A769 k770 k771) fun M800 =>
                  stc M800 ⟨k5, (0 + 3), none⟩ (.slice A772 k773 k774) fun M801 =>
                  stc M801 ⟨k5, (0 + 4), none⟩ (.bool t775) fun M802 =>
                  ((Mem.lds M802 ⟨k758, 0, none⟩ 0 5) = some [(.int .i64 n765), (.slice A766 k767 k768), (.slice A769 k770 k771), (.slice A772 k773 k774), (.bool t775)]) ∧
                  exI (Mem.ld M802 ⟨k5, 0, none⟩) .i64 fun n803 =>
                  exSl (Mem.ld M802 ⟨k5, (0 + 1), none⟩) fun A804 k805 k806 =>
                  exSl (Mem.ld M802 ⟨k5, (0 + 2), none⟩) fun A807 k808 k809 =>
                  exSl (Mem.ld M802 ⟨k5, (0 + 3), none⟩) fun A810 k811 k812 =>
                  exB (Mem.ld M802 ⟨k5, (0 + 4), none⟩) fun t813 =>
                  K (.tuple #[(.agg #[(.int .i64 n803), (.slice A804 k805 k806), (.slice A807 k808 k809), (.slice A810 k811 k812), (.bool t813)]), (.bool false)]) M802)) Kp)
               (exI (Mem.ld M764 ⟨k758, 0, none⟩) .i64 fun n814 =>
                exSl (Mem.ld M764 ⟨k758, (0 + 1), none⟩) fun A815 k816 k817 =>
                exSl (Mem.ld M764 ⟨k758, (0 + 2), none⟩) fun A818 k819 k820 =>
                exSl (Mem.ld M764 ⟨k758, (0 + 3), none⟩) fun A821 k822 k823 =>
                exB (Mem.ld M764 ⟨k758, (0 + 4), none⟩) fun t824 =>
                ((Mem.lds M764 ⟨k758, 0, none⟩ 0 5) = some [(.int .i64 n814), (.slice A815 k816 k817), (.slice A818 k819 k820), (.slice A821 k822 k823), (.bool t824)]) ∧
                ((Mem.lds M764 ⟨k758, 0, none⟩ 0 5) = some [(.int .i64 n814), (.slice A815 k816 k817), (.slice A818 k819 k820), (.slice A821 k822 k823), (.bool t824)]) ∧
                stc M764 ⟨k5, 0, none⟩ (.int .i64 n814) fun M825 =>
                stc M825 ⟨k5, (0 + 1), none⟩ (.slice A815 k816 k817) fun M826 =>
                stc M826 ⟨k5, (0 + 2), none⟩ (.slice A818 k819 k820) fun M827 =>
                stc M827 ⟨k5, (0 + 3), none⟩ (.slice A821 k822 k823) fun M828 =>
                stc M828 ⟨k5, (0 + 4), none⟩ (.bool t824) fun M829 =>
                ((Mem.lds M829 ⟨k758, 0, none⟩ 0 5) = some [(.int .i64 n814), (.slice A815 k816 k817), (.slice A818 k819 k820), (.slice A821 k822 k823), (.bool t824)]) ∧
                exI (Mem.ld M829 ⟨k5, 0, none⟩) .i64 fun n830 =>
                exSl (Mem.ld M829 ⟨k5, (0 + 1), none⟩) fun A831 k832 k833 =>
                exSl (Mem.ld M829 ⟨k5, (0 + 2), none⟩) fun A834 k835 k836 =>
                exSl (Mem.ld M829 ⟨k5, (0 + 3), none⟩) fun A837 k838 k839 =>
                exB (Mem.ld M829 ⟨k5, (0 + 4), none⟩) fun t840 =>
                K (.tuple #[(.agg #[(.int .i64 n830), (.slice A831 k832 k833), (.slice A834 k835 k836), (.slice A837 k838 k839), (.bool t840)]), (.bool false)]) M829)) Kp) Kp)))))))) :
  ACalls Try.prog 53 ([.pointer (some ⟨b0, o0, none⟩), .agg #[.int .i64 x1_0, .slice B1_1 m1_1 c1_1, .slice B1_2 m1_2 c1_2, .slice B1_3 m1_3 c1_3, .bool q1_4], .agg #[.int .i64 x2_0, .int .i64 x2_1, .int .i64 x2_2, .int .i64 x2_3, .int .i64 x2_4]] : List Value).toArray M K Kp :=
  acalls_vc (C := Cx) good [(6, .reg [0, 0, 0, 6, 14, 30, 30, 126, 254, 510, 1022, 1022, 4094, 8190, 1023, 32767] (.step 0 (.step 1 (.step 2 (.step 3 (.step 4 (.step 5 (.step 6 (.step 7 (.step 8 (.step 9 (.step 10 (.step 11 (.step 12 (.step 13 (.step 14 (.step 15 .done))))))))))))))))), (11, .reg [0, 0, 2, 0, 14, 30, 62, 126, 62, 510, 1022, 2046, 4094, 8190, 4094, 32766, 65534, 131070, 262142, 524286, 262142, 2097150, 4194302, 8388606, 16777214, 16777214, 67108862, 134217726, 16777215, 536870911] (.step 1 (.step 3 (.step 0 (.step 2 (.step 4 (.step 5 (.step 6 (.step 8 (.step 7 (.step 9 (.step 10 (.step 11 (.step 12 (.step 13 (.step 14 (.step 15 (.step 16 (.step 17 (.step 18 (.step 20 (.step 19 (.step 21 (.step 22 (.step 23 (.step 24 (.step 25 (.step 26 (.step 27 (.step 28 (.step 29 .done))))))))))))))))))))))))))))))), (14, .reg [0, 0, 2, 7, 0, 16, 48, 127, 255, 511] (.step 1 (.step 4 (.step 2 (.prom 5 (.step 0 (.late 3 (.step 6 (.step 7 (.step 8 (.step 9 .done))))))))))), (18, .reg [0, 0, 2, 7, 0, 16, 48, 127, 255, 511] (.step 1 (.step 4 (.step 2 (.prom 5 (.step 0 (.late 3 (.step 6 (.step 7 (.step 8 (.step 9 .done))))))))))), (25, .reg [0, 0, 0, 6, 14, 30, 30, 126, 254, 510, 1022, 2046, 2046, 8190, 16382, 32766, 16383, 131071] (.step 1 (.step 2 (.step 3 (.step 4 (.step 5 (.step 6 (.prom 0 (.step 7 (.step 8 (.step 9 (.step 10 (.step 11 (.step 12 (.step 13 (.step 14 (.step 15 (.step 16 (.step 17 .done)))))))))))))))))))] Try.func53 (by kernel_rfl) (by kernel_rfl) h

end Go.Proofs
