/- A part of proofs about functions of one program: a condition over a partial memory that is enough for a call, and what calls answer by it. No condition of its own. -/
import Derived.Test.YtodeolmcinekoaaCx
namespace Go.Proofs
open Go.AF
set_option linter.unusedVariables false
set_option maxRecDepth 100000
theorem vc_shunterlaw15_PicksCases {x0_0 : Int} {x0_1 : Int} {x0_2 : Int} {B1 : Option Addr} {m1 c1 : Nat} {B2 : Option Addr} {m2 c2 : Nat} {x3_0 : Int} {x3_1 : Int} {x3_2 : Int} {x3_3 : Int} {x3_4 : Int} {x3_5 : Int} {x3_6 : Int} {x3_7 : Int} {x4 : Int} {M : Mem} {K : Value → Mem → Prop} {Kp : List PanicEntry → Mem → Prop} (h :
nwc M (.cells #[(.int .i64 x0_0), (.int .i64 x0_1), (.int .i64 x0_2)] 108 (0, 0)) fun k1 M2 =>
nwc M2 (.cells #[(.int .i64 x3_0), (.int .i64 x3_1), (.int .i64 x3_2), (.int .i64 x3_3), (.int .i64 x3_4), (.int .i64 x3_5), (.int .i64 x3_6), (.int .i64 x3_7)] 111 (0, 0)) fun k3 M4 =>
ACalls Try.prog 64 #[] M4 (fun v5 M6 =>
exB (some v5) fun t7 =>
bsp (!t7)
 (K (.bool false) M6)
 (exI (Mem.ld M6 ⟨k1, 0, none⟩) .i64 fun n8 =>
  exI (Mem.ld M6 ⟨k1, (0 + 1), none⟩) .i64 fun n9 =>
  exI (Mem.ld M6 ⟨k1, (0 + 2), none⟩) .i64 fun n10 =>
  ACalls Try.prog 65 #[(.agg #[(.int .i64 n8), (.int .i64 n9), (.int .i64 n10)]), (.slice B1 m1 c1)] M6 (fun v11 M12 =>
  ∃ A13 : Option Addr, ∃ k14 : Nat, ∃ k15 : Nat, ∃ A16 : Option Addr, ∃ k17 : Nat, ∃ k18 : Nat, (v11 = (.tuple #[(.slice A13 k14 k15), (.slice A16 k17 k18)])) ∧
  nwc M12 (.cells #[] 119 (0, 0)) fun k19 M20 =>
  nwc M20 (.cells #[] 118 (0, 0)) fun k21 M22 =>
  ∃ I23 : Nat → List Value → Mem → Prop, (∃ k24 : Nat, I23 k24 [(.slice (some ⟨k19, 0, none⟩) 0 0), (.slice (some ⟨k21, 0, none⟩) 0 0), (.int .i64 0)] M22) ∧
  ∀ k25 : Nat, ∀ junk26 : Nat → Value, ∀ A27 : Option Addr, ∀ k28 : Nat, ∀ k29 : Nat, ∀ A30 : Option Addr, ∀ k31 : Nat, ∀ k32 : Nat, ∀ n33 : Int, ∀ M34 : Mem, (I23 k25 [(.slice A27 k28 k29), (.slice A30 k31 k32), (.int .i64 n33)] M34) → bsp (decide ((n33 : Int) < ((m2 : Nat) : Int)))
   (bsp (decide ((n33 : Int) < 8))
     (((0 : Int) ≤ n33) ∧
      ((n33 : Int) < ((m2 : Nat) : Int)) ∧
      nilc B2 fun k35 k36 =>
      ((0 : Int) ≤ n33) ∧
      ((n33 : Int) < ((m2 : Nat) : Int)) ∧
      nilc B2 fun k37 k38 =>
      ((0 : Int) ≤ n33) ∧
      ((n33 : Int) < ((m2 : Nat) : Int)) ∧
      nilc B2 fun k39 k40 =>
      exI (Mem.ld M34 ⟨k35, (k36 + ((Int.toNat n33) * 3)), none⟩) .i64 fun n41 =>
      ((3 : Int) ≠ 0) ∧
      exI (Mem.ld M34 ⟨k37, ((k38 + ((Int.toNat n33) * 3)) + 1), none⟩) .i64 fun n42 =>
      ((3 : Int) ≠ 0) ∧
      exI (Mem.ld M34 ⟨k39, ((k40 + ((Int.toNat n33) * 3)) + 2), none⟩) .i64 fun n43 =>
      nwc M34 (.cells #[(.int .i64 0), (.int .i64 0), (.int .i64 0)] 118 (0, 0)) fun k44 M45 =>
      stc M45 ⟨k44, 0, none⟩ (.int .i64 (Int.tmod (IntKind.wrap .i64 (((Nat.bitwise and (BitVec.ofInt IntKind.i64.bits n41).toNat (BitVec.ofInt IntKind.i64.bits 255).toNat) : Nat) : Int)) 3)) fun M46 =>
      stc M46 ⟨k44, (0 + 1), none⟩ (.int .i64 (Int.tmod (IntKind.wrap .i64 (((Nat.bitwise and (BitVec.ofInt IntKind.i64.bits n42).toNat (BitVec.ofInt IntKind.i64.bits 255).toNat) : Nat) : Int)) 3)) fun M47 =>
      stc M47 ⟨k44, (0 + 2), none⟩ (.int .i64 (IntKind.wrap .i64 (((Nat.bitwise and (BitVec.ofInt IntKind.i64.bits n43).toNat (BitVec.ofInt IntKind.i64.bits 7).toNat) : Nat) : Int))) fun M48 =>
      exI (Mem.ld M48 ⟨k44, 0, none⟩) .i64 fun n49 =>
      exI (Mem.ld M48 ⟨k44, (0 + 1), none⟩) .i64 fun n50 =>
      exI (Mem.ld M48 ⟨k44, (0 + 2), none⟩) .i64 fun n51 =>
      exI (Mem.ld M48 ⟨k44, 0, none⟩) .i64 fun n52 =>
      exI (Mem.ld M48 ⟨k44, (0 + 1), none⟩) .i64 fun n53 =>
      exI (Mem.ld M48 ⟨k44, (0 + 2), none⟩) .i64 fun n54 =>
      nwc M48 (.cells #[(.int .i64 n49), (.int .i64 n50), (.int .i64 n51)] 119 (0, 0)) fun k55 M56 =>
      (True) ∧
      semK Try.prog (Go.Builtin.append_ #[116, 116] 116 #[(.slice A27 k28 k29), (.slice (some ⟨k55, 0, none⟩) 1 1)]) M56 (fun v57 M58 =>
      exSl (some v57) fun A59 k60 k61 =>
      ((Mem.lds M58 ⟨k44, 0, none⟩ 0 3) = some [(.int .i64 n52), (.int .i64 n53), (.int .i64 n54)]) ∧
      nwc M58 (.cells #[(.int .i64 n52), (.int .i64 n53), (.int .i64 n54)] 118 (0, 0)) fun k62 M63 =>
      semK Try.prog (Go.Builtin.append_ #[110, 110] 110 #[(.slice A30 k31 k32), (.slice (some ⟨k62, 0, none⟩) 1 1)]) M63 (fun v64 M65 =>
      exSl (some v64) fun A66 k67 k68 =>
      ((Mem.lds M65 ⟨k44, 0, none⟩ 0 3) = some [(.int .i64 n52), (.int .i64 n53), (.int .i64 n54)]) ∧
      ∃ k69 : Nat, (k69 < k25) ∧
      I23 k69 [(.slice A59 k60 k61), (.slice A66 k67 k68), (.int .i64 (IntKind.wrap .i64 (n33 + 1)))] M65) Kp) Kp)
     (ACalls Try.prog 66 #[(.slice A27 k28 k29)] M34 (fun v70 M71 =>
      ∃ n72 : Int, ∃ t73 : Bool, (v70 = (.tuple #[(.int .i64 n72), (.bool t73)])) ∧
      ACalls Try.prog 67 #[(.slice A30 k31 k32)] M71 (fun v74 M75 =>
      exI (some v74) .i64 fun n76 =>
      ACalls Try.prog 68 #[(.slice A27 k28 k29), (.slice A13 k14 k15)] M75 (fun v77 M78 =>
      exSl (some v77) fun A79 k80 k81 =>
      ACalls Try.prog 69 #[(.slice A30 k31 k32), (.slice A16 k17 k18)] M78 (fun v82 M83 =>
      exSl (some v82) fun A84 k85 k86 =>
      ACalls Try.prog 42 #[(.slice A79 k80 k81), (.slice A84 k85 k86)] M83 (fun v87 M88 =>
      exI (some v87) .i64 fun n89 =>
      bsp (n89 != 0)
       (K (.bool false) M88)
       (bsp (!(t73 == (decide ((n76 : Int) ≥ 0))))
         (K (.bool false) M88)
         (bsp t73
           (bsp (n72 != n76)
             (K (.bool false) M88)
             (bsp (!t73)
               (bsp (n72 != 0)
                 (K (.bool false) M88)
                 (((0 : Int) ≤ 8) ∧
                  ((8 : Int) ≤ 8) ∧
                  ((0 : Int) ≤ 8) ∧
                  ((8 : Int) ≤ 8) ∧
                  ((0 : Int) ≤ 0) ∧
                  ((0 : Int) ≤ 8) ∧
                  ACalls Try.prog 70 #[(.int .i64 x4), (.slice A27 k28 k29), (.slice (slA (some ⟨k3, 0, none⟩) 0 8 1) 8 8), (.slice A13 k14 k15)] M88 (fun v90 M91 =>
                  (v90 = (.tuple #[])) ∧
                  exI (Mem.ld M91 ⟨k3, 0, none⟩) .i64 fun n92 =>
                  exI (Mem.ld M91 ⟨k3, (0 + 1), none⟩) .i64 fun n93 =>
                  exI (Mem.ld M91 ⟨k3, (0 + 2), none⟩) .i64 fun n94 =>
                  exI (Mem.ld M91 ⟨k3, (0 + 3), none⟩) .i64 fun n95 =>
                  exI (Mem.ld M91 ⟨k3, (0 + 4), none⟩) .i64 fun n96 =>
                  exI (Mem.ld M91 ⟨k3, (0 + 5), none⟩) .i64 fun n97 =>
                  exI (Mem.ld M91 ⟨k3, (0 + 6), none⟩) .i64 fun n98 =>
                  exI (Mem.ld M91 ⟨k3, (0 + 7), none⟩) .i64 fun n99 =>
                  ACalls Try.prog 71 #[(.int .i64 x4), (.slice A30 k31 k32), (.agg #[(.int .i64 n92), (.int .i64 n93), (.int .i64 n94), (.int .i64 n95), (.int .i64 n96), (.int .i64 n97), (.int .i64 n98), (.int .i64 n99)]), (.slice A16 k17 k18)] M91 (fun v100 M101 =>
                  exSl (some v100) fun A102 k103 k104 =>
                  ∃ I105 : Nat → List Value → Mem → Prop, (∃ k106 : Nat, I105 k106 [(.int .i64 0)] M101) ∧
                  ∀ k107 : Nat, ∀ junk108 : Nat → Value, ∀ n109 : Int, ∀ M110 : Mem, (I105 k107 [(.int .i64 n109)] M110) → bsp (decide ((n109 : Int) < ((k14 : Nat) : Int)))
                   (((0 : Int) ≤ n109) ∧
                    ((n109 : Int) < ((k14 : Nat) : Int)) ∧
                    nilc A13 fun k111 k112 =>
                    ((0 : Int) ≤ n109) ∧
                    ((n109 : Int) < ((k103 : Nat) : Int)) ∧
                    nilc A102 fun k113 k114 =>
                    exP (Mem.ld M110 ⟨k111, (k112 + (Int.toNat n109)), none⟩) fun A115 =>
                    exI (Mem.ld M110 ⟨k113, (k114 + ((Int.toNat n109) * 5)), none⟩) .i64 fun n116 =>
                    exSl (Mem.ld M110 ⟨k113, ((k114 + ((Int.toNat n109) * 5)) + 1), none⟩) fun A117 k118 k119 =>
                    exSl (Mem.ld M110 ⟨k113, ((k114 + ((Int.toNat n109) * 5)) + 2), none⟩) fun A120 k121 k122 =>
                    exSl (Mem.ld M110 ⟨k113, ((k114 + ((Int.toNat n109) * 5)) + 3), none⟩) fun A123 k124 k125 =>
                    exB (Mem.ld M110 ⟨k113, ((k114 + ((Int.toNat n109) * 5)) + 4), none⟩) fun t126 =>
                    ACalls Try.prog 44 #[(.pointer A115)] M110 (fun v127 M128 =>
                    ∃ A129 : Option Addr, ∃ k130 : Nat, ∃ k131 : Nat, ∃ A132 : Option Addr, ∃ k133 : Nat, ∃ k134 : Nat, ∃ A135 : Option Addr, ∃ k136 : Nat, ∃ k137 : Nat, ∃ t138 : Bool, (v127 = (.agg #[(.slice A129 k130 k131), (.slice A132 k133 k134), (.slice A135 k136 k137), (.bool t138)])) ∧
                    ((Mem.lds M128 ⟨k113, (k114 + ((Int.toNat n109) * 5)), none⟩ 0 5) = some [(.int .i64 n116), (.slice A117 k118 k119), (.slice A120 k121 k122), (.slice A123 k124 k125), (.bool t126)]) ∧
                    ACalls Try.prog 54 #[(.agg #[(.slice A129 k130 k131), (.slice A132 k133 k134), (.slice A135 k136 k137), (.bool t138)]), (.agg #[(.int .i64 n116), (.slice A117 k118 k119), (.slice A120 k121 k122), (.slice A123 k124 k125), (.bool t126)])] M128 (fun v139 M140 =>
                    exI (some v139) .i64 fun n141 =>
                    ((Mem.lds M140 ⟨k113, (k114 + ((Int.toNat n109) * 5)), none⟩ 0 5) = some [(.int .i64 n116), (.slice A117 k118 k119), (.slice A120 k121 k122), (.slice A123 k124 k125), (.bool t126)]) ∧
                    bsp (n141 != 0)
                     (K (.bool false) M140)
                     (∃ k142 : Nat, (k142 < k107) ∧
                      I105 k142 [(.int .i64 (IntKind.wrap .i64 (n109 + 1)))] M140)) Kp) Kp)
                   (ACalls Try.prog 72 #[(.int .i64 x4), (.slice A13 k14 k15)] M110 (fun v143 M144 =>
                    (v143 = (.tuple #[])) ∧
                    ACalls Try.prog 73 #[(.int .i64 x4), (.slice A102 k103 k104)] M144 (fun v145 M146 =>
                    exSl (some v145) fun A147 k148 k149 =>
                    ∃ I150 : Nat → List Value → Mem → Prop, (∃ k151 : Nat, I150 k151 [(.int .i64 0)] M146) ∧
                    ∀ k152 : Nat, ∀ junk153 : Nat → Value, ∀ n154 : Int, ∀ M155 : Mem, (I150 k152 [(.int .i64 n154)] M155) → bsp (decide ((n154 : Int) < ((k14 : Nat) : Int)))
                     (((0 : Int) ≤ n154) ∧
                      ((n154 : Int) < ((k14 : Nat) : Int)) ∧
                      nilc A13 fun k156 k157 =>
                      ((0 : Int) ≤ n154) ∧
                      ((n154 : Int) < ((k148 : Nat) : Int)) ∧
                      nilc A147 fun k158 k159 =>
                      exP (Mem.ld M155 ⟨k156, (k157 + (Int.toNat n154)), none⟩) fun A160 =>
                      exI (Mem.ld M155 ⟨k158, (k159 + ((Int.toNat n154) * 5)), none⟩) .i64 fun n161 =>
                      exSl (Mem.ld M155 ⟨k158, ((k159 + ((Int.toNat n154) * 5)) + 1), none⟩) fun A162 k163 k164 =>
                      exSl (Mem.ld M155 ⟨k158, ((k159 + ((Int.toNat n154) * 5)) + 2), none⟩) fun A165 k166 k167 =>
                      exSl (Mem.ld M155 ⟨k158, ((k159 + ((Int.toNat n154) * 5)) + 3), none⟩) fun A168 k169 k170 =>
                      exB (Mem.ld M155 ⟨k158, ((k159 + ((Int.toNat n154) * 5)) + 4), none⟩) fun t171 =>
                      ACalls Try.prog 44 #[(.pointer A160)] M155 (fun v172 M173 =>
                      ∃ A174 : Option Addr, ∃ k175 : Nat, ∃ k176 : Nat, ∃ A177 : Option Addr, ∃ k178 : Nat, ∃ k179 : Nat, ∃ A180 : Option Addr, ∃ k181 : Nat, ∃ k182 : Nat, ∃ t183 : Bool, (v172 = (.agg #[(.slice A174 k175 k176), (.slice A177 k178 k179), (.slice A180 k181 k182), (.bool t183)])) ∧
                      ((Mem.lds M173 ⟨k158, (k159 + ((Int.toNat n154) * 5)), none⟩ 0 5) = some [(.int .i64 n161), (.slice A162 k163 k164), (.slice A165 k166 k167), (.slice A168 k169 k170), (.bool t171)]) ∧
                      ACalls Try.prog 54 #[(.agg #[(.slice A174 k175 k176), (.slice A177 k178 k179), (.slice A180 k181 k182), (.bool t183)]), (.agg #[(.int .i64 n161), (.slice A162 k163 k164), (.slice A165 k166 k167), (.slice A168 k169 k170), (.bool t171)])] M173 (fun v184 M185 =>
                      exI (some v184) .i64 fun n186 =>
                      ((Mem.lds M185 ⟨k158, (k159 + ((Int.toNat n154) * 5)), none⟩ 0 5) = some [(.int .i64 n161), (.slice A162 k163 k164), (.slice A165 k166 k167), (.slice A168 k169 k170), (.bool t171)]) ∧
                      bsp (n186 != 0)
                       (K (.bool false) M185)
                       (∃ k187 : Nat, (k187 < k152) ∧
                        I150 k187 [(.int .i64 (IntKind.wrap .i64 (n154 + 1)))] M185)) Kp) Kp)
                     (K (.bool true) M155)) Kp) Kp)) Kp) Kp))
               (((0 : Int) ≤ 8) ∧
                ((8 : Int) ≤ 8) ∧
                ((0 : Int) ≤ 8) ∧
                ((8 : Int) ≤ 8) ∧
                ((0 : Int) ≤ 0) ∧
                ((0 : Int) ≤ 8) ∧
                ACalls Try.prog 70 #[(.int .i64 x4), (.slice A27 k28 k29), (.slice (slA (some ⟨k3, 0, none⟩) 0 8 1) 8 8), (.slice A13 k14 k15)] M88 (fun v188 M189 =>
                (v188 = (.tuple #[])) ∧
                exI (Mem.ld M189 ⟨k3, 0, none⟩) .i64 fun n190 =>
                exI (Mem.ld M189 ⟨k3, (0 + 1), none⟩) .i64 fun n191 =>
                exI (Mem.ld M189 ⟨k3, (0 + 2), none⟩) .i64 fun n192 =>
                exI (Mem.ld M189 ⟨k3, (0 + 3), none⟩) .i64 fun n193 =>
                exI (Mem.ld M189 ⟨k3, (0 + 4), none⟩) .i64 fun n194 =>
                exI (Mem.ld M189 ⟨k3, (0 + 5), none⟩) .i64 fun n195 =>
                exI (Mem.ld M189 ⟨k3, (0 + 6), none⟩) .i64 fun n196 =>
                exI (Mem.ld M189 ⟨k3, (0 + 7), none⟩) .i64 fun n197 =>
                ACalls Try.prog 71 #[(.int .i64 x4), (.slice A30 k31 k32), (.agg #[(.int .i64 n190), (.int .i64 n191), (.int .i64 n192), (.int .i64 n193), (.int .i64 n194), (.int .i64 n195), (.int .i64 n196), (.int .i64 n197)]), (.slice A16 k17 k18)] M189 (fun v198 M199 =>
                exSl (some v198) fun A200 k201 k202 =>
                ∃ I203 : Nat → List Value → Mem → Prop, (∃ k204 : Nat, I203 k204 [(.int .i64 0)] M199) ∧
                ∀ k205 : Nat, ∀ junk206 : Nat → Value, ∀ n207 : Int, ∀ M208 : Mem, (I203 k205 [(.int .i64 n207)] M208) → bsp (decide ((n207 : Int) < ((k14 : Nat) : Int)))
                 (((0 : Int) ≤ n207) ∧
                  ((n207 : Int) < ((k14 : Nat) : Int)) ∧
                  nilc A13 fun k209 k210 =>
                  ((0 : Int) ≤ n207) ∧
                  ((n207 : Int) < ((k201 : Nat) : Int)) ∧
                  nilc A200 fun k211 k212 =>
                  exP (Mem.ld M208 ⟨k209, (k210 + (Int.toNat n207)), none⟩) fun A213 =>
                  exI (Mem.ld M208 ⟨k211, (k212 + ((Int.toNat n207) * 5)), none⟩) .i64 fun n214 =>
                  exSl (Mem.ld M208 ⟨k211, ((k212 + ((Int.toNat n207) * 5)) + 1), none⟩) fun A215 k216 k217 =>
                  exSl (Mem.ld M208 ⟨k211, ((k212 + ((Int.toNat n207) * 5)) + 2), none⟩) fun A218 k219 k220 =>
                  exSl (Mem.ld M208 ⟨k211, ((k212 + ((Int.toNat n207) * 5)) + 3), none⟩) fun A221 k222 k223 =>
                  exB (Mem.ld M208 ⟨k211, ((k212 + ((Int.toNat n207) * 5)) + 4), none⟩) fun t224 =>
                  ACalls Try.prog 44 #[(.pointer A213)] M208 (fun v225 M226 =>
                  ∃ A227 : Option Addr, ∃ k228 : Nat, ∃ k229 : Nat, ∃ A230 : Option Addr, ∃ k231 : Nat, ∃ k232 : Nat, ∃ A233 : Option Addr, ∃ k234 : Nat, ∃ k235 : Nat, ∃ t236 : Bool, (v225 = (.agg #[(.slice A227 k228 k229), (.slice A230 k231 k232), (.slice A233 k234 k235), (.bool t236)])) ∧
                  ((Mem.lds M226 ⟨k211, (k212 + ((Int.toNat n207) * 5)), none⟩ 0 5) = some [(.int .i64 n214), (.slice A215 k216 k217), (.slice A218 k219 k220), (.slice A221 k222 k223), (.bool t224)]) ∧
                  ACalls Try.prog 54 #[(.agg #[(.slice A227 k228 k229), (.slice A230 k231 k232), (.slice A233 k234 k235), (.bool t236)]), (.agg #[(.int .i64 n214), (.slice A215 k216 k217), (.slice A218 k219 k220), (.slice A221 k222 k223), (.bool t224)])] M226 (fun v237 M238 =>
                  exI (some v237) .i64 fun n239 =>
                  ((Mem.lds M238 ⟨k211, (k212 + ((Int.toNat n207) * 5)), none⟩ 0 5) = some [(.int .i64 n214), (.slice A215 k216 k217), (.slice A218 k219 k220), (.slice A221 k222 k223), (.bool t224)]) ∧
                  bsp (n239 != 0)
                   (K (.bool false) M238)
                   (∃ k240 : Nat, (k240 < k205) ∧
                    I203 k240 [(.int .i64 (IntKind.wrap .i64 (n207 + 1)))] M238)) Kp) Kp)
                 (ACalls Try.prog 72 #[(.int .i64 x4), (.slice A13 k14 k15)] M208 (fun v241 M242 =>
                  (v241 = (.tuple #[])) ∧
                  ACalls Try.prog 73 #[(.int .i64 x4), (.slice A200 k201 k202)] M242 (fun v243 M244 =>
                  exSl (some v243) fun A245 k246 k247 =>
                  ∃ I248 : Nat → List Value → Mem → Prop, (∃ k249 : Nat, I248 k249 [(.int .i64 0)] M244) ∧
                  ∀ k250 : Nat, ∀ junk251 : Nat → Value, ∀ n252 : Int, ∀ M253 : Mem, (I248 k250 [(.int .i64 n252)] M253) → bsp (decide ((n252 : Int) < ((k14 : Nat) : Int)))
                   (((0 : Int) ≤ n252) ∧
                    ((n252 : Int) < ((k14 : Nat) : Int)) ∧
                    nilc A13 fun k254 k255 =>
                    ((0 : Int) ≤ n252) ∧
                    ((n252 : Int) < ((k246 : Nat) : Int)) ∧
                    nilc A245 fun k256 k257 =>
                    exP (Mem.ld M253 ⟨k254, (k255 + (Int.toNat n252)), none⟩) fun A258 =>
                    exI (Mem.ld M253 ⟨k256, (k257 + ((Int.toNat n252) * 5)), none⟩) .i64 fun n259 =>
                    exSl (Mem.ld M253 ⟨k256, ((k257 + ((Int.toNat n252) * 5)) + 1), none⟩) fun A260 k261 k262 =>
                    exSl (Mem.ld M253 ⟨k256, ((k257 + ((Int.toNat n252) * 5)) + 2), none⟩) fun A263 k264 k265 =>
                    exSl (Mem.ld M253 ⟨k256, ((k257 + ((Int.toNat n252) * 5)) + 3), none⟩) fun A266 k267 k268 =>
                    exB (Mem.ld M253 ⟨k256, ((k257 + ((Int.toNat n252) * 5)) + 4), none⟩) fun t269 =>
                    ACalls Try.prog 44 #[(.pointer A258)] M253 (fun v270 M271 =>
                    ∃ A272 : Option Addr, ∃ k273 : Nat, ∃ k274 : Nat, ∃ A275 : Option Addr, ∃ k276 : Nat, ∃ k277 : Nat, ∃ A278 : Option Addr, ∃ k279 : Nat, ∃ k280 : Nat, ∃ t281 : Bool, (v270 = (.agg #[(.slice A272 k273 k274), (.slice A275 k276 k277), (.slice A278 k279 k280), (.bool t281)])) ∧
                    ((Mem.lds M271 ⟨k256, (k257 + ((Int.toNat n252) * 5)), none⟩ 0 5) = some [(.int .i64 n259), (.slice A260 k261 k262), (.slice A263 k264 k265), (.slice A266 k267 k268), (.bool t269)]) ∧
                    ACalls Try.prog 54 #[(.agg #[(.slice A272 k273 k274), (.slice A275 k276 k277), (.slice A278 k279 k280), (.bool t281)]), (.agg #[(.int .i64 n259), (.slice A260 k261 k262), (.slice A263 k264 k265), (.slice A266 k267 k268), (.bool t269)])] M271 (fun v282 M283 =>
                    exI (some v282) .i64 fun n284 =>
                    ((Mem.lds M283 ⟨k256, (k257 + ((Int.toNat n252) * 5)), none⟩ 0 5) = some [(.int .i64 n259), (.slice A260 k261 k262), (.slice A263 k264 k265), (.slice A266 k267 k268), (.bool t269)]) ∧
                    bsp (n284 != 0)
                     (K (.bool false) M283)
                     (∃ k285 : Nat, (k285 < k250) ∧
                      I248 k285 [(.int .i64 (IntKind.wrap .i64 (n252 + 1)))] M283)) Kp) Kp)
                   (K (.bool true) M253)) Kp) Kp)) Kp) Kp)))
           (bsp (!t73)
             (bsp (n72 != 0)
               (K (.bool false) M88)
               (((0 : Int) ≤ 8) ∧
                ((8 : Int) ≤ 8) ∧
                ((0 : Int) ≤ 8) ∧
                ((8 : Int) ≤ 8) ∧
                ((0 : Int) ≤ 0) ∧
                ((0 : Int) ≤ 8) ∧
                ACalls Try.prog 70 #[(.int .i64 x4), (.slice A27 k28 k29), (.slice (slA (some ⟨k3, 0, none⟩) 0 8 1) 8 8), (.slice A13 k14 k15)] M88 (fun v286 M287 =>
                (v286 = (.tuple #[])) ∧
                exI (Mem.ld M287 ⟨k3, 0, none⟩) .i64 fun n288 =>
                exI (Mem.ld M287 ⟨k3, (0 + 1), none⟩) .i64 fun n289 =>
                exI (Mem.ld M287 ⟨k3, (0 + 2), none⟩) .i64 fun n290 =>
                exI (Mem.ld M287 ⟨k3, (0 + 3), none⟩) .i64 fun n291 =>
                exI (Mem.ld M287 ⟨k3, (0 + 4), none⟩) .i64 fun n292 =>
                exI (Mem.ld M287 ⟨k3, (0 + 5), none⟩) .i64 fun n293 =>
                exI (Mem.ld M287 ⟨k3, (0 + 6), none⟩) .i64 fun n294 =>
                exI (Mem.ld M287 ⟨k3, (0 + 7), none⟩) .i64 fun n295 =>
                ACalls Try.prog 71 #[(.int .i64 x4), (.slice A30 k31 k32), (.agg #[(.int .i64 n288), (.int .i64 n289), (.int .i64 n290), (.int .i64 n291), (.int .i64 n292), (.int .i64 n293), (.int .i64 n294), (.int .i64 n295)]), (.slice A16 k17 k18)] M287 (fun v296 M297 =>
                exSl (some v296) fun A298 k299 k300 =>
                ∃ I301 : Nat → List Value → Mem → Prop, (∃ k302 : Nat, I301 k302 [(.int .i64 0)] M297) ∧
                ∀ k303 : Nat, ∀ junk304 : Nat → Value, ∀ n305 : Int, ∀ M306 : Mem, (I301 k303 [(.int .i64 n305)] M306) → bsp (decide ((n305 : Int) < ((k14 : Nat) : Int)))
                 (((0 : Int) ≤ n305) ∧
                  ((n305 : Int) < ((k14 : Nat) : Int)) ∧
                  nilc A13 fun k307 k308 =>
                  ((0 : Int) ≤ n305) ∧
                  ((n305 : Int) < ((k299 : Nat) : Int)) ∧
                  nilc A298 fun k309 k310 =>
                  exP (Mem.ld M306 ⟨k307, (k308 + (Int.toNat n305)), none⟩) fun A311 =>
                  exI (Mem.ld M306 ⟨k309, (k310 + ((Int.toNat n305) * 5)), none⟩) .i64 fun n312 =>
                  exSl (Mem.ld M306 ⟨k309, ((k310 + ((Int.toNat n305) * 5)) + 1), none⟩) fun A313 k314 k315 =>
                  exSl (Mem.ld M306 ⟨k309, ((k310 + ((Int.toNat n305) * 5)) + 2), none⟩) fun A316 k317 k318 =>
                  exSl (Mem.ld M306 ⟨k309, ((k310 + ((Int.toNat n305) * 5)) + 3), none⟩) fun A319 k320 k321 =>
                  exB (Mem.ld M306 ⟨k309, ((k310 + ((Int.toNat n305) * 5)) + 4), none⟩) fun t322 =>
                  ACalls Try.prog 44 #[(.pointer A311)] M306 (fun v323 M324 =>
                  ∃ A325 : Option Addr, ∃ k326 : Nat, ∃ k327 : Nat, ∃ A328 : Option Addr, ∃ k329 : Nat, ∃ k330 : Nat, ∃ A331 : Option Addr, ∃ k332 : Nat, ∃ k333 : Nat, ∃ t334 : Bool, (v323 = (.agg #[(.slice A325 k326 k327), (.slice A328 k329 k330), (.slice A331 k332 k333), (.bool t334)])) ∧
                  ((Mem.lds M324 ⟨k309, (k310 + ((Int.toNat n305) * 5)), none⟩ 0 5) = some [(.int .i64 n312), (.slice A313 k314 k315), (.slice A316 k317 k318), (.slice A319 k320 k321), (.bool t322)]) ∧
                  ACalls Try.prog 54 #[(.agg #[(.slice A325 k326 k327), (.slice A328 k329 k330), (.slice A331 k332 k333), (.bool t334)]), (.agg #[(.int .i64 n312), (.slice A313 k314 k315), (.slice A316 k317 k318), (.slice A319 k320 k321), (.bool t322)])] M324 (fun v335 M336 =>
                  exI (some v335) .i64 fun n337 =>
                  ((Mem.lds M336 ⟨k309, (k310 + ((Int.toNat n305) * 5)), none⟩ 0 5) = some [(.int .i64 n312), (.slice A313 k314 k315), (.slice A316 k317 k318), (.slice A319 k320 k321), (.bool t322)]) ∧
                  bsp (n337 != 0)
                   (K (.bool false) M336)
                   (∃ k338 : Nat, (k338 < k303) ∧
                    I301 k338 [(.int .i64 (IntKind.wrap .i64 (n305 + 1)))] M336)) Kp) Kp)
                 (ACalls Try.prog 72 #[(.int .i64 x4), (.slice A13 k14 k15)] M306 (fun v339 M340 =>
                  (v339 = (.tuple #[])) ∧
                  ACalls Try.prog 73 #[(.int .i64 x4), (.slice A298 k299 k300)] M340 (fun v341 M342 =>
                  exSl (some v341) fun A343 k344 k345 =>
                  ∃ I346 : Nat → List Value → Mem → Prop, (∃ k347 : Nat, I346 k347 [(.int .i64 0)] M342) ∧
                  ∀ k348 : Nat, ∀ junk349 : Nat → Value, ∀ n350 : Int, ∀ M351 : Mem, (I346 k348 [(.int .i64 n350)] M351) → bsp (decide ((n350 : Int) < ((k14 : Nat) : Int)))
                   (((0 : Int) ≤ n350) ∧
                    ((n350 : Int) < ((k14 : Nat) : Int)) ∧
                    nilc A13 fun k352 k353 =>
                    ((0 : Int) ≤ n350) ∧
                    ((n350 : Int) < ((k344 : Nat) : Int)) ∧
                    nilc A343 fun k354 k355 =>
                    exP (Mem.ld M351 ⟨k352, (k353 + (Int.toNat n350)), none⟩) fun A356 =>
                    exI (Mem.ld M351 ⟨k354, (k355 + ((Int.toNat n350) * 5)), none⟩) .i64 fun n357 =>
                    exSl (Mem.ld M351 ⟨k354, ((k355 + ((Int.toNat n350) * 5)) + 1), none⟩) fun A358 k359 k360 =>
                    exSl (Mem.ld M351 ⟨k354, ((k355 + ((Int.toNat n350) * 5)) + 2), none⟩) fun A361 k362 k363 =>
                    exSl (Mem.ld M351 ⟨k354, ((k355 + ((Int.toNat n350) * 5)) + 3), none⟩) fun A364 k365 k366 =>
                    exB (Mem.ld M351 ⟨k354, ((k355 + ((Int.toNat n350) * 5)) + 4), none⟩) fun t367 =>
                    ACalls Try.prog 44 #[(.pointer A356)] M351 (fun v368 M369 =>
                    ∃ A370 : Option Addr, ∃ k371 : Nat, ∃ k372 : Nat, ∃ A373 : Option Addr, ∃ k374 : Nat, ∃ k375 : Nat, ∃ A376 : Option Addr, ∃ k377 : Nat, ∃ k378 : Nat, ∃ t379 : Bool, (v368 = (.agg #[(.slice A370 k371 k372), (.slice A373 k374 k375), (.slice A376 k377 k378), (.bool t379)])) ∧
                    ((Mem.lds M369 ⟨k354, (k355 + ((Int.toNat n350) * 5)), none⟩ 0 5) = some [(.int .i64 n357), (.slice A358 k359 k360), (.slice A361 k362 k363), (.slice A364 k365 k366), (.bool t367)]) ∧
                    ACalls Try.prog 54 #[(.agg #[(.slice A370 k371 k372), (.slice A373 k374 k375), (.slice A376 k377 k378), (.bool t379)]), (.agg #[(.int .i64 n357), (.slice A358 k359 k360), (.slice A361 k362 k363), (.slice A364 k365 k366), (.bool t367)])] M369 (fun v380 M381 =>
                    exI (some v380) .i64 fun n382 =>
                    ((Mem.lds M381 ⟨k354, (k355 + ((Int.toNat n350) * 5)), none⟩ 0 5) = some [(.int .i64 n357), (.slice A358 k359 k360), (.slice A361 k362 k363), (.slice A364 k365 k366), (.bool t367)]) ∧
                    bsp (n382 != 0)
                     (K (.bool false) M381)
                     (∃ k383 : Nat, (k383 < k348) ∧
                      I346 k383 [(.int .i64 (IntKind.wrap .i64 (n350 + 1)))] M381)) Kp) Kp)
                   (K (.bool true) M351)) Kp) Kp)) Kp) Kp))
             (((0 : Int) ≤ 8) ∧
              ((8 : Int) ≤ 8) ∧
              ((0 : Int) ≤ 8) ∧
              ((8 : Int) ≤ 8) ∧
              ((0 : Int) ≤ 0) ∧
              ((0 : Int) ≤ 8) ∧
              ACalls Try.prog 70 #[(.int .i64 x4), (.slice A27 k28 k29), (.slice (slA (some ⟨k3, 0, none⟩) 0 8 1) 8 8), (.slice A13 k14 k15)] M88 (fun v384 M385 =>
              (v384 = (.tuple #[])) ∧
              exI (Mem.ld M385 ⟨k3, 0, none⟩) .i64 fun n386 =>
              exI (Mem.ld M385 ⟨k3, (0 + 1), none⟩) .i64 fun n387 =>
              exI (Mem.ld M385 ⟨k3, (0 + 2), none⟩) .i64 fun n388 =>
              exI (Mem.ld M385 ⟨k3, (0 + 3), none⟩) .i64 fun n389 =>
              exI (Mem.ld M385 ⟨k3, (0 + 4), none⟩) .i64 fun n390 =>
              exI (Mem.ld M385 ⟨k3, (0 + 5), none⟩) .i64 fun n391 =>
              exI (Mem.ld M385 ⟨k3, (0 + 6), none⟩) .i64 fun n392 =>
              exI (Mem.ld M385 ⟨k3, (0 + 7), none⟩) .i64 fun n393 =>
              ACalls Try.prog 71 #[(.int .i64 x4), (.slice A30 k31 k32), (.agg #[(.int .i64 n386), (.int .i64 n387), (.int .i64 n388), (.int .i64 n389), (.int .i64 n390), (.int .i64 n391), (.int .i64 n392), (.int .i64 n393)]), (.slice A16 k17 k18)] M385 (fun v394 M395 =>
              exSl (some v394) fun A396 k397 k398 =>
              ∃ I399 : Nat → List Value → Mem → Prop, (∃ k400 : Nat, I399 k400 [(.int .i64 0)] M395) ∧
              ∀ k401 : Nat, ∀ junk402 : Nat → Value, ∀ n403 : Int, ∀ M404 : Mem, (I399 k401 [(.int .i64 n403)] M404) → bsp (decide ((n403 : Int) < ((k14 : Nat) : Int)))
               (((0 : Int) ≤ n403) ∧
                ((n403 : Int) < ((k14 : Nat) : Int)) ∧
                nilc A13 fun k405 k406 =>
                ((0 : Int) ≤ n403) ∧
                ((n403 : Int) < ((k397 : Nat) : Int)) ∧
                nilc A396 fun k407 k408 =>
                exP (Mem.ld M404 ⟨k405, (k406 + (Int.toNat n403)), none⟩) fun A409 =>
                exI (Mem.ld M404 ⟨k407, (k408 + ((Int.toNat n403) * 5)), none⟩) .i64 fun n410 =>
                exSl (Mem.ld M404 ⟨k407, ((k408 + ((Int.toNat n403) * 5)) + 1), none⟩) fun A411 k412 k413 =>
                exSl (Mem.ld M404 ⟨k407, ((k408 + ((Int.toNat n403) * 5)) + 2), none⟩) fun A414 k415 k416 =>
                exSl (Mem.ld M404 ⟨k407, ((k408 + ((Int.toNat n403) * 5)) + 3), none⟩) fun A417 k418 k419 =>
                exB (Mem.ld M404 ⟨k407, ((k408 + ((Int.toNat n403) * 5)) + 4), none⟩) fun t420 =>
                ACalls Try.prog 44 #[(.pointer A409)] M404 (fun v421 M422 =>
                ∃ A423 : Option Addr, ∃ k424 : Nat, ∃ k425 : Nat, ∃ A426 : Option Addr, ∃ k427 : Nat, ∃ k428 : Nat, ∃ A429 : Option Addr, ∃ k430 : Nat, ∃ k431 : Nat, ∃ t432 : Bool, (v421 = (.agg #[(.slice A423 k424 k425), (.slice A426 k427 k428), (.slice A429 k430 k431), (.bool t432)])) ∧
                ((Mem.lds M422 ⟨k407, (k408 + ((Int.toNat n403) * 5)), none⟩ 0 5) = some [(.int .i64 n410), (.slice A411 k412 k413), (.slice A414 k415 k416), (.slice A417 k418 k419), (.bool t420)]) ∧
                ACalls Try.prog 54 #[(.agg #[(.slice A423 k424 k425), (.slice A426 k427 k428), (.slice A429 k430 k431), (.bool t432)]), (.agg #[(.int .i64 n410), (.slice A411 k412 k413), (.slice A414 k415 k416), (.slice A417 k418 k419), (.bool t420)])] M422 (fun v433 M434 =>
                exI (some v433) .i64 fun n435 =>
                ((Mem.lds M434 ⟨k407, (k408 + ((Int.toNat n403) * 5)), none⟩ 0 5) = some [(.int .i64 n410), (.slice A411 k412 k413), (.slice A414 k415 k416), (.slice A417 k418 k419), (.bool t420)]) ∧
                bsp (n435 != 0)
                 (K (.bool false) M434)
                 (∃ k436 : Nat, (k436 < k401) ∧
                  I399 k436 [(.int .i64 (IntKind.wrap .i64 (n403 + 1)))] M434)) Kp) Kp)
               (ACalls Try.prog 72 #[(.int .i64 x4), (.slice A13 k14 k15)] M404 (fun v437 M438 =>
                (v437 = (.tuple #[])) ∧
                ACalls Try.prog 73 #[(.int .i64 x4), (.slice A396 k397 k398)] M438 (fun v439 M440 =>
                exSl (some v439) fun A441 k442 k443 =>
                ∃ I444 : Nat → List Value → Mem → Prop, (∃ k445 : Nat, I444 k445 [(.int .i64 0)] M440) ∧
                ∀ k446 : Nat, ∀ junk447 : Nat → Value, ∀ n448 : Int, ∀ M449 : Mem, (I444 k446 [(.int .i64 n448)] M449) → bsp (decide ((n448 : Int) < ((k14 : Nat) : Int)))
                 (((0 : Int) ≤ n448) ∧
                  ((n448 : Int) < ((k14 : Nat) : Int)) ∧
                  nilc A13 fun k450 k451 =>
                  ((0 : Int) ≤ n448) ∧
                  ((n448 : Int) < ((k442 : Nat) : Int)) ∧
                  nilc A441 fun k452 k453 =>
                  exP (Mem.ld M449 ⟨k450, (k451 + (Int.toNat n448)), none⟩) fun A454 =>
                  exI (Mem.ld M449 ⟨k452, (k453 + ((Int.toNat n448) * 5)), none⟩) .i64 fun n455 =>
                  exSl (Mem.ld M449 ⟨k452, ((k453 + ((Int.toNat n448) * 5)) + 1), none⟩) fun A456 k457 k458 =>
                  exSl (Mem.ld M449 ⟨k452, ((k453 + ((Int.toNat n448) * 5)) + 2), none⟩) fun A459 k460 k461 =>
                  exSl (Mem.ld M449 ⟨k452, ((k453 + ((Int.toNat n448) * 5)) + 3), none⟩) fun A462 k463 k464 =>
                  exB (Mem.ld M449 ⟨k452, ((k453 + ((Int.toNat n448) * 5)) + 4), none⟩) fun t465 =>
                  ACalls Try.prog 44 #[(.pointer A454)] M449 (fun v466 M467 =>
                  ∃ A468 : Option Addr, ∃ k469 : Nat, ∃ k470 : Nat, ∃ A471 : Option Addr, ∃ k472 : Nat, ∃ k473 : Nat, ∃ A474 : Option Addr, ∃ k475 : Nat, ∃ k476 : Nat, ∃ t477 : Bool, (v466 = (.agg #[(.slice A468 k469 k470), (.slice A471 k472 k473), (.slice A474 k475 k476), (.bool t477)])) ∧
                  ((Mem.lds M467 ⟨k452, (k453 + ((Int.toNat n448) * 5)), none⟩ 0 5) = some [(.int .i64 n455), (.slice A456 k457 k458), (.slice A459 k460 k461), (.slice A462 k463 k464), (.bool t465)]) ∧
                  ACalls Try.prog 54 #[(.agg #[(.slice A468 k469 k470), (.slice A471 k472 k473), (.slice A474 k475 k476), (.bool t477)]), (.agg #[(.int .i64 n455), (.slice A456 k457 k458), (.slice A459 k460 k461), (.slice A462 k463 k464), (.bool t465)])] M467 (fun v478 M479 =>
                  exI (some v478) .i64 fun n480 =>
                  ((Mem.lds M479 ⟨k452, (k453 + ((Int.toNat n448) * 5)), none⟩ 0 5) = some [(.int .i64 n455), (.slice A456 k457 k458), (.slice A459 k460 k461), (.slice A462 k463 k464), (.bool t465)]) ∧
                  bsp (n480 != 0)
                   (K (.bool false) M479)
                   (∃ k481 : Nat, (k481 < k446) ∧
                    I444 k481 [(.int .i64 (IntKind.wrap .i64 (n448 + 1)))] M479)) Kp) Kp)
                 (K (.bool true) M449)) Kp) Kp)) Kp) Kp))))) Kp) Kp) Kp) Kp) Kp))
   (ACalls Try.prog 66 #[(.slice A27 k28 k29)] M34 (fun v482 M483 =>
    ∃ n484 : Int, ∃ t485 : Bool, (v482 = (.tuple #[(.int .i64 n484), (.bool t485)])) ∧
    ACalls Try.prog 67 #[(.slice A30 k31 k32)] M483 (fun v486 M487 =>
    exI (some v486) .i64 fun n488 =>
    ACalls Try.prog 68 #[(.slice A27 k28 k29), (.slice A13 k14 k15)] M487 (fun v489 M490 =>
    exSl (some v489) fun A491 k492 k493 =>
    ACalls Try.prog 69 #[(.slice A30 k31 k32), (.slice A16 k17 k18)] M490 (fun v494 M495 =>
    exSl (some v494) fun A496 k497 k498 =>
    ACalls Try.prog 42 #[(.slice A491 k492 k493), (.slice A496 k497 k498)] M495 (fun v499 M500 =>
    exI (some v499) .i64 fun n501 =>
    bsp (n501 != 0)
     (K (.bool false) M500)
     (bsp (!(t485 == (decide ((n488 : Int) ≥ 0))))
       (K (.bool false) M500)
       (bsp t485
         (bsp (n484 != n488)
           (K (.bool false) M500)
           (bsp (!t485)
             (bsp (n484 != 0)
               (K (.bool false) M500)
               (((0 : Int) ≤ 8) ∧
                ((8 : Int) ≤ 8) ∧
                ((0 : Int) ≤ 8) ∧
                ((8 : Int) ≤ 8) ∧
                ((0 : Int) ≤ 0) ∧
                ((0 : Int) ≤ 8) ∧
                ACalls Try.prog 70 #[(.int .i64 x4), (.slice A27 k28 k29), (.slice (slA (some ⟨k3, 0, none⟩) 0 8 1) 8 8), (.slice A13 k14 k15)] M500 (fun v502 M503 =>
                (v502 = (.tuple #[])) ∧
                exI (Mem.ld M503 ⟨k3, 0, none⟩) .i64 fun n504 =>
                exI (Mem.ld M503 ⟨k3, (0 + 1), none⟩) .i64 fun n505 =>
                exI (Mem.ld M503 ⟨k3, (0 + 2), none⟩) .i64 fun n506 =>
                exI (Mem.ld M503 ⟨k3, (0 + 3), none⟩) .i64 fun n507 =>
                exI (Mem.ld M503 ⟨k3, (0 + 4), none⟩) .i64 fun n508 =>
                exI (Mem.ld M503 ⟨k3, (0 + 5), none⟩) .i64 fun n509 =>
                exI (Mem.ld M503 ⟨k3, (0 + 6), none⟩) .i64 fun n510 =>
                exI (Mem.ld M503 ⟨k3, (0 + 7), none⟩) .i64 fun n511 =>
                ACalls Try.prog 71 #[(.int .i64 x4), (.slice A30 k31 k32), (.agg #[(.int .i64 n504), (.int .i64 n505), (.int .i64 n506), (.int .i64 n507), (.int .i64 n508), (.int .i64 n509), (.int .i64 n510), (.int .i64 n511)]), (.slice A16 k17 k18)] M503 (fun v512 M513 =>
                exSl (some v512) fun A514 k515 k516 =>
                ∃ I517 : Nat → List Value → Mem → Prop, (∃ k518 : Nat, I517 k518 [(.int .i64 0)] M513) ∧
                ∀ k519 : Nat, ∀ junk520 : Nat → Value, ∀ n521 : Int, ∀ M522 : Mem, (I517 k519 [(.int .i64 n521)] M522) → bsp (decide ((n521 : Int) < ((k14 : Nat) : Int)))
                 (((0 : Int) ≤ n521) ∧
                  ((n521 : Int) < ((k14 : Nat) : Int)) ∧
                  nilc A13 fun k523 k524 =>
                  ((0 : Int) ≤ n521) ∧
                  ((n521 : Int) < ((k515 : Nat) : Int)) ∧
                  nilc A514 fun k525 k526 =>
                  exP (Mem.ld M522 ⟨k523, (k524 + (Int.toNat n521)), none⟩) fun A527 =>
                  exI (Mem.ld M522 ⟨k525, (k526 + ((Int.toNat n521) * 5)), none⟩) .i64 fun n528 =>
                  exSl (Mem.ld M522 ⟨k525, ((k526 + ((Int.toNat n521) * 5)) + 1), none⟩) fun A529 k530 k531 =>
                  exSl (Mem.ld M522 ⟨k525, ((k526 + ((Int.toNat n521) * 5)) + 2), none⟩) fun A532 k533 k534 =>
                  exSl (Mem.ld M522 ⟨k525, ((k526 + ((Int.toNat n521) * 5)) + 3), none⟩) fun A535 k536 k537 =>
                  exB (Mem.ld M522 ⟨k525, ((k526 + ((Int.toNat n521) * 5)) + 4), none⟩) fun t538 =>
                  ACalls Try.prog 44 #[(.pointer A527)] M522 (fun v539 M540 =>
                  ∃ A541 : Option Addr, ∃ k542 : Nat, ∃ k543 : Nat, ∃ A544 : Option Addr, ∃ k545 : Nat, ∃ k546 : Nat, ∃ A547 : Option Addr, ∃ k548 : Nat, ∃ k549 : Nat, ∃ t550 : Bool, (v539 = (.agg #[(.slice A541 k542 k543), (.slice A544 k545 k546), (.slice A547 k548 k549), (.bool t550)])) ∧
                  ((Mem.lds M540 ⟨k525, (k526 + ((Int.toNat n521) * 5)), none⟩ 0 5) = some [(.int .i64 n528), (.slice A529 k530 k531), (.slice A532 k533 k534), (.slice A535 k536 k537), (.bool t538)]) ∧
                  ACalls Try.prog 54 #[(.agg #[(.slice A541 k542 k543), (.slice A544 k545 k546), (.slice A547 k548 k549), (.bool t550)]), (.agg #[(.int .i64 n528), (.slice A529 k530 k531), (.slice A532 k533 k534), (.slice A535 k536 k537), (.bool t538)])] M540 (fun v551 M552 =>
                  exI (some v551) .i64 fun n553 =>
                  ((Mem.lds M552 ⟨k525, (k526 + ((Int.toNat n521) * 5)), none⟩ 0 5) = some [(.int .i64 n528), (.slice A529 k530 k531), (.slice A532 k533 k534), (.slice A535 k536 k537), (.bool t538)]) ∧
                  bsp (n553 != 0)
                   (K (.bool false) M552)
                   (∃ k554 : Nat, (k554 < k519) ∧
                    I517 k554 [(.int .i64 (IntKind.wrap .i64 (n521 + 1)))] M552)) Kp) Kp)
                 (ACalls Try.prog 72 #[(.int .i64 x4), (.slice A13 k14 k15)] M522 (fun v555 M556 =>
                  (v555 = (.tuple #[])) ∧
                  ACalls Try.prog 73 #[(.int .i64 x4), (.slice A514 k515 k516)] M556 (fun v557 M558 =>
                  exSl (some v557) fun A559 k560 k561 =>
                  ∃ I562 : Nat → List Value → Mem → Prop, (∃ k563 : Nat, I562 k563 [(.int .i64 0)] M558) ∧
                  ∀ k564 : Nat, ∀ junk565 : Nat → Value, ∀ n566 : Int, ∀ M567 : Mem, (I562 k564 [(.int .i64 n566)] M567) → bsp (decide ((n566 : Int) < ((k14 : Nat) : Int)))
                   (((0 : Int) ≤ n566) ∧
                    ((n566 : Int) < ((k14 : Nat) : Int)) ∧
                    nilc A13 fun k568 k569 =>
                    ((0 : Int) ≤ n566) ∧
                    ((n566 : Int) < ((k560 : Nat) : Int)) ∧
                    nilc A559 fun k570 k571 =>
                    exP (Mem.ld M567 ⟨k568, (k569 + (Int.toNat n566)), none⟩) fun A572 =>
                    exI (Mem.ld M567 ⟨k570, (k571 + ((Int.toNat n566) * 5)), none⟩) .i64 fun n573 =>
                    exSl (Mem.ld M567 ⟨k570, ((k571 + ((Int.toNat n566) * 5)) + 1), none⟩) fun A574 k575 k576 =>
                    exSl (Mem.ld M567 ⟨k570, ((k571 + ((Int.toNat n566) * 5)) + 2), none⟩) fun A577 k578 k579 =>
                    exSl (Mem.ld M567 ⟨k570, ((k571 + ((Int.toNat n566) * 5)) + 3), none⟩) fun A580 k581 k582 =>
                    exB (Mem.ld M567 ⟨k570, ((k571 + ((Int.toNat n566) * 5)) + 4), none⟩) fun t583 =>
                    ACalls Try.prog 44 #[(.pointer A572)] M567 (fun v584 M585 =>
                    ∃ A586 : Option Addr, ∃ k587 : Nat, ∃ k588 : Nat, ∃ A589 : Option Addr, ∃ k590 : Nat, ∃ k591 : Nat, ∃ A592 : Option Addr, ∃ k593 : Nat, ∃ k594 : Nat, ∃ t595 : Bool, (v584 = (.agg #[(.slice A586 k587 k588), (.slice A589 k590 k591), (.slice A592 k593 k594), (.bool t595)])) ∧
                    ((Mem.lds M585 ⟨k570, (k571 + ((Int.toNat n566) * 5)), none⟩ 0 5) = some [(.int .i64 n573), (.slice A574 k575 k576), (.slice A577 k578 k579), (.slice A580 k581 k582), (.bool t583)]) ∧
                    ACalls Try.prog 54 #[(.agg #[(.slice A586 k587 k588), (.slice A589 k590 k591), (.slice A592 k593 k594), (.bool t595)]), (.agg #[(.int .i64 n573), (.slice A574 k575 k576), (.slice A577 k578 k579), (.slice A580 k581 k582), (.bool t583)])] M585 (fun v596 M597 =>
                    exI (some v596) .i64 fun n598 =>
                    ((Mem.lds M597 ⟨k570, (k571 + ((Int.toNat n566) * 5)), none⟩ 0 5) = some [(.int .i64 n573), (.slice A574 k575 k576), (.slice A577 k578 k579), (.slice A580 k581 k582), (.bool t583)]) ∧
                    bsp (n598 != 0)
                     (K (.bool false) M597)
                     (∃ k599 : Nat, (k599 < k564) ∧
                      I562 k599 [(.int .i64 (IntKind.wrap .i64 (n566 + 1)))] M597)) Kp) Kp)
                   (K (.bool true) M567)) Kp) Kp)) Kp) Kp))
             (((0 : Int) ≤ 8) ∧
              ((8 : Int) ≤ 8) ∧
              ((0 : Int) ≤ 8) ∧
              ((8 : Int) ≤ 8) ∧
              ((0 : Int) ≤ 0) ∧
              ((0 : Int) ≤ 8) ∧
              ACalls Try.prog 70 #[(.int .i64 x4), (.slice A27 k28 k29), (.slice (slA (some ⟨k3, 0, none⟩) 0 8 1) 8 8), (.slice A13 k14 k15)] M500 (fun v600 M601 =>
              (v600 = (.tuple #[])) ∧
              exI (Mem.ld M601 ⟨k3, 0, none⟩) .i64 fun n602 =>
              exI (Mem.ld M601 ⟨k3, (0 + 1), none⟩) .i64 fun n603 =>
              exI (Mem.ld M601 ⟨k3, (0 + 2), none⟩) .i64 fun n604 =>
              exI (Mem.ld M601 ⟨k3, (0 + 3), none⟩) .i64 fun n605 =>
              exI (Mem.ld M601 ⟨k3, (0 + 4), none⟩) .i64 fun n606 =>
              exI (Mem.ld M601 ⟨k3, (0 + 5), none⟩) .i64 fun n607 =>
              exI (Mem.ld M601 ⟨k3, (0 + 6), none⟩) .i64 fun n608 =>
              exI (Mem.ld M601 ⟨k3, (0 + 7), none⟩) .i64 fun n609 =>
              ACalls Try.prog 71 #[(.int .i64 x4), (.slice A30 k31 k32), (.agg #[(.int .i64 n602), (.int .i64 n603), (.int .i64 n604), (.int .i64 n605), (.int .i64 n606), (.int .i64 n607), (.int .i64 n608), (.int .i64 n609)]), (.slice A16 k17 k18)] M601 (fun v610 M611 =>
              exSl (some v610) fun A612 k613 k614 =>
              ∃ I615 : Nat → List Value → Mem → Prop, (∃ k616 : Nat, I615 k616 [(.int .i64 0)] M611) ∧
              ∀ k617 : Nat, ∀ junk618 : Nat → Value, ∀ n619 : Int, ∀ M620 : Mem, (I615 k617 [(.int .i64 n619)] M620) → bsp (decide ((n619 : Int) < ((k14 : Nat) : Int)))
               (((0 : Int) ≤ n619) ∧
                ((n619 : Int) < ((k14 : Nat) : Int)) ∧
                nilc A13 fun k621 k622 =>
                ((0 : Int) ≤ n619) ∧
                ((n619 : Int) < ((k613 : Nat) : Int)) ∧
                nilc A612 fun k623 k624 =>
                exP (Mem.ld M620 ⟨k621, (k622 + (Int.toNat n619)), none⟩) fun A625 =>
                exI (Mem.ld M620 ⟨k623, (k624 + ((Int.toNat n619) * 5)), none⟩) .i64 fun n626 =>
                exSl (Mem.ld M620 ⟨k623, ((k624 + ((Int.toNat n619) * 5)) + 1), none⟩) fun A627 k628 k629 =>
                exSl (Mem.ld M620 ⟨k623, ((k624 + ((Int.toNat n619) * 5)) + 2), none⟩) fun A630 k631 k632 =>
                exSl (Mem.ld M620 ⟨k623, ((k624 + ((Int.toNat n619) * 5)) + 3), none⟩) fun A633 k634 k635 =>
                exB (Mem.ld M620 ⟨k623, ((k624 + ((Int.toNat n619) * 5)) + 4), none⟩) fun t636 =>
                ACalls Try.prog 44 #[(.pointer A625)] M620 (fun v637 M638 =>
                ∃ A639 : Option Addr, ∃ k640 : Nat, ∃ k641 : Nat, ∃ A642 : Option Addr, ∃ k643 : Nat, ∃ k644 : Nat, ∃ A645 : Option Addr, ∃ k646 : Nat, ∃ k647 : Nat, ∃ t648 : Bool, (v637 = (.agg #[(.slice A639 k640 k641), (.slice A642 k643 k644), (.slice A645 k646 k647), (.bool t648)])) ∧
                ((Mem.lds M638 ⟨k623, (k624 + ((Int.toNat n619) * 5)), none⟩ 0 5) = some [(.int .i64 n626), (.slice A627 k628 k629), (.slice A630 k631 k632), (.slice A633 k634 k635), (.bool t636)]) ∧
                ACalls Try.prog 54 #[(.agg #[(.slice A639 k640 k641), (.slice A642 k643 k644), (.slice A645 k646 k647), (.bool t648)]), (.agg #[(.int .i64 n626), (.slice A627 k628 k629), (.slice A630 k631 k632), (.slice A633 k634 k635), (.bool t636)])] M638 (fun v649 M650 =>
                exI (some v649) .i64 fun n651 =>
                ((Mem.lds M650 ⟨k623, (k624 + ((Int.toNat n619) * 5)), none⟩ 0 5) = some [(.int .i64 n626), (.slice A627 k628 k629), (.slice A630 k631 k632), (.slice A633 k634 k635), (.bool t636)]) ∧
                bsp (n651 != 0)
                 (K (.bool false) M650)
                 (∃ k652 : Nat, (k652 < k617) ∧
                  I615 k652 [(.int .i64 (IntKind.wrap .i64 (n619 + 1)))] M650)) Kp) Kp)
               (ACalls Try.prog 72 #[(.int .i64 x4), (.slice A13 k14 k15)] M620 (fun v653 M654 =>
                (v653 = (.tuple #[])) ∧
                ACalls Try.prog 73 #[(.int .i64 x4), (.slice A612 k613 k614)] M654 (fun v655 M656 =>
                exSl (some v655) fun A657 k658 k659 =>
                ∃ I660 : Nat → List Value → Mem → Prop, (∃ k661 : Nat, I660 k661 [(.int .i64 0)] M656) ∧
                ∀ k662 : Nat, ∀ junk663 : Nat → Value, ∀ n664 : Int, ∀ M665 : Mem, (I660 k662 [(.int .i64 n664)] M665) → bsp (decide ((n664 : Int) < ((k14 : Nat) : Int)))
                 (((0 : Int) ≤ n664) ∧
                  ((n664 : Int) < ((k14 : Nat) : Int)) ∧
                  nilc A13 fun k666 k667 =>
                  ((0 : Int) ≤ n664) ∧
                  ((n664 : Int) < ((k658 : Nat) : Int)) ∧
                  nilc A657 fun k668 k669 =>
                  exP (Mem.ld M665 ⟨k666, (k667 + (Int.toNat n664)), none⟩) fun A670 =>
                  exI (Mem.ld M665 ⟨k668, (k669 + ((Int.toNat n664) * 5)), none⟩) .i64 fun n671 =>
                  exSl (Mem.ld M665 ⟨k668, ((k669 + ((Int.toNat n664) * 5)) + 1), none⟩) fun A672 k673 k674 =>
                  exSl (Mem.ld M665 ⟨k668, ((k669 + ((Int.toNat n664) * 5)) + 2), none⟩) fun A675 k676 k677 =>
                  exSl (Mem.ld M665 ⟨k668, ((k669 + ((Int.toNat n664) * 5)) + 3), none⟩) fun A678 k679 k680 =>
                  exB (Mem.ld M665 ⟨k668, ((k669 + ((Int.toNat n664) * 5)) + 4), none⟩) fun t681 =>
                  ACalls Try.prog 44 #[(.pointer A670)] M665 (fun v682 M683 =>
                  ∃ A684 : Option Addr, ∃ k685 : Nat, ∃ k686 : Nat, ∃ A687 : Option Addr, ∃ k688 : Nat, ∃ k689 : Nat, ∃ A690 : Option Addr, ∃ k691 : Nat, ∃ k692 : Nat, ∃ t693 : Bool, (v682 = (.agg #[(.slice A684 k685 k686), (.slice A687 k688 k689), (.slice A690 k691 k692), (.bool t693)])) ∧
                  ((Mem.lds M683 ⟨k668, (k669 + ((Int.toNat n664) * 5)), none⟩ 0 5) = some [(.int .i64 n671), (.slice A672 k673 k674), (.slice A675 k676 k677), (.slice A678 k679 k680), (.bool t681)]) ∧
                  ACalls Try.prog 54 #[(.agg #[(.slice A684 k685 k686), (.slice A687 k688 k689), (.slice A690 k691 k692), (.bool t693)]), (.agg #[(.int .i64 n671), (.slice A672 k673 k674), (.slice A675 k676 k677), (.slice A678 k679 k680), (.bool t681)])] M683 (fun v694 M695 =>
                  exI (some v694) .i64 fun n696 =>
                  ((Mem.lds M695 ⟨k668, (k669 + ((Int.toNat n664) * 5)), none⟩ 0 5) = some [(.int .i64 n671), (.slice A672 k673 k674), (.slice A675 k676 k677), (.slice A678 k679 k680), (.bool t681)]) ∧
                  bsp (n696 != 0)
                   (K (.bool false) M695)
                   (∃ k697 : Nat, (k697 < k662) ∧
                    I660 k697 [(.int .i64 (IntKind.wrap .i64 (n664 + 1)))] M695)) Kp) Kp)
                 (K (.bool true) M665)) Kp) Kp)) Kp) Kp)))
         (bsp (!t485)
           (bsp (n484 != 0)
             (K (.bool false) M500)
             (((0 : Int) ≤ 8) ∧
              ((8 : Int) ≤ 8) ∧
              ((0 : Int) ≤ 8) ∧
              ((8 : Int) ≤ 8) ∧
              ((0 : Int) ≤ 0) ∧
              ((0 : Int) ≤ 8) ∧
              ACalls Try.prog 70 #[(.int .i64 x4), (.slice A27 k28 k29), (.slice (slA (some ⟨k3, 0, none⟩) 0 8 1) 8 8), (.slice A13 k14 k15)] M500 (fun v698 M699 =>
              (v698 = (.tuple #[])) ∧
              exI (Mem.ld M699 ⟨k3, 0, none⟩) .i64 fun n700 =>
              exI (Mem.ld M699 ⟨k3, (0 + 1), none⟩) .i64 fun n701 =>
              exI (Mem.ld M699 ⟨k3, (0 + 2), none⟩) .i64 fun n702 =>
              exI (Mem.ld M699 ⟨k3, (0 + 3), none⟩) .i64 fun n703 =>
              exI (Mem.ld M699 ⟨k3, (0 + 4), none⟩) .i64 fun n704 =>
              exI (Mem.ld M699 ⟨k3, (0 + 5), none⟩) .i64 fun n705 =>
              exI (Mem.ld M699 ⟨k3, (0 + 6), none⟩) .i64 fun n706 =>
              exI (Mem.ld M699 ⟨k3, (0 + 7), none⟩) .i64 fun n707 =>
              ACalls Try.prog 71 #[(.int .i64 x4), (.slice A30 k31 k32), (.agg #[(.int .i64 n700), (.int .i64 n701), (.int .i64 n702), (.int .i64 n703), (.int .i64 n704), (.int .i64 n705), (.int .i64 n706), (.int .i64 n707)]), (.slice A16 k17 k18)] M699 (fun v708 M709 =>
              exSl (some v708) fun A710 k711 k712 =>
              ∃ I713 : Nat → List Value → Mem → Prop, (∃ k714 : Nat, I713 k714 [(.int .i64 0)] M709) ∧
              ∀ k715 : Nat, ∀ junk716 : Nat → Value, ∀ n717 : Int, ∀ M718 : Mem, (I713 k715 [(.int .i64 n717)] M718) → bsp (decide ((n717 : Int) < ((k14 : Nat) : Int)))
               (((0 : Int) ≤ n717) ∧
                ((n717 : Int) < ((k14 : Nat) : Int)) ∧
                nilc A13 fun k719 k720 =>
                ((0 : Int) ≤ n717) ∧
                ((n717 : Int) < ((k711 : Nat) : Int)) ∧
                nilc A710 fun k721 k722 =>
                exP (Mem.ld M718 ⟨k719, (k720 + (Int.toNat n717)), none⟩) fun A723 =>
                exI (Mem.ld M718 ⟨k721, (k722 + ((Int.toNat n717) * 5)), none⟩) .i64 fun n724 =>
                exSl (Mem.ld M718 ⟨k721, ((k722 + ((Int.toNat n717) * 5)) + 1), none⟩) fun A725 k726 k727 =>
                exSl (Mem.ld M718 ⟨k721, ((k722 + ((Int.toNat n717) * 5)) + 2), none⟩) fun A728 k729 k730 =>
                exSl (Mem.ld M718 ⟨k721, ((k722 + ((Int.toNat n717) * 5)) + 3), none⟩) fun A731 k732 k733 =>
                exB (Mem.ld M718 ⟨k721, ((k722 + ((Int.toNat n717) * 5)) + 4), none⟩) fun t734 =>
                ACalls Try.prog 44 #[(.pointer A723)] M718 (fun v735 M736 =>
                ∃ A737 : Option Addr, ∃ k738 : Nat, ∃ k739 : Nat, ∃ A740 : Option Addr, ∃ k741 : Nat, ∃ k742 : Nat, ∃ A743 : Option Addr, ∃ k744 : Nat, ∃ k745 : Nat, ∃ t746 : Bool, (v735 = (.agg #[(.slice A737 k738 k739), (.slice A740 k741 k742), (.slice A743 k744 k745), (.bool t746)])) ∧
                ((Mem.lds M736 ⟨k721, (k722 + ((Int.toNat n717) * 5)), none⟩ 0 5) = some [(.int .i64 n724), (.slice A725 k726 k727), (.slice A728 k729 k730), (.slice A731 k732 k733), (.bool t734)]) ∧
                ACalls Try.prog 54 #[(.agg #[(.slice A737 k738 k739), (.slice A740 k741 k742), (.slice A743 k744 k745), (.bool t746)]), (.agg #[(.int .i64 n724), (.slice A725 k726 k727), (.slice A728 k729 k730), (.slice A731 k732 k733), (.bool t734)])] M736 (fun v747 M748 =>
                exI (some v747) .i64 fun n749 =>
                ((Mem.lds M748 ⟨k721, (k722 + ((Int.toNat n717) * 5)), none⟩ 0 5) = some [(.int .i64 n724), (.slice A725 k726 k727), (.slice A728 k729 k730), (.slice A731 k732 k733), (.bool t734)]) ∧
                bsp (n749 != 0)
                 (K (.bool false) M748)
                 (∃ k750 : Nat, (k750 < k715) ∧
                  I713 k750 [(.int .i64 (IntKind.wrap .i64 (n717 + 1)))] M748)) Kp) Kp)
               (ACalls Try.prog 72 #[(.int .i64 x4), (.slice A13 k14 k15)] M718 (fun v751 M752 =>
                (v751 = (.tuple #[])) ∧
                ACalls Try.prog 73 #[(.int .i64 x4), (.slice A710 k711 k712)] M752 (fun v753 M754 =>
                exSl (some v753) fun A755 k756 k757 =>
                ∃ I758 : Nat → List Value → Mem → Prop, (∃ k759 : Nat, I758 k759 [(.int .i64 0)] M754) ∧
                ∀ k760 : Nat, ∀ junk761 : Nat → Value, ∀ n762 : Int, ∀ M763 : Mem, (I758 k760 [(.int .i64 n762)] M763) → bsp (decide ((n762 : Int) < ((k14 : Nat) : Int)))
                 (((0 : Int) ≤ n762) ∧
                  ((n762 : Int) < ((k14 : Nat) : Int)) ∧
                  nilc A13 fun k764 k765 =>
                  ((0 : Int) ≤ n762) ∧
                  ((n762 : Int) < ((k756 : Nat) : Int)) ∧
                  nilc A755 fun k766 k767 =>
                  exP (Mem.ld M763 ⟨k764, (k765 + (Int.toNat n762)), none⟩) fun A768 =>
                  exI (Mem.ld M763 ⟨k766, (k767 + ((Int.toNat n762) * 5)), none⟩) .i64 fun n769 =>
                  exSl (Mem.ld M763 ⟨k766, ((k767 + ((Int.toNat n762) * 5)) + 1), none⟩) fun A770 k771 k772 =>
                  exSl (Mem.ld M763 ⟨k766, ((k767 + ((Int.toNat n762) * 5)) + 2), none⟩) fun A773 k774 k775 =>
                  exSl (Mem.ld M763 ⟨k766, ((k767 + ((Int.toNat n762) * 5)) + 3), none⟩) fun A776 k777 k778 =>
                  exB (Mem.ld M763 ⟨k766, ((k767 + ((Int.toNat n762) * 5)) + 4), none⟩) fun t779 =>
                  ACalls Try.prog 44 #[(.pointer A768)] M763 (fun v780 M781 =>
                  ∃ A782 : Option Addr, ∃ k783 : Nat, ∃ k784 : Nat, ∃ A785 : Option Addr, ∃ k786 : Nat, ∃ k787 : Nat, ∃ A788 : Option Addr, ∃ k789 : Nat, ∃ k790 : Nat, ∃ t791 : Bool, (v780 = (.agg #[(.slice A782 k783 k784), (.slice A785 k786 k787), (.slice A788 k789 k790), (.bool t791)])) ∧
                  ((Mem.lds M781 ⟨k766, (k767 + ((Int.toNat n762) * 5)), none⟩ 0 5) = some [(.int .i64 n769), (.slice A770 k771 k772), (.slice A773 k774 k775), (.slice A776 k777 k778), (.bool t779)]) ∧
                  ACalls Try.prog 54 #[(.agg #[(.slice A782 k783 k784), (.slice A785 k786 k787), (.slice A788 k789 k790), (.bool t791)]), (.agg #[(.int .i64 n769), (.slice A770 k771 k772), (.slice A773 k774 k775), (.slice A776 k777 k778), (.bool t779)])] M781 (fun v792 M793 =>
                  exI (some v792) .i64 fun n794 =>
                  ((Mem.lds M793 ⟨k766, (k767 + ((Int.toNat n762) * 5)), none⟩ 0 5) = some [(.int .i64 n769), (.slice A770 k771 k772), (.slice A773 k774 k775), (.slice A776 k777 k778), (.bool t779)]) ∧
                  bsp (n794 != 0)
                   (K (.bool false) M793)
                   (∃ k795 : Nat, (k795 < k760) ∧
                    I758 k795 [(.int .i64 (IntKind.wrap .i64 (n762 + 1)))] M793)) Kp) Kp)
                 (K (.bool true) M763)) Kp) Kp)) Kp) Kp))
           (((0 : Int) ≤ 8) ∧
            ((8 : Int) ≤ 8) ∧
            ((0 : Int) ≤ 8) ∧
            ((8 : Int) ≤ 8) ∧
            ((0 : Int) ≤ 0) ∧
            ((0 : Int) ≤ 8) ∧
            ACalls Try.prog 70 #[(.int .i64 x4), (.slice A27 k28 k29), (.slice (slA (some ⟨k3, 0, none⟩) 0 8 1) 8 8), (.slice A13 k14 k15)] M500 (fun v796 M797 =>
            (v796 = (.tuple #[])) ∧
            exI (Mem.ld M797 ⟨k3, 0, none⟩) .i64 fun n798 =>
            exI (Mem.ld M797 ⟨k3, (0 + 1), none⟩) .i64 fun n799 =>
            exI (Mem.ld M797 ⟨k3, (0 + 2), none⟩) .i64 fun n800 =>
            exI (Mem.ld M797 ⟨k3, (0 + 3), none⟩) .i64 fun n801 =>
            exI (Mem.ld M797 ⟨k3, (0 + 4), none⟩) .i64 fun n802 =>
            exI (Mem.ld M797 ⟨k3, (0 + 5), none⟩) .i64 fun n803 =>
            exI (Mem.ld M797 ⟨k3, (0 + 6), none⟩) .i64 fun n804 =>
            exI (Mem.ld M797 ⟨k3, (0 + 7), none⟩) .i64 fun n805 =>
            ACalls Try.prog 71 #[(.int .i64 x4), (.slice A30 k31 k32), (.agg #[(.int .i64 n798), (.int .i64 n799), (.int .i64 n800), (.int .i64 n801), (.int .i64 n802), (.int .i64 n803), (.int .i64 n804), (.int .i64 n805)]), (.slice A16 k17 k18)] M797 (fun v806 M807 =>
            exSl (some v806) fun A808 k809 k810 =>
            ∃ I811 : Nat → List Value → Mem → Prop, (∃ k812 : Nat, I811 k812 [(.int .i64 0)] M807) ∧
            ∀ k813 : Nat, ∀ junk814 : Nat → Value, ∀ n815 : Int, ∀ M816 : Mem, (I811 k813 [(.int .i64 n815)] M816) → bsp (decide ((n815 : Int) < ((k14 : Nat) : Int)))
             (((0 : Int) ≤ n815) ∧
              ((n815 : Int) < ((k14 : Nat) : Int)) ∧
              nilc A13 fun k817 k818 =>
              ((0 : Int) ≤ n815) ∧
              ((n815 : Int) < ((k809 : Nat) : Int)) ∧
              nilc A808 fun k819 k820 =>
              exP (Mem.ld M816 ⟨k817, (k818 + (Int.toNat n815)), none⟩) fun A821 =>
              exI (Mem.ld M816 ⟨k819, (k820 + ((Int.toNat n815) * 5)), none⟩) .i64 fun n822 =>
              exSl (Mem.ld M816 ⟨k819, ((k820 + ((Int.toNat n815) * 5)) + 1), none⟩) fun A823 k824 k825 =>
              exSl (Mem.ld M816 ⟨k819, ((k820 + ((Int.toNat n815) * 5)) + 2), none⟩) fun A826 k827 k828 =>
              exSl (Mem.ld M816 ⟨k819, ((k820 + ((Int.toNat n815) * 5)) + 3), none⟩) fun A829 k830 k831 =>
              exB (Mem.ld M816 ⟨k819, ((k820 + ((Int.toNat n815) * 5)) + 4), none⟩) fun t832 =>
              ACalls Try.prog 44 #[(.pointer A821)] M816 (fun v833 M834 =>
              ∃ A835 : Option Addr, ∃ k836 : Nat, ∃ k837 : Nat, ∃ A838 : Option Addr, ∃ k839 : Nat, ∃ k840 : Nat, ∃ A841 : Option Addr, ∃ k842 : Nat, ∃ k843 : Nat, ∃ t844 : Bool, (v833 = (.agg #[(.slice A835 k836 k837), (.slice A838 k839 k840), (.slice A841 k842 k843), (.bool t844)])) ∧
              ((Mem.lds M834 ⟨k819, (k820 + ((Int.toNat n815) * 5)), none⟩ 0 5) = some [(.int .i64 n822), (.slice A823 k824 k825), (.slice A826 k827 k828), (.slice A829 k830 k831), (.bool t832)]) ∧
              ACalls Try.prog 54 #[(.agg #[(.slice A835 k836 k837), (.slice A838 k839 k840), (.slice A841 k842 k843), (.bool t844)]), (.agg #[(.int .i64 n822), (.slice A823 k824 k825), (.slice A826 k827 k828), (.slice A829 k830 k831), (.bool t832)])] M834 (fun v845 M846 =>
              exI (some v845) .i64 fun n847 =>
              ((Mem.lds M846 ⟨k819, (k820 + ((Int.toNat n815) * 5)), none⟩ 0 5) = some [(.int .i64 n822), (.slice A823 k824 k825), (.slice A826 k827 k828), (.slice A829 k830 k831), (.bool t832)]) ∧
              bsp (n847 != 0)
               (K (.bool false) M846)
               (∃ k848 : Nat, (k848 < k813) ∧
                I811 k848 [(.int .i64 (IntKind.wrap .i64 (n815 + 1)))] M846)) Kp) Kp)
             (ACalls Try.prog 72 #[(.int .i64 x4), (.slice A13 k14 k15)] M816 (fun v849 M850 =>
              (v849 = (.tuple #[])) ∧
              ACalls Try.prog 73 #[(.int .i64 x4), (.slice A808 k809 k810)] M850 (fun v851 M852 =>
              exSl (some v851) fun A853 k854 k855 =>
              ∃ I856 : Nat → List Value → Mem → Prop, (∃ k857 : Nat, I856 k857 [(.int .i64 0)] M852) ∧
              ∀ k858 : Nat, ∀ junk859 : Nat → Value, ∀ n860 : Int, ∀ M861 : Mem, (I856 k858 [(.int .i64 n860)] M861) → bsp (decide ((n860 : Int) < ((k14 : Nat) : Int)))
               (((0 : Int) ≤ n860) ∧
                ((n860 : Int) < ((k14 : Nat) : Int)) ∧
                nilc A13 fun k862 k863 =>
                ((0 : Int) ≤ n860) ∧
                ((n860 : Int) < ((k854 : Nat) : Int)) ∧
                nilc A853 fun k864 k865 =>
                exP (Mem.ld M861 ⟨k862, (k863 + (Int.toNat n860)), none⟩) fun A866 =>
                exI (Mem.ld M861 ⟨k864, (k865 + ((Int.toNat n860) * 5)), none⟩) .i64 fun n867 =>
                exSl (Mem.ld M861 ⟨k864, ((k865 + ((Int.toNat n860) * 5)) + 1), none⟩) fun A868 k869 k870 =>
                exSl (Mem.ld M861 ⟨k864, ((k865 + ((Int.toNat n860) * 5)) + 2), none⟩) fun A871 k872 k873 =>
                exSl (Mem.ld M861 ⟨k864, ((k865 + ((Int.toNat n860) * 5)) + 3), none⟩) fun A874 k875 k876 =>
                exB (Mem.ld M861 ⟨k864, ((k865 + ((Int.toNat n860) * 5)) + 4), none⟩) fun t877 =>
                ACalls Try.prog 44 #[(.pointer A866)] M861 (fun v878 M879 =>
                ∃ A880 : Option Addr, ∃ k881 : Nat, ∃ k882 : Nat, ∃ A883 : Option Addr, ∃ k884 : Nat, ∃ k885 : Nat, ∃ A886 : Option Addr, ∃ k887 : Nat, ∃ k888 : Nat, ∃ t889 : Bool, (v878 = (.agg #[(.slice A880 k881 k882), (.slice A883 k884 k885), (.slice A886 k887 k888), (.bool t889)])) ∧
                ((Mem.lds M879 ⟨k864, (k865 + ((Int.toNat n860) * 5)), none⟩ 0 5) = some [(.int .i64 n867), (.slice A868 k869 k870), (.slice A871 k872 k873), (.slice A874 k875 k876), (.bool t877)]) ∧
                ACalls Try.prog 54 #[(.agg #[(.slice A880 k881 k882), (.slice A883 k884 k885), (.slice A886 k887 k888), (.bool t889)]), (.agg #[(.int .i64 n867), (.slice A868 k869 k870), (.slice A871 k872 k873), (.slice A874 k875 k876), (.bool t877)])] M879 (fun v890 M891 =>
                exI (some v890) .i64 fun n892 =>
                ((Mem.lds M891 ⟨k864, (k865 + ((Int.toNat n860) * 5)), none⟩ 0 5) = some [(.int .i64 n867), (.slice A868 k869 k870), (.slice A871 k872 k873), (.slice A874 k875 k876), (.bool t877)]) ∧
                bsp (n892 != 0)
                 (K (.bool false) M891)
                 (∃ k893 : Nat, (k893 < k858) ∧
                  I856 k893 [(.int .i64 (IntKind.wrap .i64 (n860 + 1)))] M891)) Kp) Kp)
               (K (.bool true) M861)) Kp) Kp)) Kp) Kp))))) Kp) Kp) Kp) Kp) Kp)) Kp)) Kp) :
  ACalls Try.prog 15 ([.agg #[.int .i64 x0_0, .int .i64 x0_1, .int .i64 x0_2], .slice B1 m1 c1, .slice B2 m2 c2, .agg #[.int .i64 x3_0, .int .i64 x3_1, .int .i64 x3_2, .int .i64 x3_3, .int .i64 x3_4, .int .i64 x3_5, .int .i64 x3_6, .int .i64 x3_7], .int .i64 x4] : List Value).toArray M K Kp :=
  acalls_vc (C := Cx) good [(2000000, .loop [(13, .c .sl), (14, .c .sl), (15, .c (.int .i64))]), (8, .reg [0, 0, 3, 7, 15, 31, 63, 0, 0, 384, 896, 1920, 3968, 8064, 0, 0, 49152, 114688, 245760, 507904, 1048575, 0, 4194303] (.step 0 (.step 1 (.step 2 (.step 3 (.step 7 (.step 8 (.step 9 (.step 10 (.step 14 (.step 15 (.step 16 (.step 17 (.step 4 (.step 5 (.step 6 (.step 11 (.step 12 (.step 13 (.step 18 (.step 19 (.step 20 (.step 21 (.step 22 .done)))))))))))))))))))))))), (9, .reg [0, 0, 2, 7, 0, 0, 32, 127, 255, 511] (.step 0 (.step 4 (.step 1 (.prom 5 (.step 2 (.late 3 (.step 6 (.step 7 (.step 8 (.step 9 .done))))))))))), (2000002, .loop [(120, .c (.int .i64))]), (19, .reg [0, 0, 3, 7, 15, 0, 0, 96, 224, 511, 1023] (.step 0 (.step 1 (.step 2 (.step 5 (.step 6 (.step 7 (.step 3 (.prom 8 (.step 4 (.step 9 (.step 10 .done)))))))))))), (2000004, .loop [(143, .c (.int .i64))]), (27, .reg [0, 0, 3, 7, 15, 0, 0, 96, 224, 511, 1023] (.step 0 (.step 1 (.step 2 (.step 5 (.step 6 (.step 7 (.step 3 (.prom 8 (.step 4 (.step 9 (.step 10 .done))))))))))))] Try.func15 (by kernel_rfl) (by kernel_rfl) h

theorem vc_shunterlaw15_awake  {M : Mem} {K : Value → Mem → Prop} {Kp : List PanicEntry → Mem → Prop} (h :
nwc M (.cells #[(.int .i64 0), (.int .i64 0), (.int .i64 0), (.int .i64 2), (.int .i64 0), (.int .i64 0)] 119 (0, 0)) fun k1 M2 =>
ACalls Try.prog 66 #[(.slice (some ⟨k1, 0, none⟩) 2 2)] M2 (fun v3 M4 =>
∃ n5 : Int, ∃ t6 : Bool, (v3 = (.tuple #[(.int .i64 n5), (.bool t6)])) ∧
nwc M4 (.cells #[(.int .i64 1), (.int .i64 0), (.int .i64 0), (.int .i64 0), (.int .i64 0), (.int .i64 0)] 119 (0, 0)) fun k7 M8 =>
ACalls Try.prog 34 #[(.int .i64 1)] M8 (fun v9 M10 =>
exP (some v9) fun A11 =>
nwc M10 (.cells #[(.pointer A11)] 50 (0, 0)) fun k12 M13 =>
ACalls Try.prog 68 #[(.slice (some ⟨k7, 0, none⟩) 2 2), (.slice (some ⟨k12, 0, none⟩) 1 1)] M13 (fun v14 M15 =>
exSl (some v14) fun A16 k17 k18 =>
bsp (n5 == 1)
 (bsp t6
   (bsp (((k17 : Nat) : Int) == 1)
     (((0 : Int) ≤ 0) ∧
      ((0 : Int) < ((k17 : Nat) : Int)) ∧
      nilc A16 fun k19 k20 =>
      exI (Mem.ld M15 ⟨k19, (k20 + 0), none⟩) .i64 fun n21 =>
      K (.bool (n21 == 0)) M15)
     (K (.bool false) M15))
   (K (.bool false) M15))
 (K (.bool false) M15)) Kp) Kp) Kp) :
  ACalls Try.prog 64 ([] : List Value).toArray M K Kp :=
  acalls_vc (C := Cx) good [] Try.func64 (by kernel_rfl) (by kernel_rfl) h

theorem vc_shunterlaw15_made {x0_0 : Int} {x0_1 : Int} {x0_2 : Int} {B1 : Option Addr} {m1 c1 : Nat} {M : Mem} {K : Value → Mem → Prop} {Kp : List PanicEntry → Mem → Prop} (h :
nwc M (.cells #[(.int .i64 x0_0), (.int .i64 x0_1), (.int .i64 x0_2)] 108 (0, 0)) fun k1 M2 =>
nwc M2 (.cells #[] 50 (0, 0)) fun k3 M4 =>
nwc M4 (.cells #[] 91 (0, 0)) fun k5 M6 =>
exI (Mem.ld M6 ⟨k1, 0, none⟩) .i64 fun n7 =>
exI (Mem.ld M6 ⟨k1, (0 + 1), none⟩) .i64 fun n8 =>
exI (Mem.ld M6 ⟨k1, (0 + 2), none⟩) .i64 fun n9 =>
∃ I10 : Nat → List Value → Mem → Prop, (∃ k11 : Nat, I10 k11 [(.slice (some ⟨k3, 0, none⟩) 0 0), (.slice (some ⟨k5, 0, none⟩) 0 0), (.int .i64 0)] M6) ∧
∀ k12 : Nat, ∀ junk13 : Nat → Value, ∀ A14 : Option Addr, ∀ k15 : Nat, ∀ k16 : Nat, ∀ A17 : Option Addr, ∀ k18 : Nat, ∀ k19 : Nat, ∀ n20 : Int, ∀ M21 : Mem, (I10 k12 [(.slice A14 k15 k16), (.slice A17 k18 k19), (.int .i64 n20)] M21) → bsp (decide ((n20 : Int) < 3))
 (((0 : Int) ≤ n20) ∧
  ((n20 : Int) < 3) ∧
  exI (Decidable.rec (fun h => (fun h => none) h)
  (fun h =>
    (fun h => some #[Value.int IntKind.i64 n7, Value.int IntKind.i64 n8, Value.int IntKind.i64 n9][n20.toNat]) h)
  (n20.toNat.decLt #[Value.int IntKind.i64 n7, Value.int IntKind.i64 n8, Value.int IntKind.i64 n9].size)) .i64 fun n22 =>
  ACalls Try.prog 34 #[(.int .i64 n22)] M21 (fun v23 M24 =>
  exP (some v23) fun A25 =>
  nwc M24 (.cells #[(.pointer A25)] 50 (0, 0)) fun k26 M27 =>
  semK Try.prog (Go.Builtin.append_ #[112, 112] 112 #[(.slice A14 k15 k16), (.slice (some ⟨k26, 0, none⟩) 1 1)]) M27 (fun v28 M29 =>
  exSl (some v28) fun A30 k31 k32 =>
  ACalls Try.prog 51 #[(.int .i64 n22)] M29 (fun v33 M34 =>
  ∃ n35 : Int, ∃ A36 : Option Addr, ∃ k37 : Nat, ∃ k38 : Nat, ∃ A39 : Option Addr, ∃ k40 : Nat, ∃ k41 : Nat, ∃ A42 : Option Addr, ∃ k43 : Nat, ∃ k44 : Nat, ∃ t45 : Bool, (v33 = (.agg #[(.int .i64 n35), (.slice A36 k37 k38), (.slice A39 k40 k41), (.slice A42 k43 k44), (.bool t45)])) ∧
  nwc M34 (.cells #[(.int .i64 n35), (.slice A36 k37 k38), (.slice A39 k40 k41), (.slice A42 k43 k44), (.bool t45)] 91 (0, 0)) fun k46 M47 =>
  semK Try.prog (Go.Builtin.append_ #[113, 113] 113 #[(.slice A17 k18 k19), (.slice (some ⟨k46, 0, none⟩) 1 1)]) M47 (fun v48 M49 =>
  exSl (some v48) fun A50 k51 k52 =>
  ∃ k53 : Nat, (k53 < k12) ∧
  I10 k53 [(.slice A30 k31 k32), (.slice A50 k51 k52), (.int .i64 (IntKind.wrap .i64 (n20 + 1)))] M49) Kp) Kp) Kp) Kp)
 (∃ I54 : Nat → List Value → Mem → Prop, (∃ k55 : Nat, I54 k55 [(.int .i64 0)] M21) ∧
  ∀ k56 : Nat, ∀ junk57 : Nat → Value, ∀ n58 : Int, ∀ M59 : Mem, (I54 k56 [(.int .i64 n58)] M59) → bsp (decide ((n58 : Int) < ((m1 : Nat) : Int)))
   (bsp (decide ((n58 : Int) < 20))
     (((0 : Int) ≤ n58) ∧
      ((n58 : Int) < ((m1 : Nat) : Int)) ∧
      nilc B1 fun k60 k61 =>
      exI (Mem.ld M59 ⟨k60, (k61 + ((Int.toNat n58) * 4)), none⟩) .i64 fun n62 =>
      exI (Mem.ld M59 ⟨k60, ((k61 + ((Int.toNat n58) * 4)) + 1), none⟩) .i64 fun n63 =>
      exI (Mem.ld M59 ⟨k60, ((k61 + ((Int.toNat n58) * 4)) + 2), none⟩) .i64 fun n64 =>
      exI (Mem.ld M59 ⟨k60, ((k61 + ((Int.toNat n58) * 4)) + 3), none⟩) .i64 fun n65 =>
      nwc M59 (.cells #[(.int .i64 0), (.int .i64 0), (.int .i64 0), (.int .i64 0)] 169 (0, 0)) fun k66 M67 =>
      stc M67 ⟨k66, 0, none⟩ (.int .i64 n62) fun M68 =>
      stc M68 ⟨k66, (0 + 1), none⟩ (.int .i64 n63) fun M69 =>
      stc M69 ⟨k66, (0 + 2), none⟩ (.int .i64 n64) fun M70 =>
      stc M70 ⟨k66, (0 + 3), none⟩ (.int .i64 n65) fun M71 =>
      exI (Mem.ld M71 ⟨k66, (0 + 1), none⟩) .i64 fun n72 =>
      ((3 : Int) ≠ 0) ∧
      ((0 : Int) ≤ (Int.tmod (IntKind.wrap .i64 (((Nat.bitwise and (BitVec.ofInt IntKind.i64.bits n72).toNat (BitVec.ofInt IntKind.i64.bits 255).toNat) : Nat) : Int)) 3)) ∧
      (((Int.tmod (IntKind.wrap .i64 (((Nat.bitwise and (BitVec.ofInt IntKind.i64.bits n72).toNat (BitVec.ofInt IntKind.i64.bits 255).toNat) : Nat) : Int)) 3) : Int) < ((k15 : Nat) : Int)) ∧
      nilc A14 fun k73 k74 =>
      ((0 : Int) ≤ (Int.tmod (IntKind.wrap .i64 (((Nat.bitwise and (BitVec.ofInt IntKind.i64.bits n72).toNat (BitVec.ofInt IntKind.i64.bits 255).toNat) : Nat) : Int)) 3)) ∧
      (((Int.tmod (IntKind.wrap .i64 (((Nat.bitwise and (BitVec.ofInt IntKind.i64.bits n72).toNat (BitVec.ofInt IntKind.i64.bits 255).toNat) : Nat) : Int)) 3) : Int) < ((k18 : Nat) : Int)) ∧
      nilc A17 fun k75 k76 =>
      exP (Mem.ld M71 ⟨k73, (k74 + (Int.toNat (Int.tmod (IntKind.wrap .i64 (((Nat.bitwise and (BitVec.ofInt IntKind.i64.bits n72).toNat (BitVec.ofInt IntKind.i64.bits 255).toNat) : Nat) : Int)) 3))), none⟩) fun A77 =>
      exI (Mem.ld M71 ⟨k75, (k76 + ((Int.toNat (Int.tmod (IntKind.wrap .i64 (((Nat.bitwise and (BitVec.ofInt IntKind.i64.bits n72).toNat (BitVec.ofInt IntKind.i64.bits 255).toNat) : Nat) : Int)) 3)) * 5)), none⟩) .i64 fun n78 =>
      exSl (Mem.ld M71 ⟨k75, ((k76 + ((Int.toNat (Int.tmod (IntKind.wrap .i64 (((Nat.bitwise and (BitVec.ofInt IntKind.i64.bits n72).toNat (BitVec.ofInt IntKind.i64.bits 255).toNat) : Nat) : Int)) 3)) * 5)) + 1), none⟩) fun A79 k80 k81 =>
      exSl (Mem.ld M71 ⟨k75, ((k76 + ((Int.toNat (Int.tmod (IntKind.wrap .i64 (((Nat.bitwise and (BitVec.ofInt IntKind.i64.bits n72).toNat (BitVec.ofInt IntKind.i64.bits 255).toNat) : Nat) : Int)) 3)) * 5)) + 2), none⟩) fun A82 k83 k84 =>
      exSl (Mem.ld M71 ⟨k75, ((k76 + ((Int.toNat (Int.tmod (IntKind.wrap .i64 (((Nat.bitwise and (BitVec.ofInt IntKind.i64.bits n72).toNat (BitVec.ofInt IntKind.i64.bits 255).toNat) : Nat) : Int)) 3)) * 5)) + 3), none⟩) fun A85 k86 k87 =>
      exB (Mem.ld M71 ⟨k75, ((k76 + ((Int.toNat (Int.tmod (IntKind.wrap .i64 (((Nat.bitwise and (BitVec.ofInt IntKind.i64.bits n72).toNat (BitVec.ofInt IntKind.i64.bits 255).toNat) : Nat) : Int)) 3)) * 5)) + 4), none⟩) fun t88 =>
      nwc M71 (.cells #[(.int .i64 0), (.slice none 0 0), (.slice none 0 0), (.slice none 0 0), (.bool false)] 91 (0, 0)) fun k89 M90 =>
      stc M90 ⟨k89, 0, none⟩ (.int .i64 n78) fun M91 =>
      stc M91 ⟨k89, (0 + 1), none⟩ (.slice A79 k80 k81) fun M92 =>
      stc M92 ⟨k89, (0 + 2), none⟩ (.slice A82 k83 k84) fun M93 =>
      stc M93 ⟨k89, (0 + 3), none⟩ (.slice A85 k86 k87) fun M94 =>
      stc M94 ⟨k89, (0 + 4), none⟩ (.bool t88) fun M95 =>
      exI (Mem.ld M95 ⟨k66, 0, none⟩) .i64 fun n96 =>
      ((5 : Int) ≠ 0) ∧
      ∃ J97 : List Value → Mem → Prop, (bsp ((Int.tmod (IntKind.wrap .i64 (((Nat.bitwise and (BitVec.ofInt IntKind.i64.bits n96).toNat (BitVec.ofInt IntKind.i64.bits 255).toNat) : Nat) : Int)) 5) == 0)
        (exI (Mem.ld M95 ⟨k66, (0 + 3), none⟩) .i64 fun n98 =>
         ACalls Try.prog 38 #[(.pointer A77), (.int .i64 n98)] M95 (fun v99 M100 =>
         ∃ n101 : Int, ∃ n102 : Int, ∃ n103 : Int, ∃ t104 : Bool, ∃ n105 : Int, (v99 = (.tuple #[(.agg #[(.int .i64 n101), (.int .i64 n102), (.int .i64 n103)]), (.bool t104), (.int .i64 n105)])) ∧
         exI (Mem.ld M100 ⟨k89, 0, none⟩) .i64 fun n106 =>
         exSl (Mem.ld M100 ⟨k89, (0 + 1), none⟩) fun A107 k108 k109 =>
         exSl (Mem.ld M100 ⟨k89, (0 + 2), none⟩) fun A110 k111 k112 =>
         exSl (Mem.ld M100 ⟨k89, (0 + 3), none⟩) fun A113 k114 k115 =>
         exB (Mem.ld M100 ⟨k89, (0 + 4), none⟩) fun t116 =>
         exI (Mem.ld M100 ⟨k66, (0 + 3), none⟩) .i64 fun n117 =>
         ACalls Try.prog 87 #[(.agg #[(.int .i64 n106), (.slice A107 k108 k109), (.slice A110 k111 k112), (.slice A113 k114 k115), (.bool t116)]), (.int .i64 n117)] M100 (fun v118 M119 =>
         ∃ n120 : Int, ∃ A121 : Option Addr, ∃ k122 : Nat, ∃ k123 : Nat, ∃ A124 : Option Addr, ∃ k125 : Nat, ∃ k126 : Nat, ∃ A127 : Option Addr, ∃ k128 : Nat, ∃ k129 : Nat, ∃ t130 : Bool, ∃ n131 : Int, ∃ n132 : Int, ∃ n133 : Int, ∃ t134 : Bool, ∃ n135 : Int, (v118 = (.tuple #[(.agg #[(.int .i64 n120), (.slice A121 k122 k123), (.slice A124 k125 k126), (.slice A127 k128 k129), (.bool t130)]), (.agg #[(.int .i64 n131), (.int .i64 n132), (.int .i64 n133)]), (.bool t134), (.int .i64 n135)])) ∧
         stc M119 ⟨k89, 0, none⟩ (.int .i64 n120) fun M136 =>
         stc M136 ⟨k89, (0 + 1), none⟩ (.slice A121 k122 k123) fun M137 =>
         stc M137 ⟨k89, (0 + 2), none⟩ (.slice A124 k125 k126) fun M138 =>
         stc M138 ⟨k89, (0 + 3), none⟩ (.slice A127 k128 k129) fun M139 =>
         stc M139 ⟨k89, (0 + 4), none⟩ (.bool t130) fun M140 =>
         J97 [] M140) Kp) Kp)
        (bsp ((Int.tmod (IntKind.wrap .i64 (((Nat.bitwise and (BitVec.ofInt IntKind.i64.bits n96).toNat (BitVec.ofInt IntKind.i64.bits 255).toNat) : Nat) : Int)) 5) == 1)
          (ACalls Try.prog 37 #[(.pointer A77)] M95 (fun v141 M142 =>
           ∃ n143 : Int, ∃ t144 : Bool, ∃ n145 : Int, ∃ n146 : Int, ∃ n147 : Int, ∃ t148 : Bool, ∃ n149 : Int, (v141 = (.tuple #[(.agg #[(.int .i64 n143), (.bool t144), (.int .i64 n145), (.int .i64 n146), (.int .i64 n147), (.bool t148)]), (.int .i64 n149)])) ∧
           exI (Mem.ld M142 ⟨k89, 0, none⟩) .i64 fun n150 =>
           exSl (Mem.ld M142 ⟨k89, (0 + 1), none⟩) fun A151 k152 k153 =>
           exSl (Mem.ld M142 ⟨k89, (0 + 2), none⟩) fun A154 k155 k156 =>
           exSl (Mem.ld M142 ⟨k89, (0 + 3), none⟩) fun A157 k158 k159 =>
           exB (Mem.ld M142 ⟨k89, (0 + 4), none⟩) fun t160 =>
           ACalls Try.prog 88 #[(.agg #[(.int .i64 n150), (.slice A151 k152 k153), (.slice A154 k155 k156), (.slice A157 k158 k159), (.bool t160)])] M142 (fun v161 M162 =>
           ∃ n163 : Int, ∃ A164 : Option Addr, ∃ k165 : Nat, ∃ k166 : Nat, ∃ A167 : Option Addr, ∃ k168 : Nat, ∃ k169 : Nat, ∃ A170 : Option Addr, ∃ k171 : Nat, ∃ k172 : Nat, ∃ t173 : Bool, ∃ n174 : Int, ∃ t175 : Bool, ∃ n176 : Int, ∃ n177 : Int, ∃ n178 : Int, ∃ t179 : Bool, ∃ n180 : Int, (v161 = (.tuple #[(.agg #[(.int .i64 n163), (.slice A164 k165 k166), (.slice A167 k168 k169), (.slice A170 k171 k172), (.bool t173)]), (.int .i64 n174), (.bool t175), (.agg #[(.int .i64 n176), (.int .i64 n177), (.int .i64 n178)]), (.bool t179), (.int .i64 n180)])) ∧
           stc M162 ⟨k89, 0, none⟩ (.int .i64 n163) fun M181 =>
           stc M181 ⟨k89, (0 + 1), none⟩ (.slice A164 k165 k166) fun M182 =>
           stc M182 ⟨k89, (0 + 2), none⟩ (.slice A167 k168 k169) fun M183 =>
           stc M183 ⟨k89, (0 + 3), none⟩ (.slice A170 k171 k172) fun M184 =>
           stc M184 ⟨k89, (0 + 4), none⟩ (.bool t173) fun M185 =>
           J97 [] M185) Kp) Kp)
          (bsp ((Int.tmod (IntKind.wrap .i64 (((Nat.bitwise and (BitVec.ofInt IntKind.i64.bits n96).toNat (BitVec.ofInt IntKind.i64.bits 255).toNat) : Nat) : Int)) 5) == 2)
            (ACalls Try.prog 45 #[(.pointer A77)] M95 (fun v186 M187 =>
             ∃ A188 : Option Addr, ∃ k189 : Nat, ∃ k190 : Nat, ∃ A191 : Option Addr, ∃ k192 : Nat, ∃ k193 : Nat, ∃ n194 : Int, (v186 = (.tuple #[(.slice A188 k189 k190), (.slice A191 k192 k193), (.int .i64 n194)])) ∧
             exI (Mem.ld M187 ⟨k89, 0, none⟩) .i64 fun n195 =>
             exSl (Mem.ld M187 ⟨k89, (0 + 1), none⟩) fun A196 k197 k198 =>
             exSl (Mem.ld M187 ⟨k89, (0 + 2), none⟩) fun A199 k200 k201 =>
             exSl (Mem.ld M187 ⟨k89, (0 + 3), none⟩) fun A202 k203 k204 =>
             exB (Mem.ld M187 ⟨k89, (0 + 4), none⟩) fun t205 =>
             ACalls Try.prog 91 #[(.agg #[(.int .i64 n195), (.slice A196 k197 k198), (.slice A199 k200 k201), (.slice A202 k203 k204), (.bool t205)])] M187 (fun v206 M207 =>
             ∃ n208 : Int, ∃ A209 : Option Addr, ∃ k210 : Nat, ∃ k211 : Nat, ∃ A212 : Option Addr, ∃ k213 : Nat, ∃ k214 : Nat, ∃ A215 : Option Addr, ∃ k216 : Nat, ∃ k217 : Nat, ∃ t218 : Bool, ∃ A219 : Option Addr, ∃ k220 : Nat, ∃ k221 : Nat, ∃ A222 : Option Addr, ∃ k223 : Nat, ∃ k224 : Nat, ∃ n225 : Int, (v206 = (.tuple #[(.agg #[(.int .i64 n208), (.slice A209 k210 k211), (.slice A212 k213 k214), (.slice A215 k216 k217), (.bool t218)]), (.slice A219 k220 k221), (.slice A222 k223 k224), (.int .i64 n225)])) ∧
             stc M207 ⟨k89, 0, none⟩ (.int .i64 n208) fun M226 =>
             stc M226 ⟨k89, (0 + 1), none⟩ (.slice A209 k210 k211) fun M227 =>
             stc M227 ⟨k89, (0 + 2), none⟩ (.slice A212 k213 k214) fun M228 =>
             stc M228 ⟨k89, (0 + 3), none⟩ (.slice A215 k216 k217) fun M229 =>
             stc M229 ⟨k89, (0 + 4), none⟩ (.bool t218) fun M230 =>
             J97 [] M230) Kp) Kp)
            (bsp ((Int.tmod (IntKind.wrap .i64 (((Nat.bitwise and (BitVec.ofInt IntKind.i64.bits n96).toNat (BitVec.ofInt IntKind.i64.bits 255).toNat) : Nat) : Int)) 5) == 3)
              (exI (Mem.ld M95 ⟨k66, (0 + 2), none⟩) .i64 fun n231 =>
               exI (Mem.ld M95 ⟨k66, (0 + 3), none⟩) .i64 fun n232 =>
               ACalls Try.prog 35 #[(.pointer A77), (.agg #[(.int .i64 n231), (.int .i64 0), (.int .i64 n232)])] M95 (fun v233 M234 =>
               (v233 = (.tuple #[])) ∧
               exSl (Mem.ld M234 ⟨k89, (0 + 2), none⟩) fun A235 k236 k237 =>
               exI (Mem.ld M234 ⟨k66, (0 + 2), none⟩) .i64 fun n238 =>
               exI (Mem.ld M234 ⟨k66, (0 + 3), none⟩) .i64 fun n239 =>
               nwc M234 (.cells #[] 96 (0, 0)) fun k240 M241 =>
               (True) ∧
               semK Try.prog (Go.Builtin.append_ #[89, 89] 89 #[(.slice (some ⟨k240, 0, none⟩) 0 0), (.slice A235 k236 k237)]) M241 (fun v242 M243 =>
               exSl (some v242) fun A244 k245 k246 =>
               ((Mem.ld M243 ⟨k66, (0 + 3), none⟩) = (some (.int .i64 n239))) ∧
               ((Mem.ld M243 ⟨k66, (0 + 2), none⟩) = (some (.int .i64 n238))) ∧
               nwc M243 (.cells #[(.int .i64 n238), (.int .i64 0), (.int .i64 n239)] 96 (0, 0)) fun k247 M248 =>
               semK Try.prog (Go.Builtin.append_ #[89, 89] 89 #[(.slice A244 k245 k246), (.slice (some ⟨k247, 0, none⟩) 1 1)]) M248 (fun v249 M250 =>
               exSl (some v249) fun A251 k252 k253 =>
               ((Mem.ld M250 ⟨k66, (0 + 3), none⟩) = (some (.int .i64 n239))) ∧
               ((Mem.ld M250 ⟨k66, (0 + 2), none⟩) = (some (.int .i64 n238))) ∧
               stc M250 ⟨k89, (0 + 2), none⟩ (.slice A251 k252 k253) fun M254 =>
               ((Mem.ld M254 ⟨k66, (0 + 3), none⟩) = (some (.int .i64 n239))) ∧
               ((Mem.ld M254 ⟨k66, (0 + 2), none⟩) = (some (.int .i64 n238))) ∧
               J97 [] M254) Kp) Kp) Kp)
              (exI (Mem.ld M95 ⟨k66, (0 + 2), none⟩) .i64 fun n255 =>
               ACalls Try.prog 36 #[(.pointer A77), (.agg #[(.int .i64 n255), (.int .i64 0), (.int .i64 0)])] M95 (fun v256 M257 =>
               (v256 = (.tuple #[])) ∧
               exSl (Mem.ld M257 ⟨k89, (0 + 3), none⟩) fun A258 k259 k260 =>
               exI (Mem.ld M257 ⟨k66, (0 + 2), none⟩) .i64 fun n261 =>
               nwc M257 (.cells #[] 96 (0, 0)) fun k262 M263 =>
               (True) ∧
               semK Try.prog (Go.Builtin.append_ #[89, 89] 89 #[(.slice (some ⟨k262, 0, none⟩) 0 0), (.slice A258 k259 k260)]) M263 (fun v264 M265 =>
               exSl (some v264) fun A266 k267 k268 =>
               ((Mem.ld M265 ⟨k66, (0 + 2), none⟩) = (some (.int .i64 n261))) ∧
               nwc M265 (.cells #[(.int .i64 n261), (.int .i64 0), (.int .i64 0)] 96 (0, 0)) fun k269 M270 =>
               semK Try.prog (Go.Builtin.append_ #[89, 89] 89 #[(.slice A266 k267 k268), (.slice (some ⟨k269, 0, none⟩) 1 1)]) M270 (fun v271 M272 =>
               exSl (some v271) fun A273 k274 k275 =>
               ((Mem.ld M272 ⟨k66, (0 + 2), none⟩) = (some (.int .i64 n261))) ∧
               stc M272 ⟨k89, (0 + 3), none⟩ (.slice A273 k274 k275) fun M276 =>
               ((Mem.ld M276 ⟨k66, (0 + 2), none⟩) = (some (.int .i64 n261))) ∧
               J97 [] M276) Kp) Kp) Kp))))) ∧
      ∀ junk277 : Nat → Value, ∀ M278 : Mem, (J97 [] M278) → exI (Mem.ld M278 ⟨k89, 0, none⟩) .i64 fun n279 =>
      exSl (Mem.ld M278 ⟨k89, (0 + 1), none⟩) fun A280 k281 k282 =>
      exSl (Mem.ld M278 ⟨k89, (0 + 2), none⟩) fun A283 k284 k285 =>
      exSl (Mem.ld M278 ⟨k89, (0 + 3), none⟩) fun A286 k287 k288 =>
      exB (Mem.ld M278 ⟨k89, (0 + 4), none⟩) fun t289 =>
      ((0 : Int) ≤ (Int.tmod (IntKind.wrap .i64 (((Nat.bitwise and (BitVec.ofInt IntKind.i64.bits n72).toNat (BitVec.ofInt IntKind.i64.bits 255).toNat) : Nat) : Int)) 3)) ∧
      (((Int.tmod (IntKind.wrap .i64 (((Nat.bitwise and (BitVec.ofInt IntKind.i64.bits n72).toNat (BitVec.ofInt IntKind.i64.bits 255).toNat) : Nat) : Int)) 3) : Int) < ((k18 : Nat) : Int)) ∧
      nilc A17 fun k290 k291 =>
      stc M278 ⟨k290, (k291 + ((Int.toNat (Int.tmod (IntKind.wrap .i64 (((Nat.bitwise and (BitVec.ofInt IntKind.i64.bits n72).toNat (BitVec.ofInt IntKind.i64.bits 255).toNat) : Nat) : Int)) 3)) * 5)), none⟩ (.int .i64 n279) fun M292 =>
      stc M292 ⟨k290, ((k291 + ((Int.toNat (Int.tmod (IntKind.wrap .i64 (((Nat.bitwise and (BitVec.ofInt IntKind.i64.bits n72).toNat (BitVec.ofInt IntKind.i64.bits 255).toNat) : Nat) : Int)) 3)) * 5)) + 1), none⟩ (.slice A280 k281 k282) fun M293 =>
      stc M293 ⟨k290, ((k291 + ((Int.toNat (Int.tmod (IntKind.wrap .i64 (((Nat.bitwise and (BitVec.ofInt IntKind.i64.bits n72).toNat (BitVec.ofInt IntKind.i64.bits 255).toNat) : Nat) : Int)) 3)) * 5)) + 2), none⟩ (.slice A283 k284 k285) fun M294 =>
      stc M294 ⟨k290, ((k291 + ((Int.toNat (Int.tmod (IntKind.wrap .i64 (((Nat.bitwise and (BitVec.ofInt IntKind.i64.bits n72).toNat (BitVec.ofInt IntKind.i64.bits 255).toNat) : Nat) : Int)) 3)) * 5)) + 3), none⟩ (.slice A286 k287 k288) fun M295 =>
      stc M295 ⟨k290, ((k291 + ((Int.toNat (Int.tmod (IntKind.wrap .i64 (((Nat.bitwise and (BitVec.ofInt IntKind.i64.bits n72).toNat (BitVec.ofInt IntKind.i64.bits 255).toNat) : Nat) : Int)) 3)) * 5)) + 4), none⟩ (.bool t289) fun M296 =>
      ∃ k297 : Nat, (k297 < k56) ∧
      I54 k297 [(.int .i64 (IntKind.wrap .i64 (n58 + 1)))] M296)
     (K (.tuple #[(.slice A14 k15 k16), (.slice A17 k18 k19)]) M59))
   (K (.tuple #[(.slice A14 k15 k16), (.slice A17 k18 k19)]) M59))) :
  ACalls Try.prog 65 ([.agg #[.int .i64 x0_0, .int .i64 x0_1, .int .i64 x0_2], .slice B1 m1 c1] : List Value).toArray M K Kp :=
  acalls_vc (C := Cx) good [(2000000, .loop [(6, .c .sl), (7, .c .sl), (18, .c (.int .i64))]), (2000002, .loop [(10, .c (.int .i64))]), (12, .reg [0, 0, 3, 7, 0, 0, 48, 112, 0, 271, 1023] (.step 0 (.step 1 (.step 2 (.step 4 (.step 5 (.step 6 (.step 3 (.step 7 (.step 8 (.step 9 (.step 10 .done)))))))))))), (1000004, .cut []), (27, .reg [0, 0, 2, 7, 0, 16, 0, 64, 240, 496, 1023, 2047, 4095] (.step 1 (.step 4 (.step 6 (.step 2 (.prom 5 (.prom 7 (.step 8 (.step 0 (.late 3 (.step 9 (.step 10 (.step 11 (.step 12 .done)))))))))))))), (15, .reg [0, 0, 2, 7, 0, 16, 48, 112, 255, 511, 1023] (.step 1 (.step 4 (.step 2 (.prom 5 (.step 6 (.step 0 (.late 3 (.step 7 (.step 8 (.step 9 (.step 10 .done))))))))))))] Try.func65 (by kernel_rfl) (by kernel_rfl) h

theorem vc_picks_Else {B0 : Option Addr} {m0 c0 : Nat} {M : Mem} {K : Value → Mem → Prop} {Kp : List PanicEntry → Mem → Prop} (h :
∃ I1 : Nat → List Value → Mem → Prop, (∃ k2 : Nat, I1 k2 [(.int .i64 0)] M) ∧
∀ k3 : Nat, ∀ junk4 : Nat → Value, ∀ n5 : Int, ∀ M6 : Mem, (I1 k3 [(.int .i64 n5)] M6) → bsp (decide ((n5 : Int) < ((m0 : Nat) : Int)))
 (((0 : Int) ≤ n5) ∧
  ((n5 : Int) < ((m0 : Nat) : Int)) ∧
  nilc B0 fun k7 k8 =>
  exI (Mem.ld M6 ⟨k7, (k8 + ((Int.toNat n5) * 3)), none⟩) .i64 fun n9 =>
  exI (Mem.ld M6 ⟨k7, ((k8 + ((Int.toNat n5) * 3)) + 1), none⟩) .i64 fun n10 =>
  exI (Mem.ld M6 ⟨k7, ((k8 + ((Int.toNat n5) * 3)) + 2), none⟩) .i64 fun n11 =>
  nwc M6 (.cells #[(.int .i64 0), (.int .i64 0), (.int .i64 0)] 119 (0, 0)) fun k12 M13 =>
  stc M13 ⟨k12, 0, none⟩ (.int .i64 n9) fun M14 =>
  stc M14 ⟨k12, (0 + 1), none⟩ (.int .i64 n10) fun M15 =>
  stc M15 ⟨k12, (0 + 2), none⟩ (.int .i64 n11) fun M16 =>
  exI (Mem.ld M16 ⟨k12, 0, none⟩) .i64 fun n17 =>
  bsp (n17 == 2)
   (K (.tuple #[(.int .i64 n5), (.bool true)]) M16)
   (∃ k18 : Nat, (k18 < k3) ∧
    I1 k18 [(.int .i64 (IntKind.wrap .i64 (n5 + 1)))] M16))
 (K (.tuple #[(.int .i64 0), (.bool false)]) M6)) :
  ACalls Try.prog 66 ([.slice B0 m0 c0] : List Value).toArray M K Kp :=
  acalls_vc (C := Cx) good [(2000000, .loop [(8, .c (.int .i64))])] Try.func66 (by kernel_rfl) (by kernel_rfl) h

theorem vc_shunterref15_Else {B0 : Option Addr} {m0 c0 : Nat} {M : Mem} {K : Value → Mem → Prop} {Kp : List PanicEntry → Mem → Prop} (h :
∃ I1 : Nat → List Value → Mem → Prop, (∃ k2 : Nat, I1 k2 [(.int .i64 0)] M) ∧
∀ k3 : Nat, ∀ junk4 : Nat → Value, ∀ n5 : Int, ∀ M6 : Mem, (I1 k3 [(.int .i64 n5)] M6) → bsp (decide ((n5 : Int) < ((m0 : Nat) : Int)))
 (((0 : Int) ≤ n5) ∧
  ((n5 : Int) < ((m0 : Nat) : Int)) ∧
  nilc B0 fun k7 k8 =>
  exI (Mem.ld M6 ⟨k7, (k8 + ((Int.toNat n5) * 3)), none⟩) .i64 fun n9 =>
  exI (Mem.ld M6 ⟨k7, ((k8 + ((Int.toNat n5) * 3)) + 1), none⟩) .i64 fun n10 =>
  exI (Mem.ld M6 ⟨k7, ((k8 + ((Int.toNat n5) * 3)) + 2), none⟩) .i64 fun n11 =>
  nwc M6 (.cells #[(.int .i64 0), (.int .i64 0), (.int .i64 0)] 118 (0, 0)) fun k12 M13 =>
  stc M13 ⟨k12, 0, none⟩ (.int .i64 n9) fun M14 =>
  stc M14 ⟨k12, (0 + 1), none⟩ (.int .i64 n10) fun M15 =>
  stc M15 ⟨k12, (0 + 2), none⟩ (.int .i64 n11) fun M16 =>
  exI (Mem.ld M16 ⟨k12, 0, none⟩) .i64 fun n17 =>
  bsp (n17 == 2)
   (K (.int .i64 n5) M16)
   (∃ k18 : Nat, (k18 < k3) ∧
    I1 k18 [(.int .i64 (IntKind.wrap .i64 (n5 + 1)))] M16))
 (K (.int .i64 (-1)) M6)) :
  ACalls Try.prog 67 ([.slice B0 m0 c0] : List Value).toArray M K Kp :=
  acalls_vc (C := Cx) good [(2000000, .loop [(7, .c (.int .i64))])] Try.func67 (by kernel_rfl) (by kernel_rfl) h

theorem vc_picks_Enabled {B0 : Option Addr} {m0 c0 : Nat} {B1 : Option Addr} {m1 c1 : Nat} {M : Mem} {K : Value → Mem → Prop} {Kp : List PanicEntry → Mem → Prop} (h :
∃ I1 : Nat → List Value → Mem → Prop, (∃ k2 : Nat, I1 k2 [(.slice none 0 0), (.int .i64 0)] M) ∧
∀ k3 : Nat, ∀ junk4 : Nat → Value, ∀ A5 : Option Addr, ∀ k6 : Nat, ∀ k7 : Nat, ∀ n8 : Int, ∀ M9 : Mem, (I1 k3 [(.slice A5 k6 k7), (.int .i64 n8)] M9) → bsp (decide ((n8 : Int) < ((m0 : Nat) : Int)))
 (((0 : Int) ≤ n8) ∧
  ((n8 : Int) < ((m0 : Nat) : Int)) ∧
  nilc B0 fun k10 k11 =>
  exI (Mem.ld M9 ⟨k10, (k11 + ((Int.toNat n8) * 3)), none⟩) .i64 fun n12 =>
  exI (Mem.ld M9 ⟨k10, ((k11 + ((Int.toNat n8) * 3)) + 1), none⟩) .i64 fun n13 =>
  exI (Mem.ld M9 ⟨k10, ((k11 + ((Int.toNat n8) * 3)) + 2), none⟩) .i64 fun n14 =>
  nwc M9 (.cells #[(.int .i64 0), (.int .i64 0), (.int .i64 0)] 119 (0, 0)) fun k15 M16 =>
  stc M16 ⟨k15, 0, none⟩ (.int .i64 n12) fun M17 =>
  stc M17 ⟨k15, (0 + 1), none⟩ (.int .i64 n13) fun M18 =>
  stc M18 ⟨k15, (0 + 2), none⟩ (.int .i64 n14) fun M19 =>
  exI (Mem.ld M19 ⟨k15, 0, none⟩) .i64 fun n20 =>
  exI (Mem.ld M19 ⟨k15, (0 + 1), none⟩) .i64 fun n21 =>
  exI (Mem.ld M19 ⟨k15, (0 + 2), none⟩) .i64 fun n22 =>
  ACalls Try.prog 94 #[(.agg #[(.int .i64 n20), (.int .i64 n21), (.int .i64 n22)]), (.slice B1 m1 c1)] M19 (fun v23 M24 =>
  exB (some v23) fun t25 =>
  bsp t25
   (nwc M24 (.cells #[(.int .i64 n8)] 3 (0, 0)) fun k26 M27 =>
    semK Try.prog (Go.Builtin.append_ #[39, 39] 39 #[(.slice A5 k6 k7), (.slice (some ⟨k26, 0, none⟩) 1 1)]) M27 (fun v28 M29 =>
    exSl (some v28) fun A30 k31 k32 =>
    ∃ k33 : Nat, (k33 < k3) ∧
    I1 k33 [(.slice A30 k31 k32), (.int .i64 (IntKind.wrap .i64 (n8 + 1)))] M29) Kp)
   (∃ k34 : Nat, (k34 < k3) ∧
    I1 k34 [(.slice A5 k6 k7), (.int .i64 (IntKind.wrap .i64 (n8 + 1)))] M24)) Kp)
 (K (.slice A5 k6 k7) M9)) :
  ACalls Try.prog 68 ([.slice B0 m0 c0, .slice B1 m1 c1] : List Value).toArray M K Kp :=
  acalls_vc (C := Cx) good [(2000000, .loop [(5, .c .sl), (10, .c (.int .i64))])] Try.func68 (by kernel_rfl) (by kernel_rfl) h

theorem vc_shunterref15_Enabled {B0 : Option Addr} {m0 c0 : Nat} {B1 : Option Addr} {m1 c1 : Nat} {M : Mem} {K : Value → Mem → Prop} {Kp : List PanicEntry → Mem → Prop} (h :
nwc M (.cells #[] 3 (0, 0)) fun k1 M2 =>
∃ I3 : Nat → List Value → Mem → Prop, (∃ k4 : Nat, I3 k4 [(.slice (some ⟨k1, 0, none⟩) 0 0), (.int .i64 0)] M2) ∧
∀ k5 : Nat, ∀ junk6 : Nat → Value, ∀ A7 : Option Addr, ∀ k8 : Nat, ∀ k9 : Nat, ∀ n10 : Int, ∀ M11 : Mem, (I3 k5 [(.slice A7 k8 k9), (.int .i64 n10)] M11) → bsp (decide ((n10 : Int) < ((m0 : Nat) : Int)))
 (((0 : Int) ≤ n10) ∧
  ((n10 : Int) < ((m0 : Nat) : Int)) ∧
  nilc B0 fun k12 k13 =>
  exI (Mem.ld M11 ⟨k12, (k13 + ((Int.toNat n10) * 3)), none⟩) .i64 fun n14 =>
  exI (Mem.ld M11 ⟨k12, ((k13 + ((Int.toNat n10) * 3)) + 1), none⟩) .i64 fun n15 =>
  exI (Mem.ld M11 ⟨k12, ((k13 + ((Int.toNat n10) * 3)) + 2), none⟩) .i64 fun n16 =>
  nwc M11 (.cells #[(.int .i64 0), (.int .i64 0), (.int .i64 0)] 118 (0, 0)) fun k17 M18 =>
  stc M18 ⟨k17, 0, none⟩ (.int .i64 n14) fun M19 =>
  stc M19 ⟨k17, (0 + 1), none⟩ (.int .i64 n15) fun M20 =>
  stc M20 ⟨k17, (0 + 2), none⟩ (.int .i64 n16) fun M21 =>
  exI (Mem.ld M21 ⟨k17, 0, none⟩) .i64 fun n22 =>
  bsp (n22 == 2)
   (∃ k23 : Nat, (k23 < k5) ∧
    I3 k23 [(.slice A7 k8 k9), (.int .i64 (IntKind.wrap .i64 (n10 + 1)))] M21)
   (exI (Mem.ld M21 ⟨k17, (0 + 1), none⟩) .i64 fun n24 =>
    ((0 : Int) ≤ n24) ∧
    ((n24 : Int) < ((m1 : Nat) : Int)) ∧
    nilc B1 fun k25 k26 =>
    exI (Mem.ld M21 ⟨k25, (k26 + ((Int.toNat n24) * 5)), none⟩) .i64 fun n27 =>
    exSl (Mem.ld M21 ⟨k25, ((k26 + ((Int.toNat n24) * 5)) + 1), none⟩) fun A28 k29 k30 =>
    exSl (Mem.ld M21 ⟨k25, ((k26 + ((Int.toNat n24) * 5)) + 2), none⟩) fun A31 k32 k33 =>
    exSl (Mem.ld M21 ⟨k25, ((k26 + ((Int.toNat n24) * 5)) + 3), none⟩) fun A34 k35 k36 =>
    exB (Mem.ld M21 ⟨k25, ((k26 + ((Int.toNat n24) * 5)) + 4), none⟩) fun t37 =>
    nwc M21 (.cells #[(.int .i64 0), (.slice none 0 0), (.slice none 0 0), (.slice none 0 0), (.bool false)] 91 (0, 0)) fun k38 M39 =>
    stc M39 ⟨k38, 0, none⟩ (.int .i64 n27) fun M40 =>
    stc M40 ⟨k38, (0 + 1), none⟩ (.slice A28 k29 k30) fun M41 =>
    stc M41 ⟨k38, (0 + 2), none⟩ (.slice A31 k32 k33) fun M42 =>
    stc M42 ⟨k38, (0 + 3), none⟩ (.slice A34 k35 k36) fun M43 =>
    stc M43 ⟨k38, (0 + 4), none⟩ (.bool t37) fun M44 =>
    exB (Mem.ld M44 ⟨k38, (0 + 4), none⟩) fun t45 =>
    bsp t45
     (nwc M44 (.cells #[(.int .i64 n10)] 3 (0, 0)) fun k46 M47 =>
      semK Try.prog (Go.Builtin.append_ #[39, 39] 39 #[(.slice A7 k8 k9), (.slice (some ⟨k46, 0, none⟩) 1 1)]) M47 (fun v48 M49 =>
      exSl (some v48) fun A50 k51 k52 =>
      ∃ k53 : Nat, (k53 < k5) ∧
      I3 k53 [(.slice A50 k51 k52), (.int .i64 (IntKind.wrap .i64 (n10 + 1)))] M49) Kp)
     (exI (Mem.ld M44 ⟨k17, 0, none⟩) .i64 fun n54 =>
      bsp (n54 == 0)
       (exSl (Mem.ld M44 ⟨k38, (0 + 2), none⟩) fun A55 k56 k57 =>
        exSl (Mem.ld M44 ⟨k38, (0 + 1), none⟩) fun A58 k59 k60 =>
        bsp (decide (((IntKind.wrap .i64 (((k56 : Nat) : Int) + ((k59 : Nat) : Int))) : Int) > 0))
         (nwc M44 (.cells #[(.int .i64 n10)] 3 (0, 0)) fun k61 M62 =>
          semK Try.prog (Go.Builtin.append_ #[39, 39] 39 #[(.slice A7 k8 k9), (.slice (some ⟨k61, 0, none⟩) 1 1)]) M62 (fun v63 M64 =>
          exSl (some v63) fun A65 k66 k67 =>
          ∃ k68 : Nat, (k68 < k5) ∧
          I3 k68 [(.slice A65 k66 k67), (.int .i64 (IntKind.wrap .i64 (n10 + 1)))] M64) Kp)
         (exI (Mem.ld M44 ⟨k17, 0, none⟩) .i64 fun n69 =>
          bsp (n69 == 1)
           (exSl (Mem.ld M44 ⟨k38, (0 + 3), none⟩) fun A70 k71 k72 =>
            bsp (decide ((((k71 : Nat) : Int) : Int) > 0))
             (nwc M44 (.cells #[(.int .i64 n10)] 3 (0, 0)) fun k73 M74 =>
              semK Try.prog (Go.Builtin.append_ #[39, 39] 39 #[(.slice A7 k8 k9), (.slice (some ⟨k73, 0, none⟩) 1 1)]) M74 (fun v75 M76 =>
              exSl (some v75) fun A77 k78 k79 =>
              ∃ k80 : Nat, (k80 < k5) ∧
              I3 k80 [(.slice A77 k78 k79), (.int .i64 (IntKind.wrap .i64 (n10 + 1)))] M76) Kp)
             (exSl (Mem.ld M44 ⟨k38, (0 + 1), none⟩) fun A81 k82 k83 =>
              exI (Mem.ld M44 ⟨k38, 0, none⟩) .i64 fun n84 =>
              bsp (decide ((((k82 : Nat) : Int) : Int) < n84))
               (nwc M44 (.cells #[(.int .i64 n10)] 3 (0, 0)) fun k85 M86 =>
                semK Try.prog (Go.Builtin.append_ #[39, 39] 39 #[(.slice A7 k8 k9), (.slice (some ⟨k85, 0, none⟩) 1 1)]) M86 (fun v87 M88 =>
                exSl (some v87) fun A89 k90 k91 =>
                ∃ k92 : Nat, (k92 < k5) ∧
                I3 k92 [(.slice A89 k90 k91), (.int .i64 (IntKind.wrap .i64 (n10 + 1)))] M88) Kp)
               (∃ k93 : Nat, (k93 < k5) ∧
                I3 k93 [(.slice A7 k8 k9), (.int .i64 (IntKind.wrap .i64 (n10 + 1)))] M44)))
           (∃ k94 : Nat, (k94 < k5) ∧
            I3 k94 [(.slice A7 k8 k9), (.int .i64 (IntKind.wrap .i64 (n10 + 1)))] M44)))
       (exI (Mem.ld M44 ⟨k17, 0, none⟩) .i64 fun n95 =>
        bsp (n95 == 1)
         (exSl (Mem.ld M44 ⟨k38, (0 + 3), none⟩) fun A96 k97 k98 =>
          bsp (decide ((((k97 : Nat) : Int) : Int) > 0))
           (nwc M44 (.cells #[(.int .i64 n10)] 3 (0, 0)) fun k99 M100 =>
            semK Try.prog (Go.Builtin.append_ #[39, 39] 39 #[(.slice A7 k8 k9), (.slice (some ⟨k99, 0, none⟩) 1 1)]) M100 (fun v101 M102 =>
            exSl (some v101) fun A103 k104 k105 =>
            ∃ k106 : Nat, (k106 < k5) ∧
            I3 k106 [(.slice A103 k104 k105), (.int .i64 (IntKind.wrap .i64 (n10 + 1)))] M102) Kp)
           (exSl (Mem.ld M44 ⟨k38, (0 + 1), none⟩) fun A107 k108 k109 =>
            exI (Mem.ld M44 ⟨k38, 0, none⟩) .i64 fun n110 =>
            bsp (decide ((((k108 : Nat) : Int) : Int) < n110))
             (nwc M44 (.cells #[(.int .i64 n10)] 3 (0, 0)) fun k111 M112 =>
              semK Try.prog (Go.Builtin.append_ #[39, 39] 39 #[(.slice A7 k8 k9), (.slice (some ⟨k111, 0, none⟩) 1 1)]) M112 (fun v113 M114 =>
              exSl (some v113) fun A115 k116 k117 =>
              ∃ k118 : Nat, (k118 < k5) ∧
              I3 k118 [(.slice A115 k116 k117), (.int .i64 (IntKind.wrap .i64 (n10 + 1)))] M114) Kp)
             (∃ k119 : Nat, (k119 < k5) ∧
              I3 k119 [(.slice A7 k8 k9), (.int .i64 (IntKind.wrap .i64 (n10 + 1)))] M44)))
         (∃ k120 : Nat, (k120 < k5) ∧
          I3 k120 [(.slice A7 k8 k9), (.int .i64 (IntKind.wrap .i64 (n10 + 1)))] M44)))))
 (K (.slice A7 k8 k9) M11)) :
  ACalls Try.prog 69 ([.slice B0 m0 c0, .slice B1 m1 c1] : List Value).toArray M K Kp :=
  acalls_vc (C := Cx) good [(2000000, .loop [(5, .c .sl), (12, .c (.int .i64))])] Try.func69 (by kernel_rfl) (by kernel_rfl) h

theorem vc_picks_Wait {x0 : Int} {B1 : Option Addr} {m1 c1 : Nat} {B2 : Option Addr} {m2 c2 : Nat} {B3 : Option Addr} {m3 c3 : Nat} {M : Mem} {K : Value → Mem → Prop} {Kp : List PanicEntry → Mem → Prop} (h :
∃ I1 : Nat → List Value → Mem → Prop, (∃ k2 : Nat, I1 k2 [(.int .i64 0)] M) ∧
∀ k3 : Nat, ∀ junk4 : Nat → Value, ∀ n5 : Int, ∀ M6 : Mem, (I1 k3 [(.int .i64 n5)] M6) → bsp (decide ((n5 : Int) < ((m1 : Nat) : Int)))
 (((0 : Int) ≤ n5) ∧
  ((n5 : Int) < ((m1 : Nat) : Int)) ∧
  nilc B1 fun k7 k8 =>
  exI (Mem.ld M6 ⟨k7, (k8 + ((Int.toNat n5) * 3)), none⟩) .i64 fun n9 =>
  exI (Mem.ld M6 ⟨k7, ((k8 + ((Int.toNat n5) * 3)) + 1), none⟩) .i64 fun n10 =>
  exI (Mem.ld M6 ⟨k7, ((k8 + ((Int.toNat n5) * 3)) + 2), none⟩) .i64 fun n11 =>
  nwc M6 (.cells #[(.int .i64 0), (.int .i64 0), (.int .i64 0)] 119 (0, 0)) fun k12 M13 =>
  stc M13 ⟨k12, 0, none⟩ (.int .i64 n9) fun M14 =>
  stc M14 ⟨k12, (0 + 1), none⟩ (.int .i64 n10) fun M15 =>
  stc M15 ⟨k12, (0 + 2), none⟩ (.int .i64 n11) fun M16 =>
  exI (Mem.ld M16 ⟨k12, 0, none⟩) .i64 fun n17 =>
  bsp (n17 == 0)
   (exI (Mem.ld M16 ⟨k12, (0 + 1), none⟩) .i64 fun n18 =>
    ((0 : Int) ≤ n18) ∧
    ((n18 : Int) < ((m3 : Nat) : Int)) ∧
    nilc B3 fun k19 k20 =>
    exP (Mem.ld M16 ⟨k19, (k20 + (Int.toNat n18)), none⟩) fun A21 =>
    ACalls Try.prog 36 #[(.pointer A21), (.agg #[(.int .i64 x0), (.int .i64 n5), (.int .i64 0)])] M16 (fun v22 M23 =>
    (v22 = (.tuple #[])) ∧
    ∃ k24 : Nat, (k24 < k3) ∧
    I1 k24 [(.int .i64 (IntKind.wrap .i64 (n5 + 1)))] M23) Kp)
   (bsp (n17 == 1)
     (exI (Mem.ld M16 ⟨k12, (0 + 1), none⟩) .i64 fun n25 =>
      ((0 : Int) ≤ n25) ∧
      ((n25 : Int) < ((m3 : Nat) : Int)) ∧
      nilc B3 fun k26 k27 =>
      exP (Mem.ld M16 ⟨k26, (k27 + (Int.toNat n25)), none⟩) fun A28 =>
      exI (Mem.ld M16 ⟨k12, (0 + 2), none⟩) .i64 fun n29 =>
      ((0 : Int) ≤ n29) ∧
      ((n29 : Int) < ((m2 : Nat) : Int)) ∧
      nilc B2 fun k30 k31 =>
      exI (Mem.ld M16 ⟨k30, (k31 + (Int.toNat n29)), none⟩) .i64 fun n32 =>
      ACalls Try.prog 35 #[(.pointer A28), (.agg #[(.int .i64 x0), (.int .i64 n5), (.int .i64 n32)])] M16 (fun v33 M34 =>
      (v33 = (.tuple #[])) ∧
      ∃ k35 : Nat, (k35 < k3) ∧
      I1 k35 [(.int .i64 (IntKind.wrap .i64 (n5 + 1)))] M34) Kp)
     (∃ k36 : Nat, (k36 < k3) ∧
      I1 k36 [(.int .i64 (IntKind.wrap .i64 (n5 + 1)))] M16)))
 (K (.tuple #[]) M6)) :
  ACalls Try.prog 70 ([.int .i64 x0, .slice B1 m1 c1, .slice B2 m2 c2, .slice B3 m3 c3] : List Value).toArray M K Kp :=
  acalls_vc (C := Cx) good [(2000000, .loop [(12, .c (.int .i64))]), (7, .reg [0, 0, 2, 7, 15, 0, 0, 0, 0, 256, 896, 1920, 4064, 8191] (.step 0 (.step 1 (.step 5 (.step 6 (.step 7 (.step 8 (.step 2 (.step 3 (.step 4 (.step 9 (.step 10 (.step 11 (.step 12 (.step 13 .done)))))))))))))))] Try.func70 (by kernel_rfl) (by kernel_rfl) h

theorem vc_shunterref15_Wait {x0 : Int} {B1 : Option Addr} {m1 c1 : Nat} {x2_0 : Int} {x2_1 : Int} {x2_2 : Int} {x2_3 : Int} {x2_4 : Int} {x2_5 : Int} {x2_6 : Int} {x2_7 : Int} {B3 : Option Addr} {m3 c3 : Nat} {M : Mem} {K : Value → Mem → Prop} {Kp : List PanicEntry → Mem → Prop} (h :
nwc M (.cells #[(.int .i64 x2_0), (.int .i64 x2_1), (.int .i64 x2_2), (.int .i64 x2_3), (.int .i64 x2_4), (.int .i64 x2_5), (.int .i64 x2_6), (.int .i64 x2_7)] 111 (0, 0)) fun k1 M2 =>
nwc M2 (.cells #[] 91 (0, 0)) fun k3 M4 =>
semK Try.prog (Go.Builtin.append_ #[113, 113] 113 #[(.slice (some ⟨k3, 0, none⟩) 0 0), (.slice B3 m3 c3)]) M4 (fun v5 M6 =>
exSl (some v5) fun A7 k8 k9 =>
∃ I10 : Nat → List Value → Mem → Prop, (∃ k11 : Nat, I10 k11 [(.int .i64 0)] M6) ∧
∀ k12 : Nat, ∀ junk13 : Nat → Value, ∀ n14 : Int, ∀ M15 : Mem, (I10 k12 [(.int .i64 n14)] M15) → bsp (decide ((n14 : Int) < ((m1 : Nat) : Int)))
 (((0 : Int) ≤ n14) ∧
  ((n14 : Int) < ((m1 : Nat) : Int)) ∧
  nilc B1 fun k16 k17 =>
  exI (Mem.ld M15 ⟨k16, (k17 + ((Int.toNat n14) * 3)), none⟩) .i64 fun n18 =>
  exI (Mem.ld M15 ⟨k16, ((k17 + ((Int.toNat n14) * 3)) + 1), none⟩) .i64 fun n19 =>
  exI (Mem.ld M15 ⟨k16, ((k17 + ((Int.toNat n14) * 3)) + 2), none⟩) .i64 fun n20 =>
  nwc M15 (.cells #[(.int .i64 0), (.int .i64 0), (.int .i64 0)] 118 (0, 0)) fun k21 M22 =>
  stc M22 ⟨k21, 0, none⟩ (.int .i64 n18) fun M23 =>
  stc M23 ⟨k21, (0 + 1), none⟩ (.int .i64 n19) fun M24 =>
  stc M24 ⟨k21, (0 + 2), none⟩ (.int .i64 n20) fun M25 =>
  exI (Mem.ld M25 ⟨k21, 0, none⟩) .i64 fun n26 =>
  bsp (n26 == 2)
   (∃ k27 : Nat, (k27 < k12) ∧
    I10 k27 [(.int .i64 (IntKind.wrap .i64 (n14 + 1)))] M25)
   (exI (Mem.ld M25 ⟨k21, (0 + 1), none⟩) .i64 fun n28 =>
    ((0 : Int) ≤ n28) ∧
    ((n28 : Int) < ((k8 : Nat) : Int)) ∧
    nilc A7 fun k29 k30 =>
    exI (Mem.ld M25 ⟨k29, (k30 + ((Int.toNat n28) * 5)), none⟩) .i64 fun n31 =>
    exSl (Mem.ld M25 ⟨k29, ((k30 + ((Int.toNat n28) * 5)) + 1), none⟩) fun A32 k33 k34 =>
    exSl (Mem.ld M25 ⟨k29, ((k30 + ((Int.toNat n28) * 5)) + 2), none⟩) fun A35 k36 k37 =>
    exSl (Mem.ld M25 ⟨k29, ((k30 + ((Int.toNat n28) * 5)) + 3), none⟩) fun A38 k39 k40 =>
    exB (Mem.ld M25 ⟨k29, ((k30 + ((Int.toNat n28) * 5)) + 4), none⟩) fun t41 =>
    nwc M25 (.cells #[(.int .i64 0), (.slice none 0 0), (.slice none 0 0), (.slice none 0 0), (.bool false)] 91 (0, 0)) fun k42 M43 =>
    stc M43 ⟨k42, 0, none⟩ (.int .i64 n31) fun M44 =>
    stc M44 ⟨k42, (0 + 1), none⟩ (.slice A32 k33 k34) fun M45 =>
    stc M45 ⟨k42, (0 + 2), none⟩ (.slice A35 k36 k37) fun M46 =>
    stc M46 ⟨k42, (0 + 3), none⟩ (.slice A38 k39 k40) fun M47 =>
    stc M47 ⟨k42, (0 + 4), none⟩ (.bool t41) fun M48 =>
    exI (Mem.ld M48 ⟨k21, 0, none⟩) .i64 fun n49 =>
    bsp (n49 == 0)
     (nwc M48 (.cells #[] 96 (0, 0)) fun k50 M51 =>
      exSl (Mem.ld M51 ⟨k42, (0 + 3), none⟩) fun A52 k53 k54 =>
      semK Try.prog (Go.Builtin.append_ #[89, 89] 89 #[(.slice (some ⟨k50, 0, none⟩) 0 0), (.slice A52 k53 k54)]) M51 (fun v55 M56 =>
      exSl (some v55) fun A57 k58 k59 =>
      nwc M56 (.cells #[(.int .i64 x0), (.int .i64 n14), (.int .i64 0)] 96 (0, 0)) fun k60 M61 =>
      semK Try.prog (Go.Builtin.append_ #[89, 89] 89 #[(.slice A57 k58 k59), (.slice (some ⟨k60, 0, none⟩) 1 1)]) M61 (fun v62 M63 =>
      exSl (some v62) fun A64 k65 k66 =>
      stc M63 ⟨k42, (0 + 3), none⟩ (.slice A64 k65 k66) fun M67 =>
      exI (Mem.ld M67 ⟨k21, (0 + 1), none⟩) .i64 fun n68 =>
      exI (Mem.ld M67 ⟨k42, 0, none⟩) .i64 fun n69 =>
      exSl (Mem.ld M67 ⟨k42, (0 + 1), none⟩) fun A70 k71 k72 =>
      exSl (Mem.ld M67 ⟨k42, (0 + 2), none⟩) fun A73 k74 k75 =>
      exSl (Mem.ld M67 ⟨k42, (0 + 3), none⟩) fun A76 k77 k78 =>
      exB (Mem.ld M67 ⟨k42, (0 + 4), none⟩) fun t79 =>
      ((0 : Int) ≤ n68) ∧
      ((n68 : Int) < ((k8 : Nat) : Int)) ∧
      nilc A7 fun k80 k81 =>
      stc M67 ⟨k80, (k81 + ((Int.toNat n68) * 5)), none⟩ (.int .i64 n69) fun M82 =>
      stc M82 ⟨k80, ((k81 + ((Int.toNat n68) * 5)) + 1), none⟩ (.slice A70 k71 k72) fun M83 =>
      stc M83 ⟨k80, ((k81 + ((Int.toNat n68) * 5)) + 2), none⟩ (.slice A73 k74 k75) fun M84 =>
      stc M84 ⟨k80, ((k81 + ((Int.toNat n68) * 5)) + 3), none⟩ (.slice A76 k77 k78) fun M85 =>
      stc M85 ⟨k80, ((k81 + ((Int.toNat n68) * 5)) + 4), none⟩ (.bool t79) fun M86 =>
      ∃ k87 : Nat, (k87 < k12) ∧
      I10 k87 [(.int .i64 (IntKind.wrap .i64 (n14 + 1)))] M86) Kp) Kp)
     (exSl (Mem.ld M48 ⟨k42, (0 + 2), none⟩) fun A88 k89 k90 =>
      exI (Mem.ld M48 ⟨k21, (0 + 2), none⟩) .i64 fun n91 =>
      ((0 : Int) ≤ n91) ∧
      ((n91 : Int) < 8) ∧
      exI (Mem.ld M48 ⟨k1, (0 + (Int.toNat n91)), none⟩) .i64 fun n92 =>
      nwc M48 (.cells #[] 96 (0, 0)) fun k93 M94 =>
      (True) ∧
      semK Try.prog (Go.Builtin.append_ #[89, 89] 89 #[(.slice (some ⟨k93, 0, none⟩) 0 0), (.slice A88 k89 k90)]) M94 (fun v95 M96 =>
      exSl (some v95) fun A97 k98 k99 =>
      ((Mem.ld M96 ⟨k1, (0 + (Int.toNat n91)), none⟩) = (some (.int .i64 n92))) ∧
      ((Mem.ld M96 ⟨k21, (0 + 2), none⟩) = (some (.int .i64 n91))) ∧
      nwc M96 (.cells #[(.int .i64 x0), (.int .i64 n14), (.int .i64 n92)] 96 (0, 0)) fun k100 M101 =>
      semK Try.prog (Go.Builtin.append_ #[89, 89] 89 #[(.slice A97 k98 k99), (.slice (some ⟨k100, 0, none⟩) 1 1)]) M101 (fun v102 M103 =>
      exSl (some v102) fun A104 k105 k106 =>
      ((Mem.ld M103 ⟨k1, (0 + (Int.toNat n91)), none⟩) = (some (.int .i64 n92))) ∧
      ((Mem.ld M103 ⟨k21, (0 + 2), none⟩) = (some (.int .i64 n91))) ∧
      stc M103 ⟨k42, (0 + 2), none⟩ (.slice A104 k105 k106) fun M107 =>
      ((Mem.ld M107 ⟨k1, (0 + (Int.toNat n91)), none⟩) = (some (.int .i64 n92))) ∧
      ((Mem.ld M107 ⟨k21, (0 + 2), none⟩) = (some (.int .i64 n91))) ∧
      exI (Mem.ld M107 ⟨k21, (0 + 1), none⟩) .i64 fun n108 =>
      exI (Mem.ld M107 ⟨k42, 0, none⟩) .i64 fun n109 =>
      exSl (Mem.ld M107 ⟨k42, (0 + 1), none⟩) fun A110 k111 k112 =>
      exSl (Mem.ld M107 ⟨k42, (0 + 2), none⟩) fun A113 k114 k115 =>
      exSl (Mem.ld M107 ⟨k42, (0 + 3), none⟩) fun A116 k117 k118 =>
      exB (Mem.ld M107 ⟨k42, (0 + 4), none⟩) fun t119 =>
      ((0 : Int) ≤ n108) ∧
      ((n108 : Int) < ((k8 : Nat) : Int)) ∧
      nilc A7 fun k120 k121 =>
      stc M107 ⟨k120, (k121 + ((Int.toNat n108) * 5)), none⟩ (.int .i64 n109) fun M122 =>
      stc M122 ⟨k120, ((k121 + ((Int.toNat n108) * 5)) + 1), none⟩ (.slice A110 k111 k112) fun M123 =>
      stc M123 ⟨k120, ((k121 + ((Int.toNat n108) * 5)) + 2), none⟩ (.slice A113 k114 k115) fun M124 =>
      stc M124 ⟨k120, ((k121 + ((Int.toNat n108) * 5)) + 3), none⟩ (.slice A116 k117 k118) fun M125 =>
      stc M125 ⟨k120, ((k121 + ((Int.toNat n108) * 5)) + 4), none⟩ (.bool t119) fun M126 =>
      ∃ k127 : Nat, (k127 < k12) ∧
      I10 k127 [(.int .i64 (IntKind.wrap .i64 (n14 + 1)))] M126) Kp) Kp)))
 (K (.slice A7 k8 k9) M15)) Kp) :
  ACalls Try.prog 71 ([.int .i64 x0, .slice B1 m1 c1, .agg #[.int .i64 x2_0, .int .i64 x2_1, .int .i64 x2_2, .int .i64 x2_3, .int .i64 x2_4, .int .i64 x2_5, .int .i64 x2_6, .int .i64 x2_7], .slice B3 m3 c3] : List Value).toArray M K Kp :=
  acalls_vc (C := Cx) good [(2000000, .loop [(18, .c (.int .i64))]), (9, .reg [0, 0, 2, 7, 0, 0, 0, 64, 192, 448, 1008, 2032, 4095, 8191, 16383] (.step 1 (.step 4 (.step 5 (.step 6 (.step 2 (.prom 7 (.step 8 (.prom 9 (.step 10 (.step 0 (.late 3 (.step 11 (.step 12 (.step 13 (.step 14 .done))))))))))))))))] Try.func71 (by kernel_rfl) (by kernel_rfl) h

theorem vc_picks_Leave {x0 : Int} {B1 : Option Addr} {m1 c1 : Nat} {M : Mem} {K : Value → Mem → Prop} {Kp : List PanicEntry → Mem → Prop} (h :
∃ I1 : Nat → List Value → Mem → Prop, (∃ k2 : Nat, I1 k2 [(.int .i64 0)] M) ∧
∀ k3 : Nat, ∀ junk4 : Nat → Value, ∀ n5 : Int, ∀ M6 : Mem, (I1 k3 [(.int .i64 n5)] M6) → bsp (decide ((n5 : Int) < ((m1 : Nat) : Int)))
 (((0 : Int) ≤ n5) ∧
  ((n5 : Int) < ((m1 : Nat) : Int)) ∧
  nilc B1 fun k7 k8 =>
  exP (Mem.ld M6 ⟨k7, (k8 + (Int.toNat n5)), none⟩) fun A9 =>
  ACalls Try.prog 89 #[(.pointer A9), (.int .i64 x0)] M6 (fun v10 M11 =>
  (v10 = (.tuple #[])) ∧
  ∃ k12 : Nat, (k12 < k3) ∧
  I1 k12 [(.int .i64 (IntKind.wrap .i64 (n5 + 1)))] M11) Kp)
 (K (.tuple #[]) M6)) :
  ACalls Try.prog 72 ([.int .i64 x0, .slice B1 m1 c1] : List Value).toArray M K Kp :=
  acalls_vc (C := Cx) good [(2000000, .loop [(8, .c (.int .i64))])] Try.func72 (by kernel_rfl) (by kernel_rfl) h

theorem vc_shunterref15_Leave {x0 : Int} {B1 : Option Addr} {m1 c1 : Nat} {M : Mem} {K : Value → Mem → Prop} {Kp : List PanicEntry → Mem → Prop} (h :
nwc M (.cells #[] 91 (0, 0)) fun k1 M2 =>
∃ I3 : Nat → List Value → Mem → Prop, (∃ k4 : Nat, I3 k4 [(.slice (some ⟨k1, 0, none⟩) 0 0), (.int .i64 0)] M2) ∧
∀ k5 : Nat, ∀ junk6 : Nat → Value, ∀ A7 : Option Addr, ∀ k8 : Nat, ∀ k9 : Nat, ∀ n10 : Int, ∀ M11 : Mem, (I3 k5 [(.slice A7 k8 k9), (.int .i64 n10)] M11) → bsp (decide ((n10 : Int) < ((m1 : Nat) : Int)))
 (((0 : Int) ≤ n10) ∧
  ((n10 : Int) < ((m1 : Nat) : Int)) ∧
  nilc B1 fun k12 k13 =>
  exI (Mem.ld M11 ⟨k12, (k13 + ((Int.toNat n10) * 5)), none⟩) .i64 fun n14 =>
  exSl (Mem.ld M11 ⟨k12, ((k13 + ((Int.toNat n10) * 5)) + 1), none⟩) fun A15 k16 k17 =>
  exSl (Mem.ld M11 ⟨k12, ((k13 + ((Int.toNat n10) * 5)) + 2), none⟩) fun A18 k19 k20 =>
  exSl (Mem.ld M11 ⟨k12, ((k13 + ((Int.toNat n10) * 5)) + 3), none⟩) fun A21 k22 k23 =>
  exB (Mem.ld M11 ⟨k12, ((k13 + ((Int.toNat n10) * 5)) + 4), none⟩) fun t24 =>
  nwc M11 (.cells #[(.int .i64 0), (.slice none 0 0), (.slice none 0 0), (.slice none 0 0), (.bool false)] 91 (0, 0)) fun k25 M26 =>
  stc M26 ⟨k25, 0, none⟩ (.int .i64 n14) fun M27 =>
  stc M27 ⟨k25, (0 + 1), none⟩ (.slice A15 k16 k17) fun M28 =>
  stc M28 ⟨k25, (0 + 2), none⟩ (.slice A18 k19 k20) fun M29 =>
  stc M29 ⟨k25, (0 + 3), none⟩ (.slice A21 k22 k23) fun M30 =>
  stc M30 ⟨k25, (0 + 4), none⟩ (.bool t24) fun M31 =>
  exI (Mem.ld M31 ⟨k25, 0, none⟩) .i64 fun n32 =>
  exSl (Mem.ld M31 ⟨k25, (0 + 1), none⟩) fun A33 k34 k35 =>
  exSl (Mem.ld M31 ⟨k25, (0 + 2), none⟩) fun A36 k37 k38 =>
  exSl (Mem.ld M31 ⟨k25, (0 + 3), none⟩) fun A39 k40 k41 =>
  exB (Mem.ld M31 ⟨k25, (0 + 4), none⟩) fun t42 =>
  ACalls Try.prog 90 #[(.agg #[(.int .i64 n32), (.slice A33 k34 k35), (.slice A36 k37 k38), (.slice A39 k40 k41), (.bool t42)]), (.int .i64 x0)] M31 (fun v43 M44 =>
  ∃ n45 : Int, ∃ A46 : Option Addr, ∃ k47 : Nat, ∃ k48 : Nat, ∃ A49 : Option Addr, ∃ k50 : Nat, ∃ k51 : Nat, ∃ A52 : Option Addr, ∃ k53 : Nat, ∃ k54 : Nat, ∃ t55 : Bool, (v43 = (.agg #[(.int .i64 n45), (.slice A46 k47 k48), (.slice A49 k50 k51), (.slice A52 k53 k54), (.bool t55)])) ∧
  nwc M44 (.cells #[(.int .i64 n45), (.slice A46 k47 k48), (.slice A49 k50 k51), (.slice A52 k53 k54), (.bool t55)] 91 (0, 0)) fun k56 M57 =>
  semK Try.prog (Go.Builtin.append_ #[113, 113] 113 #[(.slice A7 k8 k9), (.slice (some ⟨k56, 0, none⟩) 1 1)]) M57 (fun v58 M59 =>
  exSl (some v58) fun A60 k61 k62 =>
  ∃ k63 : Nat, (k63 < k5) ∧
  I3 k63 [(.slice A60 k61 k62), (.int .i64 (IntKind.wrap .i64 (n10 + 1)))] M59) Kp) Kp)
 (K (.slice A7 k8 k9) M11)) :
  ACalls Try.prog 73 ([.int .i64 x0, .slice B1 m1 c1] : List Value).toArray M K Kp :=
  acalls_vc (C := Cx) good [(2000000, .loop [(5, .c .sl), (11, .c (.int .i64))])] Try.func73 (by kernel_rfl) (by kernel_rfl) h

theorem vc_picks_can {x0_0 : Int} {x0_1 : Int} {x0_2 : Int} {B1 : Option Addr} {m1 c1 : Nat} {M : Mem} {K : Value → Mem → Prop} {Kp : List PanicEntry → Mem → Prop} (h :
nwc M (.cells #[(.int .i64 x0_0), (.int .i64 x0_1), (.int .i64 x0_2)] 119 (0, 0)) fun k1 M2 =>
exI (Mem.ld M2 ⟨k1, 0, none⟩) .i64 fun n3 =>
bsp (n3 == 0)
 (exI (Mem.ld M2 ⟨k1, (0 + 1), none⟩) .i64 fun n4 =>
  ((0 : Int) ≤ n4) ∧
  ((n4 : Int) < ((m1 : Nat) : Int)) ∧
  nilc B1 fun k5 k6 =>
  exP (Mem.ld M2 ⟨k5, (k6 + (Int.toNat n4)), none⟩) fun A7 =>
  ACalls Try.prog 46 #[(.pointer A7)] M2 (fun v8 M9 =>
  exB (some v8) fun t10 =>
  K (.bool t10) M9) Kp)
 (bsp (n3 == 1)
   (exI (Mem.ld M2 ⟨k1, (0 + 1), none⟩) .i64 fun n11 =>
    ((0 : Int) ≤ n11) ∧
    ((n11 : Int) < ((m1 : Nat) : Int)) ∧
    nilc B1 fun k12 k13 =>
    exP (Mem.ld M2 ⟨k12, (k13 + (Int.toNat n11)), none⟩) fun A14 =>
    ACalls Try.prog 47 #[(.pointer A14)] M2 (fun v15 M16 =>
    exB (some v15) fun t17 =>
    K (.bool t17) M16) Kp)
   (K (.bool false) M2))) :
  ACalls Try.prog 94 ([.agg #[.int .i64 x0_0, .int .i64 x0_1, .int .i64 x0_2], .slice B1 m1 c1] : List Value).toArray M K Kp :=
  acalls_vc (C := Cx) good [] Try.func94 (by kernel_rfl) (by kernel_rfl) h

end Go.Proofs
