/- A part of proofs about functions of one program: a condition over a partial memory that is enough for a call, and what calls answer by it. No condition of its own. -/
import Derived.Scope
import Derived.Test.YtfjgcljdnhkmaaaProg
import Derived.WalkKit
import Derived.Test.YtfjgcljdnhkmaaaBase
import Derived.Test.YtfjgcljdnhkmaaaOps
import Derived.Test.YtfjgcljdnhkmaaaOpsB
import Derived.Test.YtfjgcljdnhkmaaaOpC
import Derived.Test.YtfjgcljdnhkmaaaFrame
import Derived.Test.YtfjgcljdnhkmaaaReg
import Derived.Test.YtfjgcljdnhkmaaaRegB
import Derived.Test.YtfjgcljdnhkmaaaRegL
import Derived.Test.YtfjgcljdnhkmaaaRegC
import Derived.Test.YtfjgcljdnhkmaaaExec
import Derived.Test.YtfjgcljdnhkmaaaSound
import Derived.Test.YtfjgcljdnhkmaaaSoundB
import Derived.Test.YtfjgcljdnhkmaaaLib
import Derived.Test.YtfjgcljdnhkmaaaHp
import Derived.Test.YtfjgcljdnhkmaaaRow
import Derived.Test.YtfjgcljdnhkmaaaMod
import Derived.Test.YtfjgcljdnhkmaaaZWorldSelects0

namespace Go.Proofs
open Go.AF
set_option linter.unusedVariables false
set_option maxRecDepth 100000
theorem vc_shunterlaw16_WorldSelects {B0 : Option Addr} {m0 c0 : Nat} {x1 : Int} {x2 : Int} {M : Mem} {K : Value → Mem → Prop} {Kp : List PanicEntry → Mem → Prop} (h :
nwc M (.cells #[(.int .i64 x1)] 3 (0, 0)) fun k1 M2 =>
ACalls Try.prog 6 #[] M2 (fun v3 M4 =>
exB (some v3) fun t5 =>
bsp (!t5)
 (K (.bool false) M4)
 (bsp ((if (6 : Int) < ((m0 : Nat) : Int) then 6 else ((m0 : Nat) : Int)) == 0)
   (K (.bool true) M4)
   (nwc M4 (.cells #[(.slice none 0 0), (.slice none 0 0), (.int .i64 0), (.slice none 0 0)] 28 (0, 0)) fun k6 M7 =>
    stc M7 ⟨k6, 0, none⟩ (.slice none 0 0) fun M8 =>
    stc M8 ⟨k6, (0 + 1), none⟩ (.slice none 0 0) fun M9 =>
    stc M9 ⟨k6, (0 + 2), none⟩ (.int .i64 0) fun M10 =>
    stc M10 ⟨k6, (0 + 3), none⟩ (.slice none 0 0) fun M11 =>
    nwc M11 (.cells #[(.int .i64 1), (.int .i64 1), (.int .i64 5), (.int .i64 0)] 31 (0, 0)) fun k12 M13 =>
    nwc M13 (.cells #[] 3 (0, 0)) fun k14 M15 =>
    ∃ I16 : Nat → List Value → Mem → Prop, (∃ k17 : Nat, I16 k17 [(.slice (some ⟨k12, 0, none⟩) 1 1), (.slice (some ⟨k14, 0, none⟩) 0 0), (.int .i64 0)] M15) ∧
    ∀ k18 : Nat, ∀ junk19 : Nat → Value, ∀ A20 : Option Addr, ∀ k21 : Nat, ∀ k22 : Nat, ∀ A23 : Option Addr, ∀ k24 : Nat, ∀ k25 : Nat, ∀ n26 : Int, ∀ M27 : Mem, (I16 k18 [(.slice A20 k21 k22), (.slice A23 k24 k25), (.int .i64 n26)] M27) → bsp (decide ((n26 : Int) < (if (6 : Int) < ((m0 : Nat) : Int) then 6 else ((m0 : Nat) : Int))))
     (exSl (Mem.ld M27 ⟨k6, (0 + 1), none⟩) fun A28 k29 k30 =>
      nwc M27 (.cells #[(.int .i64 1)] 3 (0, 0)) fun k31 M32 =>
      semK Try.prog (Go.Builtin.append_ #[25, 25] 25 #[(.slice A28 k29 k30), (.slice (some ⟨k31, 0, none⟩) 1 1)]) M32 (fun v33 M34 =>
      exSl (some v33) fun A35 k36 k37 =>
      stc M34 ⟨k6, (0 + 1), none⟩ (.slice A35 k36 k37) fun M38 =>
      exSl (Mem.ld M38 ⟨k6, (0 + 3), none⟩) fun A39 k40 k41 =>
      nwc M38 (.cells #[(.int .i64 0), (.int .i64 n26), (.int .i64 2)] 34 (0, 0)) fun k42 M43 =>
      semK Try.prog (Go.Builtin.append_ #[26, 26] 26 #[(.slice A39 k40 k41), (.slice (some ⟨k42, 0, none⟩) 1 1)]) M43 (fun v44 M45 =>
      exSl (some v44) fun A46 k47 k48 =>
      stc M45 ⟨k6, (0 + 3), none⟩ (.slice A46 k47 k48) fun M49 =>
      ((0 : Int) ≤ n26) ∧
      ((n26 : Int) < ((m0 : Nat) : Int)) ∧
      nilc B0 fun k50 k51 =>
      exB (Mem.ld M49 ⟨k50, (k51 + (Int.toNat n26)), none⟩) fun t52 =>
      ∃ J53 : List Value → Mem → Prop, (bsp t52
        (nwc M49 (.cells #[(.int .i64 n26)] 3 (0, 0)) fun k54 M55 =>
         semK Try.prog (Go.Builtin.append_ #[25, 25] 25 #[(.slice A23 k24 k25), (.slice (some ⟨k54, 0, none⟩) 1 1)]) M55 (fun v56 M57 =>
         exSl (some v56) fun A58 k59 k60 =>
         nwc M57 (.cells #[(.int .i64 13), (.int .i64 n26), (.int .i64 1), (.int .i64 0)] 31 (0, 0)) fun k61 M62 =>
         semK Try.prog (Go.Builtin.append_ #[32, 32] 32 #[(.slice A20 k21 k22), (.slice (some ⟨k61, 0, none⟩) 1 1)]) M62 (fun v63 M64 =>
         exSl (some v63) fun A65 k66 k67 =>
         J53 [(.slice A65 k66 k67), (.slice A58 k59 k60)] M64) Kp) Kp)
        (J53 [(.slice A20 k21 k22), (.slice A23 k24 k25)] M49)) ∧
      ∀ junk68 : Nat → Value, ∀ A69 : Option Addr, ∀ k70 : Nat, ∀ k71 : Nat, ∀ A72 : Option Addr, ∀ k73 : Nat, ∀ k74 : Nat, ∀ M75 : Mem, (J53 [(.slice A69 k70 k71), (.slice A72 k73 k74)] M75) → ∃ k76 : Nat, (k76 < k18) ∧
      I16 k76 [(.slice A69 k70 k71), (.slice A72 k73 k74), (.int .i64 (IntKind.wrap .i64 (n26 + 1)))] M75) Kp) Kp)
     ((((if (6 : Int) < ((m0 : Nat) : Int) then 6 else ((m0 : Nat) : Int)) : Int) ≠ 0) ∧
      nwc M27 (.cells #[(.int .i64 11), (.int .i64 1), (.int .i64 1), (.int .i64 6), (.int .i64 16), (.int .i64 0), (.int .i64 (if (6 : Int) < ((m0 : Nat) : Int) then 6 else ((m0 : Nat) : Int))), (.int .i64 3), (.int .i64 12), (.int .i64 0), (.int .i64 0), (.int .i64 0)] 31 (0, 0)) fun k77 M78 =>
      semK Try.prog (Go.Builtin.append_ #[32, 32] 32 #[(.slice A20 k21 k22), (.slice (some ⟨k77, 0, none⟩) 3 3)]) M78 (fun v79 M80 =>
      exSl (some v79) fun A81 k82 k83 =>
      nwc M80 (.cells #[(.int .i64 13), (.int .i64 (Int.tmod (IntKind.wrap .i64 (((Nat.bitwise and (BitVec.ofInt IntKind.i64.bits x2).toNat (BitVec.ofInt IntKind.i64.bits 255).toNat) : Nat) : Int)) (if (6 : Int) < ((m0 : Nat) : Int) then 6 else ((m0 : Nat) : Int)))), (.int .i64 0), (.int .i64 0), (.int .i64 10), (.int .i64 0), (.int .i64 0), (.int .i64 0)] 31 (0, 0)) fun k84 M85 =>
      nwc M85 (.cells #[(.slice A81 k82 k83), (.slice (some ⟨k84, 0, none⟩) 2 2)] 32 (0, 0)) fun k86 M87 =>
      stc M87 ⟨k6, 0, none⟩ (.slice (some ⟨k86, 0, none⟩) 2 2) fun M88 =>
      exSl (Mem.ld M88 ⟨k6, 0, none⟩) fun A89 k90 k91 =>
      exSl (Mem.ld M88 ⟨k6, (0 + 1), none⟩) fun A92 k93 k94 =>
      exI (Mem.ld M88 ⟨k6, (0 + 2), none⟩) .i64 fun n95 =>
      exSl (Mem.ld M88 ⟨k6, (0 + 3), none⟩) fun A96 k97 k98 =>
      ACalls Try.prog 7 #[(.agg #[(.slice A89 k90 k91), (.slice A92 k93 k94), (.int .i64 n95), (.slice A96 k97 k98)])] M88 (fun v99 M100 =>
      exP (some v99) fun A101 =>
      exI (Mem.ld M100 ⟨k1, 0, none⟩) .i64 fun n102 =>
      stc M100 ⟨k1, 0, none⟩ (.int .i64 (IntKind.wrap .i64 (((Nat.bitwise and (BitVec.ofInt IntKind.i64.bits n102).toNat (BitVec.ofInt IntKind.i64.bits 255).toNat) : Nat) : Int))) fun M103 =>
      nwc M103 (.cells #[(.int .i64 0)] 3 (0, 0)) fun k104 M105 =>
      stc M105 ⟨k104, 0, none⟩ (.int .i64 0) fun M106 =>
      ∃ I107 : Nat → List Value → Mem → Prop, (∃ k108 : Nat, I107 k108 [(.int .i64 0)] M106) ∧
      ∀ k109 : Nat, ∀ junk110 : Nat → Value, ∀ n111 : Int, ∀ M112 : Mem, (I107 k109 [(.int .i64 n111)] M112) → bsp (decide ((n111 : Int) < (IntKind.wrap .i64 (((k82 : Nat) : Int) - 1))))
       (ACalls Try.prog 9 #[(.pointer A101), (.int .i64 0), (.func (.func 8) #[] #[(.pointer (some ⟨k104, 0, none⟩)), (.pointer (some ⟨k1, 0, none⟩))])] M112 (fun v113 M114 =>
        ∃ t115 : Bool, ∃ A116 : Option Addr, ∃ k117 : Nat, ∃ k118 : Nat, (v113 = (.agg #[(.bool t115), (.slice A116 k117 k118)])) ∧
        ∃ k119 : Nat, (k119 < k109) ∧
        I107 k119 [(.int .i64 (IntKind.wrap .i64 (n111 + 1)))] M114) Kp)
       (bsp (decide ((((k24 : Nat) : Int) : Int) > 0))
         (ACalls Try.prog 10 #[(.pointer A101), (.int .i64 0)] M112 (fun v120 M121 =>
          exSl (some v120) fun A122 k123 k124 =>
          ACalls Try.prog 11 #[(.slice A122 k123 k124)] M121 (fun v125 M126 =>
          exP (some v125) fun A127 =>
          exI (Mem.ld M126 ⟨k1, 0, none⟩) .i64 fun n128 =>
          ((((k24 : Nat) : Int) : Int) ≠ 0) ∧
          ((0 : Int) ≤ (Int.tmod n128 ((k24 : Nat) : Int))) ∧
          (((Int.tmod n128 ((k24 : Nat) : Int)) : Int) < ((k24 : Nat) : Int)) ∧
          nilc A23 fun k129 k130 =>
          exI (Mem.ld M126 ⟨k129, (k130 + (Int.toNat (Int.tmod n128 ((k24 : Nat) : Int)))), none⟩) .i64 fun n131 =>
          ∃ I132 : Nat → List Value → Mem → Prop, (∃ k133 : Nat, I132 k133 [(.int .i64 0)] M126) ∧
          ∀ k134 : Nat, ∀ junk135 : Nat → Value, ∀ n136 : Int, ∀ M137 : Mem, (I132 k134 [(.int .i64 n136)] M137) → bsp (decide ((n136 : Int) < (if (6 : Int) < ((m0 : Nat) : Int) then 6 else ((m0 : Nat) : Int))))
           (ACalls Try.prog 12 #[(.pointer A101), (.int .i64 n136)] M137 (fun v138 M139 =>
            ∃ A140 : Option Addr, ∃ k141 : Nat, ∃ k142 : Nat, ∃ A143 : Option Addr, ∃ k144 : Nat, ∃ k145 : Nat, ∃ A146 : Option Addr, ∃ k147 : Nat, ∃ k148 : Nat, ∃ t149 : Bool, (v138 = (.agg #[(.slice A140 k141 k142), (.slice A143 k144 k145), (.slice A146 k147 k148), (.bool t149)])) ∧
            ((0 : Int) ≤ n136) ∧
            ((n136 : Int) < ((m0 : Nat) : Int)) ∧
            nilc B0 fun k150 k151 =>
            exB (Mem.ld M139 ⟨k150, (k151 + (Int.toNat n136)), none⟩) fun t152 =>
            bsp t152
             (bsp (!((((k141 : Nat) : Int) == 1) == (n136 != n131)))
               (K (.bool false) M139)
               (∃ k153 : Nat, (k153 < k134) ∧
                I132 k153 [(.int .i64 (IntKind.wrap .i64 (n136 + 1)))] M139))
             (bsp (!((((k141 : Nat) : Int) == 1) == false))
               (K (.bool false) M139)
               (∃ k154 : Nat, (k154 < k134) ∧
                I132 k154 [(.int .i64 (IntKind.wrap .i64 (n136 + 1)))] M139))) Kp)
           (exI (Mem.ld M137 ⟨k104, 0, none⟩) .i64 fun n155 =>
            bsp (n155 == ((k24 : Nat) : Int))
             (nilc A127 fun k156 k157 =>
              ((0 : Int) ≤ 2) ∧
              ((2 : Int) < 8) ∧
              exI (Mem.ld M137 ⟨k156, ((k157 + 2) + 2), none⟩) .i64 fun n158 =>
              bsp (n158 == 5)
               (nilc A127 fun k159 k160 =>
                ((0 : Int) ≤ 3) ∧
                ((3 : Int) < 8) ∧
                exI (Mem.ld M137 ⟨k159, ((k160 + 2) + 3), none⟩) .i64 fun n161 =>
                bsp (n161 == n131)
                 (ACalls Try.prog 13 #[(.pointer A101), (.int .i64 0)] M137 (fun v162 M163 =>
                  exI (some v162) .i64 fun n164 =>
                  K (.bool (n164 == 1)) M163) Kp)
                 (K (.bool false) M137))
               (K (.bool false) M137))
             (K (.bool false) M137))) Kp) Kp)
         (exI (Mem.ld M112 ⟨k104, 0, none⟩) .i64 fun n165 =>
          bsp (n165 != 0)
           (K (.bool false) M112)
           (ACalls Try.prog 13 #[(.pointer A101), (.int .i64 0)] M112 (fun v166 M167 =>
            exI (some v166) .i64 fun n168 =>
            bsp (n168 != 2)
             (K (.bool false) M167)
             (ACalls Try.prog 9 #[(.pointer A101), (.int .i64 1), (.func (.func 8) #[] #[(.pointer (some ⟨k104, 0, none⟩)), (.pointer (some ⟨k1, 0, none⟩))])] M167 (fun v169 M170 =>
              ∃ t171 : Bool, ∃ A172 : Option Addr, ∃ k173 : Nat, ∃ k174 : Nat, (v169 = (.agg #[(.bool t171), (.slice A172 k173 k174)])) ∧
              nwc M170 (.cells #[(.bool false), (.slice none 0 0)] 39 (0, 0)) fun k175 M176 =>
              stc M176 ⟨k175, 0, none⟩ (.bool t171) fun M177 =>
              stc M177 ⟨k175, (0 + 1), none⟩ (.slice A172 k173 k174) fun M178 =>
              ACalls Try.prog 10 #[(.pointer A101), (.int .i64 0)] M178 (fun v179 M180 =>
              exSl (some v179) fun A181 k182 k183 =>
              ACalls Try.prog 11 #[(.slice A181 k182 k183)] M180 (fun v184 M185 =>
              exP (some v184) fun A186 =>
              ∃ I187 : Nat → List Value → Mem → Prop, (∃ k188 : Nat, I187 k188 [(.int .i64 0)] M185) ∧
              ∀ k189 : Nat, ∀ junk190 : Nat → Value, ∀ n191 : Int, ∀ M192 : Mem, (I187 k189 [(.int .i64 n191)] M192) → bsp (decide ((n191 : Int) < (if (6 : Int) < ((m0 : Nat) : Int) then 6 else ((m0 : Nat) : Int))))
               (ACalls Try.prog 12 #[(.pointer A101), (.int .i64 n191)] M192 (fun v193 M194 =>
                ∃ A195 : Option Addr, ∃ k196 : Nat, ∃ k197 : Nat, ∃ A198 : Option Addr, ∃ k199 : Nat, ∃ k200 : Nat, ∃ A201 : Option Addr, ∃ k202 : Nat, ∃ k203 : Nat, ∃ t204 : Bool, (v193 = (.agg #[(.slice A195 k196 k197), (.slice A198 k199 k200), (.slice A201 k202 k203), (.bool t204)])) ∧
                nwc M194 (.cells #[(.slice none 0 0), (.slice none 0 0), (.slice none 0 0), (.bool false)] 49 (0, 0)) fun k205 M206 =>
                stc M206 ⟨k205, 0, none⟩ (.slice A195 k196 k197) fun M207 =>
                stc M207 ⟨k205, (0 + 1), none⟩ (.slice A198 k199 k200) fun M208 =>
                stc M208 ⟨k205, (0 + 2), none⟩ (.slice A201 k202 k203) fun M209 =>
                stc M209 ⟨k205, (0 + 3), none⟩ (.bool t204) fun M210 =>
                exSl (Mem.ld M210 ⟨k205, (0 + 2), none⟩) fun A211 k212 k213 =>
                bsp (((k212 : Nat) : Int) != 0)
                 (K (.bool false) M210)
                 (exSl (Mem.ld M210 ⟨k205, 0, none⟩) fun A214 k215 k216 =>
                  bsp (((k215 : Nat) : Int) != 0)
                   (K (.bool false) M210)
                   (∃ k217 : Nat, (k217 < k189) ∧
                    I187 k217 [(.int .i64 (IntKind.wrap .i64 (n191 + 1)))] M210))) Kp)
               (exSl (Mem.ld M192 ⟨k175, (0 + 1), none⟩) fun A218 k219 k220 =>
                bsp (((k219 : Nat) : Int) == 1)
                 (exSl (Mem.ld M192 ⟨k175, (0 + 1), none⟩) fun A221 k222 k223 =>
                  ((0 : Int) ≤ 0) ∧
                  ((0 : Int) < ((k222 : Nat) : Int)) ∧
                  nilc A221 fun k224 k225 =>
                  exI (Mem.ld M192 ⟨k224, (k225 + 0), none⟩) .i64 fun n226 =>
                  bsp (n226 == 0)
                   (nilc A186 fun k227 k228 =>
                    ((0 : Int) ≤ 2) ∧
                    ((2 : Int) < 8) ∧
                    exI (Mem.ld M192 ⟨k227, ((k228 + 2) + 2), none⟩) .i64 fun n229 =>
                    bsp (n229 == 5)
                     (nilc A186 fun k230 k231 =>
                      ((0 : Int) ≤ 3) ∧
                      ((3 : Int) < 8) ∧
                      exI (Mem.ld M192 ⟨k230, ((k231 + 2) + 3), none⟩) .i64 fun n232 =>
                      bsp (n232 == (Int.tmod (IntKind.wrap .i64 (((Nat.bitwise and (BitVec.ofInt IntKind.i64.bits x2).toNat (BitVec.ofInt IntKind.i64.bits 255).toNat) : Nat) : Int)) (if (6 : Int) < ((m0 : Nat) : Int) then 6 else ((m0 : Nat) : Int))))
                       (ACalls Try.prog 13 #[(.pointer A101), (.int .i64 0)] M192 (fun v233 M234 =>
                        exI (some v233) .i64 fun n235 =>
                        K (.bool (n235 == 1)) M234) Kp)
                       (K (.bool false) M192))
                     (K (.bool false) M192))
                   (K (.bool false) M192))
                 (K (.bool false) M192))) Kp) Kp) Kp)) Kp)))) Kp) Kp)))) Kp) :
  ACalls Try.prog 3 ([.slice B0 m0 c0, .int .i64 x1, .int .i64 x2] : List Value).toArray M K Kp :=
  acalls_vc (C := Cx) good [(2000000, .loop [(9, .c .sl), (10, .c .sl), (35, .c (.int .i64))]), (3000053, .cut [(9, .c .sl), (10, .c .sl)]), (2000002, .loop [(90, .c (.int .i64))]), (2000004, .loop [(110, .c (.int .i64))]), (2000006, .loop [(171, .c (.int .i64))])] Try.func3 (by kernel_rfl) (by kernel_rfl) h

end Go.Proofs
