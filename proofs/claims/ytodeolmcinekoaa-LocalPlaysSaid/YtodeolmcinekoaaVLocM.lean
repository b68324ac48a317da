/- A part of proofs about functions of one program: a condition over a partial memory that is enough for a call, and what calls answer by it. No condition of its own. -/
import Derived.Test.YtodeolmcinekoaaCx
namespace Go.Proofs
open Go.AF
set_option linter.unusedVariables false
set_option maxRecDepth 100000
theorem vcm_shunterlaw08_made {x0_0 : Int} {x0_1 : Int} {x0_2 : Int} {x0_3 : Int} {M : Mem} {K : Value → Mem → Prop} {Kp : List PanicEntry → Mem → Prop} (h :
nwc M (.cells #[(.int .i64 x0_0), (.int .i64 x0_1), (.int .i64 x0_2), (.int .i64 x0_3)] 129 (0, 0)) fun k1 M2 =>
nwc M2 (.cells #[(.slice none 0 0)] 104 (0, 0)) fun k3 M4 =>
nwc M4 (.cells #[(.slice none 0 0), (.pointer (some ⟨k3, 0, none⟩)), (.slice none 0 0), (.slice none 0 0), (.int .i64 0), (.slice none 0 0)] 140 (0, 0)) fun k5 M6 =>
exI (Mem.ld M6 ⟨k1, 0, none⟩) .i64 fun n7 =>
exI (Mem.ld M6 ⟨k1, (0 + 1), none⟩) .i64 fun n8 =>
exI (Mem.ld M6 ⟨k1, (0 + 2), none⟩) .i64 fun n9 =>
exI (Mem.ld M6 ⟨k1, (0 + 3), none⟩) .i64 fun n10 =>
∃ I11 : Nat → List Value → Mem → Prop, (∃ k12 : Nat, I11 k12 [(.int .i64 0)] M6) ∧
∀ k13 : Nat, ∀ junk14 : Nat → Value, ∀ n15 : Int, ∀ M16 : Mem, (I11 k13 [(.int .i64 n15)] M16) → bsp (decide ((n15 : Int) < 4))
 (((0 : Int) ≤ n15) ∧
  ((n15 : Int) < 4) ∧
  exI (Decidable.rec (fun h => (fun h => none) h)
  (fun h =>
    (fun h =>
        some
          #[Value.int IntKind.i64 n7, Value.int IntKind.i64 n8, Value.int IntKind.i64 n9,
              Value.int IntKind.i64 n10][n15.toNat])
      h)
  (n15.toNat.decLt
    #[Value.int IntKind.i64 n7, Value.int IntKind.i64 n8, Value.int IntKind.i64 n9, Value.int IntKind.i64 n10].size)) .i64 fun n17 =>
  ∃ J18 : List Value → Mem → Prop, ((exSl (Mem.ld M16 ⟨k5, 0, none⟩) fun A19 k20 k21 =>
    (ACalls Try.prog 56 #[(.int .i64 n17)] M16 (fun v22 M23 =>
     exP (some v22) fun A24 =>
     (nwc M23 (.cells #[(.pointer A24)] 101 (0, 0)) fun k25 M26 =>
      (semK Try.prog (Go.Builtin.append_ #[137, 137] 137 #[(.slice A19 k20 k21), (.slice (some ⟨k25, 0, none⟩) 1 1)]) M26 (fun v27 M28 =>
       exSl (some v27) fun A29 k30 k31 =>
       (exSl (Mem.ld M28 ⟨k5, (0 + 2), none⟩) fun A32 k33 k34 =>
        ACalls Try.prog 95 #[(.int .i64 n17)] M28 (fun v35 M36 =>
        ∃ n37 : Int, ∃ A38 : Option Addr, ∃ k39 : Nat, ∃ k40 : Nat, ∃ n41 : Int, (v35 = (.agg #[(.int .i64 n37), (.slice A38 k39 k40), (.int .i64 n41)])) ∧
        nwc M36 (.cells #[(.int .i64 n37), (.slice A38 k39 k40), (.int .i64 n41)] 172 (0, 0)) fun k42 M43 =>
        semK Try.prog (Go.Builtin.append_ #[138, 138] 138 #[(.slice A32 k33 k34), (.slice (some ⟨k42, 0, none⟩) 1 1)]) M43 (fun v44 M45 =>
        exSl (some v44) fun A46 k47 k48 =>
        stc M45 ⟨k5, 0, none⟩ (.slice A29 k30 k31) fun M49 =>
        stc M49 ⟨k5, (0 + 2), none⟩ (.slice A46 k47 k48) fun M50 =>
        J18 [] M50) Kp) Kp) ∧
       (ACalls Try.prog 95 #[(.int .i64 n17)] M28 (fun v51 M52 =>
        ∃ n53 : Int, ∃ A54 : Option Addr, ∃ k55 : Nat, ∃ k56 : Nat, ∃ n57 : Int, (v51 = (.agg #[(.int .i64 n53), (.slice A54 k55 k56), (.int .i64 n57)])) ∧
        exSl (Mem.ld M52 ⟨k5, (0 + 2), none⟩) fun A58 k59 k60 =>
        nwc M52 (.cells #[(.int .i64 n53), (.slice A54 k55 k56), (.int .i64 n57)] 172 (0, 0)) fun k61 M62 =>
        semK Try.prog (Go.Builtin.append_ #[138, 138] 138 #[(.slice A58 k59 k60), (.slice (some ⟨k61, 0, none⟩) 1 1)]) M62 (fun v63 M64 =>
        exSl (some v63) fun A65 k66 k67 =>
        stc M64 ⟨k5, 0, none⟩ (.slice A29 k30 k31) fun M68 =>
        stc M68 ⟨k5, (0 + 2), none⟩ (.slice A65 k66 k67) fun M69 =>
        J18 [] M69) Kp) Kp) ∧
       True) Kp) ∧
      (exSl (Mem.ld M26 ⟨k5, (0 + 2), none⟩) fun A70 k71 k72 =>
       semK Try.prog (Go.Builtin.append_ #[137, 137] 137 #[(.slice A19 k20 k21), (.slice (some ⟨k25, 0, none⟩) 1 1)]) M26 (fun v73 M74 =>
       exSl (some v73) fun A75 k76 k77 =>
       ACalls Try.prog 95 #[(.int .i64 n17)] M74 (fun v78 M79 =>
       ∃ n80 : Int, ∃ A81 : Option Addr, ∃ k82 : Nat, ∃ k83 : Nat, ∃ n84 : Int, (v78 = (.agg #[(.int .i64 n80), (.slice A81 k82 k83), (.int .i64 n84)])) ∧
       nwc M79 (.cells #[(.int .i64 n80), (.slice A81 k82 k83), (.int .i64 n84)] 172 (0, 0)) fun k85 M86 =>
       semK Try.prog (Go.Builtin.append_ #[138, 138] 138 #[(.slice A70 k71 k72), (.slice (some ⟨k85, 0, none⟩) 1 1)]) M86 (fun v87 M88 =>
       exSl (some v87) fun A89 k90 k91 =>
       stc M88 ⟨k5, 0, none⟩ (.slice A75 k76 k77) fun M92 =>
       stc M92 ⟨k5, (0 + 2), none⟩ (.slice A89 k90 k91) fun M93 =>
       J18 [] M93) Kp) Kp) Kp) ∧
      True) ∧
     (exSl (Mem.ld M23 ⟨k5, (0 + 2), none⟩) fun A94 k95 k96 =>
      nwc M23 (.cells #[(.pointer A24)] 101 (0, 0)) fun k97 M98 =>
      semK Try.prog (Go.Builtin.append_ #[137, 137] 137 #[(.slice A19 k20 k21), (.slice (some ⟨k97, 0, none⟩) 1 1)]) M98 (fun v99 M100 =>
      exSl (some v99) fun A101 k102 k103 =>
      ACalls Try.prog 95 #[(.int .i64 n17)] M100 (fun v104 M105 =>
      ∃ n106 : Int, ∃ A107 : Option Addr, ∃ k108 : Nat, ∃ k109 : Nat, ∃ n110 : Int, (v104 = (.agg #[(.int .i64 n106), (.slice A107 k108 k109), (.int .i64 n110)])) ∧
      nwc M105 (.cells #[(.int .i64 n106), (.slice A107 k108 k109), (.int .i64 n110)] 172 (0, 0)) fun k111 M112 =>
      semK Try.prog (Go.Builtin.append_ #[138, 138] 138 #[(.slice A94 k95 k96), (.slice (some ⟨k111, 0, none⟩) 1 1)]) M112 (fun v113 M114 =>
      exSl (some v113) fun A115 k116 k117 =>
      stc M114 ⟨k5, 0, none⟩ (.slice A101 k102 k103) fun M118 =>
      stc M118 ⟨k5, (0 + 2), none⟩ (.slice A115 k116 k117) fun M119 =>
      J18 [] M119) Kp) Kp) Kp) ∧
     True) Kp) ∧
    (exSl (Mem.ld M16 ⟨k5, (0 + 2), none⟩) fun A120 k121 k122 =>
     ACalls Try.prog 56 #[(.int .i64 n17)] M16 (fun v123 M124 =>
     exP (some v123) fun A125 =>
     nwc M124 (.cells #[(.pointer A125)] 101 (0, 0)) fun k126 M127 =>
     semK Try.prog (Go.Builtin.append_ #[137, 137] 137 #[(.slice A19 k20 k21), (.slice (some ⟨k126, 0, none⟩) 1 1)]) M127 (fun v128 M129 =>
     exSl (some v128) fun A130 k131 k132 =>
     ACalls Try.prog 95 #[(.int .i64 n17)] M129 (fun v133 M134 =>
     ∃ n135 : Int, ∃ A136 : Option Addr, ∃ k137 : Nat, ∃ k138 : Nat, ∃ n139 : Int, (v133 = (.agg #[(.int .i64 n135), (.slice A136 k137 k138), (.int .i64 n139)])) ∧
     nwc M134 (.cells #[(.int .i64 n135), (.slice A136 k137 k138), (.int .i64 n139)] 172 (0, 0)) fun k140 M141 =>
     semK Try.prog (Go.Builtin.append_ #[138, 138] 138 #[(.slice A120 k121 k122), (.slice (some ⟨k140, 0, none⟩) 1 1)]) M141 (fun v142 M143 =>
     exSl (some v142) fun A144 k145 k146 =>
     stc M143 ⟨k5, 0, none⟩ (.slice A130 k131 k132) fun M147 =>
     stc M147 ⟨k5, (0 + 2), none⟩ (.slice A144 k145 k146) fun M148 =>
     J18 [] M148) Kp) Kp) Kp) Kp) ∧
    True) ∧
   (ACalls Try.prog 56 #[(.int .i64 n17)] M16 (fun v149 M150 =>
    exP (some v149) fun A151 =>
    exSl (Mem.ld M150 ⟨k5, 0, none⟩) fun A152 k153 k154 =>
    (nwc M150 (.cells #[(.pointer A151)] 101 (0, 0)) fun k155 M156 =>
     (semK Try.prog (Go.Builtin.append_ #[137, 137] 137 #[(.slice A152 k153 k154), (.slice (some ⟨k155, 0, none⟩) 1 1)]) M156 (fun v157 M158 =>
      exSl (some v157) fun A159 k160 k161 =>
      (exSl (Mem.ld M158 ⟨k5, (0 + 2), none⟩) fun A162 k163 k164 =>
       ACalls Try.prog 95 #[(.int .i64 n17)] M158 (fun v165 M166 =>
       ∃ n167 : Int, ∃ A168 : Option Addr, ∃ k169 : Nat, ∃ k170 : Nat, ∃ n171 : Int, (v165 = (.agg #[(.int .i64 n167), (.slice A168 k169 k170), (.int .i64 n171)])) ∧
       nwc M166 (.cells #[(.int .i64 n167), (.slice A168 k169 k170), (.int .i64 n171)] 172 (0, 0)) fun k172 M173 =>
       semK Try.prog (Go.Builtin.append_ #[138, 138] 138 #[(.slice A162 k163 k164), (.slice (some ⟨k172, 0, none⟩) 1 1)]) M173 (fun v174 M175 =>
       exSl (some v174) fun A176 k177 k178 =>
       stc M175 ⟨k5, 0, none⟩ (.slice A159 k160 k161) fun M179 =>
       stc M179 ⟨k5, (0 + 2), none⟩ (.slice A176 k177 k178) fun M180 =>
       J18 [] M180) Kp) Kp) ∧
      (ACalls Try.prog 95 #[(.int .i64 n17)] M158 (fun v181 M182 =>
       ∃ n183 : Int, ∃ A184 : Option Addr, ∃ k185 : Nat, ∃ k186 : Nat, ∃ n187 : Int, (v181 = (.agg #[(.int .i64 n183), (.slice A184 k185 k186), (.int .i64 n187)])) ∧
       exSl (Mem.ld M182 ⟨k5, (0 + 2), none⟩) fun A188 k189 k190 =>
       nwc M182 (.cells #[(.int .i64 n183), (.slice A184 k185 k186), (.int .i64 n187)] 172 (0, 0)) fun k191 M192 =>
       semK Try.prog (Go.Builtin.append_ #[138, 138] 138 #[(.slice A188 k189 k190), (.slice (some ⟨k191, 0, none⟩) 1 1)]) M192 (fun v193 M194 =>
       exSl (some v193) fun A195 k196 k197 =>
       stc M194 ⟨k5, 0, none⟩ (.slice A159 k160 k161) fun M198 =>
       stc M198 ⟨k5, (0 + 2), none⟩ (.slice A195 k196 k197) fun M199 =>
       J18 [] M199) Kp) Kp) ∧
      True) Kp) ∧
     (exSl (Mem.ld M156 ⟨k5, (0 + 2), none⟩) fun A200 k201 k202 =>
      semK Try.prog (Go.Builtin.append_ #[137, 137] 137 #[(.slice A152 k153 k154), (.slice (some ⟨k155, 0, none⟩) 1 1)]) M156 (fun v203 M204 =>
      exSl (some v203) fun A205 k206 k207 =>
      ACalls Try.prog 95 #[(.int .i64 n17)] M204 (fun v208 M209 =>
      ∃ n210 : Int, ∃ A211 : Option Addr, ∃ k212 : Nat, ∃ k213 : Nat, ∃ n214 : Int, (v208 = (.agg #[(.int .i64 n210), (.slice A211 k212 k213), (.int .i64 n214)])) ∧
      nwc M209 (.cells #[(.int .i64 n210), (.slice A211 k212 k213), (.int .i64 n214)] 172 (0, 0)) fun k215 M216 =>
      semK Try.prog (Go.Builtin.append_ #[138, 138] 138 #[(.slice A200 k201 k202), (.slice (some ⟨k215, 0, none⟩) 1 1)]) M216 (fun v217 M218 =>
      exSl (some v217) fun A219 k220 k221 =>
      stc M218 ⟨k5, 0, none⟩ (.slice A205 k206 k207) fun M222 =>
      stc M222 ⟨k5, (0 + 2), none⟩ (.slice A219 k220 k221) fun M223 =>
      J18 [] M223) Kp) Kp) Kp) ∧
     True) ∧
    (exSl (Mem.ld M150 ⟨k5, (0 + 2), none⟩) fun A224 k225 k226 =>
     nwc M150 (.cells #[(.pointer A151)] 101 (0, 0)) fun k227 M228 =>
     semK Try.prog (Go.Builtin.append_ #[137, 137] 137 #[(.slice A152 k153 k154), (.slice (some ⟨k227, 0, none⟩) 1 1)]) M228 (fun v229 M230 =>
     exSl (some v229) fun A231 k232 k233 =>
     ACalls Try.prog 95 #[(.int .i64 n17)] M230 (fun v234 M235 =>
     ∃ n236 : Int, ∃ A237 : Option Addr, ∃ k238 : Nat, ∃ k239 : Nat, ∃ n240 : Int, (v234 = (.agg #[(.int .i64 n236), (.slice A237 k238 k239), (.int .i64 n240)])) ∧
     nwc M235 (.cells #[(.int .i64 n236), (.slice A237 k238 k239), (.int .i64 n240)] 172 (0, 0)) fun k241 M242 =>
     semK Try.prog (Go.Builtin.append_ #[138, 138] 138 #[(.slice A224 k225 k226), (.slice (some ⟨k241, 0, none⟩) 1 1)]) M242 (fun v243 M244 =>
     exSl (some v243) fun A245 k246 k247 =>
     stc M244 ⟨k5, 0, none⟩ (.slice A231 k232 k233) fun M248 =>
     stc M248 ⟨k5, (0 + 2), none⟩ (.slice A245 k246 k247) fun M249 =>
     J18 [] M249) Kp) Kp) Kp) ∧
    True) Kp) ∧
   (exSl (Mem.ld M16 ⟨k5, (0 + 2), none⟩) fun A250 k251 k252 =>
    (exSl (Mem.ld M16 ⟨k5, 0, none⟩) fun A253 k254 k255 =>
     ACalls Try.prog 56 #[(.int .i64 n17)] M16 (fun v256 M257 =>
     exP (some v256) fun A258 =>
     nwc M257 (.cells #[(.pointer A258)] 101 (0, 0)) fun k259 M260 =>
     semK Try.prog (Go.Builtin.append_ #[137, 137] 137 #[(.slice A253 k254 k255), (.slice (some ⟨k259, 0, none⟩) 1 1)]) M260 (fun v261 M262 =>
     exSl (some v261) fun A263 k264 k265 =>
     ACalls Try.prog 95 #[(.int .i64 n17)] M262 (fun v266 M267 =>
     ∃ n268 : Int, ∃ A269 : Option Addr, ∃ k270 : Nat, ∃ k271 : Nat, ∃ n272 : Int, (v266 = (.agg #[(.int .i64 n268), (.slice A269 k270 k271), (.int .i64 n272)])) ∧
     nwc M267 (.cells #[(.int .i64 n268), (.slice A269 k270 k271), (.int .i64 n272)] 172 (0, 0)) fun k273 M274 =>
     semK Try.prog (Go.Builtin.append_ #[138, 138] 138 #[(.slice A250 k251 k252), (.slice (some ⟨k273, 0, none⟩) 1 1)]) M274 (fun v275 M276 =>
     exSl (some v275) fun A277 k278 k279 =>
     stc M276 ⟨k5, 0, none⟩ (.slice A263 k264 k265) fun M280 =>
     stc M280 ⟨k5, (0 + 2), none⟩ (.slice A277 k278 k279) fun M281 =>
     J18 [] M281) Kp) Kp) Kp) Kp) ∧
    (ACalls Try.prog 56 #[(.int .i64 n17)] M16 (fun v282 M283 =>
     exP (some v282) fun A284 =>
     exSl (Mem.ld M283 ⟨k5, 0, none⟩) fun A285 k286 k287 =>
     nwc M283 (.cells #[(.pointer A284)] 101 (0, 0)) fun k288 M289 =>
     semK Try.prog (Go.Builtin.append_ #[137, 137] 137 #[(.slice A285 k286 k287), (.slice (some ⟨k288, 0, none⟩) 1 1)]) M289 (fun v290 M291 =>
     exSl (some v290) fun A292 k293 k294 =>
     ACalls Try.prog 95 #[(.int .i64 n17)] M291 (fun v295 M296 =>
     ∃ n297 : Int, ∃ A298 : Option Addr, ∃ k299 : Nat, ∃ k300 : Nat, ∃ n301 : Int, (v295 = (.agg #[(.int .i64 n297), (.slice A298 k299 k300), (.int .i64 n301)])) ∧
     nwc M296 (.cells #[(.int .i64 n297), (.slice A298 k299 k300), (.int .i64 n301)] 172 (0, 0)) fun k302 M303 =>
     semK Try.prog (Go.Builtin.append_ #[138, 138] 138 #[(.slice A250 k251 k252), (.slice (some ⟨k302, 0, none⟩) 1 1)]) M303 (fun v304 M305 =>
     exSl (some v304) fun A306 k307 k308 =>
     stc M305 ⟨k5, 0, none⟩ (.slice A292 k293 k294) fun M309 =>
     stc M309 ⟨k5, (0 + 2), none⟩ (.slice A306 k307 k308) fun M310 =>
     J18 [] M310) Kp) Kp) Kp) Kp) ∧
    True) ∧
   True) ∧
  ∀ junk311 : Nat → Value, ∀ M312 : Mem, (J18 [] M312) → ∃ k313 : Nat, (k313 < k13) ∧
  I11 k313 [(.int .i64 (IntKind.wrap .i64 (n15 + 1)))] M312)
 (K (.pointer (some ⟨k5, 0, none⟩)) M16)) :
  ACalls Try.prog 74 ([.agg #[.int .i64 x0_0, .int .i64 x0_1, .int .i64 x0_2, .int .i64 x0_3]] : List Value).toArray M K Kp :=
  acalls_vc (C := Cx) good [(2000000, .loop [(11, .c (.int .i64))]), (5, .regc [0, 0, 0, 4, 12, 28, 0, 64, 192, 508, 0, 1024, 3072, 7168, 0, 17404, 50172, 131068, 262141, 524285, 1048573, 2097151, 4194303, 8388607] (.step 0 (.step 1 (.step 2 (.step 3 (.step 4 (.step 6 (.step 10 (.step 11 (.step 12 (.step 14 (.fork 5 (.fork 7 (.fork 8 (.fork 9 (.fork 13 (.step 15 (.step 16 (.step 17 (.step 18 (.step 19 (.step 20 (.step 21 (.step 22 (.step 23 .done))))))))) (.fork 15 (.step 13 (.step 16 (.step 17 (.step 18 (.step 19 (.step 20 (.step 21 (.step 22 (.step 23 .done))))))))) .dead)) (.fork 13 (.step 9 (.step 15 (.step 16 (.step 17 (.step 18 (.step 19 (.step 20 (.step 21 (.step 22 (.step 23 .done)))))))))) .dead)) (.fork 13 (.step 8 (.step 9 (.step 15 (.step 16 (.step 17 (.step 18 (.step 19 (.step 20 (.step 21 (.step 22 (.step 23 .done))))))))))) .dead)) (.fork 13 (.step 7 (.step 8 (.step 9 (.step 15 (.step 16 (.step 17 (.step 18 (.step 19 (.step 20 (.step 21 (.step 22 (.step 23 .done)))))))))))) .dead)) (.fork 7 (.step 5 (.fork 8 (.fork 9 (.fork 13 (.step 15 (.step 16 (.step 17 (.step 18 (.step 19 (.step 20 (.step 21 (.step 22 (.step 23 .done))))))))) (.fork 15 (.step 13 (.step 16 (.step 17 (.step 18 (.step 19 (.step 20 (.step 21 (.step 22 (.step 23 .done))))))))) .dead)) (.fork 13 (.step 9 (.step 15 (.step 16 (.step 17 (.step 18 (.step 19 (.step 20 (.step 21 (.step 22 (.step 23 .done)))))))))) .dead)) (.fork 13 (.step 8 (.step 9 (.step 15 (.step 16 (.step 17 (.step 18 (.step 19 (.step 20 (.step 21 (.step 22 (.step 23 .done))))))))))) .dead))) (.fork 13 (.fork 5 (.step 7 (.step 8 (.step 9 (.step 15 (.step 16 (.step 17 (.step 18 (.step 19 (.step 20 (.step 21 (.step 22 (.step 23 .done)))))))))))) (.fork 7 (.step 5 (.step 8 (.step 9 (.step 15 (.step 16 (.step 17 (.step 18 (.step 19 (.step 20 (.step 21 (.step 22 (.step 23 .done)))))))))))) .dead)) .dead))))))))))))) [])] Try.func74 (by kernel_rfl) (by kernel_rfl) h

end Go.Proofs
