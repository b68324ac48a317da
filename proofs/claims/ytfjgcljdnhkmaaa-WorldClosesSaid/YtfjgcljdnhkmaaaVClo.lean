/- A part of proofs about functions of one program: a condition over a partial memory that is enough for a call, and what calls answer by it. No condition of its own. -/
import Derived.Test.YtfjgcljdnhkmaaaCx
namespace Go.Proofs
open Go.AF
set_option linter.unusedVariables false
set_option maxRecDepth 100000
theorem vc_shunterlaw16_WorldCloses {x0 : Int} {q1 : Bool} {M : Mem} {K : Value → Mem → Prop} {Kp : List PanicEntry → Mem → Prop} (h :
ACalls Try.prog 6 #[] M (fun v1 M2 =>
exB (some v1) fun t3 =>
bsp (!t3)
 (K (.bool false) M2)
 (((20 : Int) ≠ 0) ∧
  nwc M2 (.cells #[] 31 (0, 0)) fun k4 M5 =>
  ∃ I6 : Nat → List Value → Mem → Prop, (∃ k7 : Nat, I6 k7 [(.slice (some ⟨k4, 0, none⟩) 0 0), (.int .i64 0)] M5) ∧
  ∀ k8 : Nat, ∀ junk9 : Nat → Value, ∀ A10 : Option Addr, ∀ k11 : Nat, ∀ k12 : Nat, ∀ n13 : Int, ∀ M14 : Mem, (I6 k8 [(.slice A10 k11 k12), (.int .i64 n13)] M14) → bsp (decide ((n13 : Int) < (IntKind.wrap .i64 (1 + (Int.tmod (IntKind.wrap .i64 (((Nat.bitwise and (BitVec.ofInt IntKind.i64.bits x0).toNat (BitVec.ofInt IntKind.i64.bits 255).toNat) : Nat) : Int)) 20)))))
   (nwc M14 (.cells #[(.int .i64 11), (.int .i64 1), (.int .i64 0), (.int .i64 1)] 31 (0, 0)) fun k15 M16 =>
    semK Try.prog (Go.Builtin.append_ #[32, 32] 32 #[(.slice A10 k11 k12), (.slice (some ⟨k15, 0, none⟩) 1 1)]) M16 (fun v17 M18 =>
    exSl (some v17) fun A19 k20 k21 =>
    ∃ k22 : Nat, (k22 < k8) ∧
    I6 k22 [(.slice A19 k20 k21), (.int .i64 (IntKind.wrap .i64 (n13 + 1)))] M18) Kp)
   (∃ J23 : List Value → Mem → Prop, (bsp q1
      (nwc M14 (.cells #[(.int .i64 11), (.int .i64 2), (.int .i64 0), (.int .i64 1)] 31 (0, 0)) fun k24 M25 =>
       semK Try.prog (Go.Builtin.append_ #[32, 32] 32 #[(.slice A10 k11 k12), (.slice (some ⟨k24, 0, none⟩) 1 1)]) M25 (fun v26 M27 =>
       exSl (some v26) fun A28 k29 k30 =>
       J23 [(.slice A28 k29 k30)] M27) Kp)
      (J23 [(.slice A10 k11 k12)] M14)) ∧
    ∀ junk31 : Nat → Value, ∀ A32 : Option Addr, ∀ k33 : Nat, ∀ k34 : Nat, ∀ M35 : Mem, (J23 [(.slice A32 k33 k34)] M35) → nwc M35 (.cells #[(.int .i64 15), (.int .i64 0), (.int .i64 0), (.int .i64 0), (.int .i64 15), (.int .i64 1), (.int .i64 0), (.int .i64 0)] 31 (0, 0)) fun k36 M37 =>
    semK Try.prog (Go.Builtin.append_ #[32, 32] 32 #[(.slice A32 k33 k34), (.slice (some ⟨k36, 0, none⟩) 2 2)]) M37 (fun v38 M39 =>
    exSl (some v38) fun A40 k41 k42 =>
    nwc M39 (.cells #[(.int .i64 0), (.int .i64 0)] 3 (0, 0)) fun k43 M44 =>
    nwc M44 (.cells #[(.int .i64 1), (.int .i64 1), (.int .i64 7), (.int .i64 0), (.int .i64 1), (.int .i64 2), (.int .i64 7), (.int .i64 0), (.int .i64 14), (.int .i64 0), (.int .i64 1), (.int .i64 2)] 31 (0, 0)) fun k45 M46 =>
    nwc M46 (.cells #[(.int .i64 13), (.int .i64 1), (.int .i64 0), (.int .i64 0)] 31 (0, 0)) fun k47 M48 =>
    nwc M48 (.cells #[(.slice A40 k41 k42), (.slice (some ⟨k45, 0, none⟩) 3 3), (.slice (some ⟨k47, 0, none⟩) 1 1)] 32 (0, 0)) fun k49 M50 =>
    nwc M50 (.cells #[(.slice none 0 0), (.slice none 0 0), (.int .i64 0), (.slice none 0 0)] 28 (0, 0)) fun k51 M52 =>
    stc M52 ⟨k51, 0, none⟩ (.slice (some ⟨k49, 0, none⟩) 3 3) fun M53 =>
    stc M53 ⟨k51, (0 + 1), none⟩ (.slice (some ⟨k43, 0, none⟩) 2 2) fun M54 =>
    stc M54 ⟨k51, (0 + 2), none⟩ (.int .i64 0) fun M55 =>
    stc M55 ⟨k51, (0 + 3), none⟩ (.slice none 0 0) fun M56 =>
    exSl (Mem.ld M56 ⟨k51, 0, none⟩) fun A57 k58 k59 =>
    exSl (Mem.ld M56 ⟨k51, (0 + 1), none⟩) fun A60 k61 k62 =>
    exI (Mem.ld M56 ⟨k51, (0 + 2), none⟩) .i64 fun n63 =>
    exSl (Mem.ld M56 ⟨k51, (0 + 3), none⟩) fun A64 k65 k66 =>
    ACalls Try.prog 7 #[(.agg #[(.slice A57 k58 k59), (.slice A60 k61 k62), (.int .i64 n63), (.slice A64 k65 k66)])] M56 (fun v67 M68 =>
    exP (some v67) fun A69 =>
    ∃ I70 : Nat → List Value → Mem → Prop, (∃ k71 : Nat, I70 k71 [(.int .i64 0)] M68) ∧
    ∀ k72 : Nat, ∀ junk73 : Nat → Value, ∀ n74 : Int, ∀ M75 : Mem, (I70 k72 [(.int .i64 n74)] M75) → bsp (decide ((n74 : Int) < (IntKind.wrap .i64 (((k41 : Nat) : Int) - 2))))
     (ACalls Try.prog 9 #[(.pointer A69), (.int .i64 0), (.func (.func 14) #[] #[])] M75 (fun v76 M77 =>
      ∃ t78 : Bool, ∃ A79 : Option Addr, ∃ k80 : Nat, ∃ k81 : Nat, (v76 = (.agg #[(.bool t78), (.slice A79 k80 k81)])) ∧
      ∃ k82 : Nat, (k82 < k72) ∧
      I70 k82 [(.int .i64 (IntKind.wrap .i64 (n74 + 1)))] M77) Kp)
     (∃ I83 : Nat → List Value → Mem → Prop, (∃ k84 : Nat, I83 k84 [(.int .i64 1)] M75) ∧
      ∀ k85 : Nat, ∀ junk86 : Nat → Value, ∀ n87 : Int, ∀ M88 : Mem, (I83 k85 [(.int .i64 n87)] M88) → ACalls Try.prog 15 #[(.pointer A69)] M88 (fun v89 M90 =>
      exI (some v89) .i64 fun n91 =>
      bsp (decide ((n87 : Int) < n91))
       (∃ I92 : Nat → List Value → Mem → Prop, (∃ k93 : Nat, I92 k93 [(.int .i64 0)] M90) ∧
        ∀ k94 : Nat, ∀ junk95 : Nat → Value, ∀ n96 : Int, ∀ M97 : Mem, (I92 k94 [(.int .i64 n96)] M97) → bsp (decide ((n96 : Int) < 3))
         (ACalls Try.prog 9 #[(.pointer A69), (.int .i64 n87), (.func (.func 14) #[] #[])] M97 (fun v98 M99 =>
          ∃ t100 : Bool, ∃ A101 : Option Addr, ∃ k102 : Nat, ∃ k103 : Nat, (v98 = (.agg #[(.bool t100), (.slice A101 k102 k103)])) ∧
          ∃ k104 : Nat, (k104 < k94) ∧
          I92 k104 [(.int .i64 (IntKind.wrap .i64 (n96 + 1)))] M99) Kp)
         (∃ k105 : Nat, (k105 < k85) ∧
          I83 k105 [(.int .i64 (IntKind.wrap .i64 (n87 + 1)))] M97))
       (ACalls Try.prog 9 #[(.pointer A69), (.int .i64 0), (.func (.func 14) #[] #[])] M90 (fun v106 M107 =>
        ∃ t108 : Bool, ∃ A109 : Option Addr, ∃ k110 : Nat, ∃ k111 : Nat, (v106 = (.agg #[(.bool t108), (.slice A109 k110 k111)])) ∧
        nwc M107 (.cells #[(.bool false), (.slice none 0 0)] 39 (0, 0)) fun k112 M113 =>
        stc M113 ⟨k112, 0, none⟩ (.bool t108) fun M114 =>
        stc M114 ⟨k112, (0 + 1), none⟩ (.slice A109 k110 k111) fun M115 =>
        exSl (Mem.ld M115 ⟨k112, (0 + 1), none⟩) fun A116 k117 k118 =>
        bsp (((k117 : Nat) : Int) != (IntKind.wrap .i64 (1 + (Int.tmod (IntKind.wrap .i64 (((Nat.bitwise and (BitVec.ofInt IntKind.i64.bits x0).toNat (BitVec.ofInt IntKind.i64.bits 255).toNat) : Nat) : Int)) 20))))
         (K (.bool false) M115)
         (exSl (Mem.ld M115 ⟨k112, (0 + 1), none⟩) fun A119 k120 k121 =>
          ∃ I122 : Nat → List Value → Mem → Prop, (∃ k123 : Nat, I122 k123 [(.int .i64 0)] M115) ∧
          ∀ k124 : Nat, ∀ junk125 : Nat → Value, ∀ n126 : Int, ∀ M127 : Mem, (I122 k124 [(.int .i64 n126)] M127) → bsp (decide ((n126 : Int) < ((k120 : Nat) : Int)))
           (((0 : Int) ≤ n126) ∧
            ((n126 : Int) < ((k120 : Nat) : Int)) ∧
            nilc A119 fun k128 k129 =>
            exI (Mem.ld M127 ⟨k128, (k129 + (Int.toNat n126)), none⟩) .i64 fun n130 =>
            ACalls Try.prog 10 #[(.pointer A69), (.int .i64 n130)] M127 (fun v131 M132 =>
            exSl (some v131) fun A133 k134 k135 =>
            ACalls Try.prog 11 #[(.slice A133 k134 k135)] M132 (fun v136 M137 =>
            exP (some v136) fun A138 =>
            bsp (n130 != (IntKind.wrap .i64 (n126 + 1)))
             (K (.bool false) M137)
             (nilc A138 fun k139 k140 =>
              ((0 : Int) ≤ 1) ∧
              ((1 : Int) < 8) ∧
              exI (Mem.ld M137 ⟨k139, ((k140 + 2) + 1), none⟩) .i64 fun n141 =>
              bsp (n141 != 0)
               (K (.bool false) M137)
               (nilc A138 fun k142 k143 =>
                ((0 : Int) ≤ 2) ∧
                ((2 : Int) < 8) ∧
                exI (Mem.ld M137 ⟨k142, ((k143 + 2) + 2), none⟩) .i64 fun n144 =>
                bsp (n144 != 0)
                 (K (.bool false) M137)
                 (ACalls Try.prog 13 #[(.pointer A69), (.int .i64 n130)] M137 (fun v145 M146 =>
                  exI (some v145) .i64 fun n147 =>
                  bsp (n147 != 1)
                   (K (.bool false) M146)
                   (∃ k148 : Nat, (k148 < k124) ∧
                    I122 k148 [(.int .i64 (IntKind.wrap .i64 (n126 + 1)))] M146)) Kp)))) Kp) Kp)
           (ACalls Try.prog 9 #[(.pointer A69), (.int .i64 0), (.func (.func 14) #[] #[])] M127 (fun v149 M150 =>
            ∃ t151 : Bool, ∃ A152 : Option Addr, ∃ k153 : Nat, ∃ k154 : Nat, (v149 = (.agg #[(.bool t151), (.slice A152 k153 k154)])) ∧
            ACalls Try.prog 16 #[(.pointer A69)] M150 (fun v155 M156 =>
            ∃ n157 : Int, ∃ n158 : Int, (v155 = (.tuple #[(.int .i64 n157), (.int .i64 n158)])) ∧
            bsp q1
             (bsp (n157 == 2)
               (bsp (n158 == (-1))
                 (ACalls Try.prog 12 #[(.pointer A69), (.int .i64 1)] M156 (fun v159 M160 =>
                  ∃ A161 : Option Addr, ∃ k162 : Nat, ∃ k163 : Nat, ∃ A164 : Option Addr, ∃ k165 : Nat, ∃ k166 : Nat, ∃ A167 : Option Addr, ∃ k168 : Nat, ∃ k169 : Nat, ∃ t170 : Bool, (v159 = (.agg #[(.slice A161 k162 k163), (.slice A164 k165 k166), (.slice A167 k168 k169), (.bool t170)])) ∧
                  bsp t170
                   (ACalls Try.prog 12 #[(.pointer A69), (.int .i64 1)] M160 (fun v171 M172 =>
                    ∃ A173 : Option Addr, ∃ k174 : Nat, ∃ k175 : Nat, ∃ A176 : Option Addr, ∃ k177 : Nat, ∃ k178 : Nat, ∃ A179 : Option Addr, ∃ k180 : Nat, ∃ k181 : Nat, ∃ t182 : Bool, (v171 = (.agg #[(.slice A173 k174 k175), (.slice A176 k177 k178), (.slice A179 k180 k181), (.bool t182)])) ∧
                    K (.bool (((k177 : Nat) : Int) == 0)) M172) Kp)
                   (K (.bool false) M160)) Kp)
                 (K (.bool false) M156))
               (K (.bool false) M156))
             (bsp (n157 == 0)
               (ACalls Try.prog 12 #[(.pointer A69), (.int .i64 0)] M156 (fun v183 M184 =>
                ∃ A185 : Option Addr, ∃ k186 : Nat, ∃ k187 : Nat, ∃ A188 : Option Addr, ∃ k189 : Nat, ∃ k190 : Nat, ∃ A191 : Option Addr, ∃ k192 : Nat, ∃ k193 : Nat, ∃ t194 : Bool, (v183 = (.agg #[(.slice A185 k186 k187), (.slice A188 k189 k190), (.slice A191 k192 k193), (.bool t194)])) ∧
                bsp t194
                 (ACalls Try.prog 12 #[(.pointer A69), (.int .i64 1)] M184 (fun v195 M196 =>
                  ∃ A197 : Option Addr, ∃ k198 : Nat, ∃ k199 : Nat, ∃ A200 : Option Addr, ∃ k201 : Nat, ∃ k202 : Nat, ∃ A203 : Option Addr, ∃ k204 : Nat, ∃ k205 : Nat, ∃ t206 : Bool, (v195 = (.agg #[(.slice A197 k198 k199), (.slice A200 k201 k202), (.slice A203 k204 k205), (.bool t206)])) ∧
                  K (.bool t206) M196) Kp)
                 (K (.bool false) M184)) Kp)
               (K (.bool false) M156))) Kp) Kp))) Kp)) Kp)) Kp) Kp))) Kp) :
  ACalls Try.prog 4 ([.int .i64 x0, .bool q1] : List Value).toArray M K Kp :=
  acalls_vc (C := Cx) good [(2000000, .loop [(5, .c .sl), (24, .c (.int .i64))]), (3000031, .cut [(5, .c .sl)]), (2000002, .loop [(56, .c (.int .i64))]), (2000004, .loop [(9, .c (.int .i64))]), (2000006, .loop [(68, .c (.int .i64))]), (2000008, .loop [(86, .c (.int .i64))])] Try.func4 (by kernel_rfl) (by kernel_rfl) h

end Go.Proofs
