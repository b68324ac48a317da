/- A part of proofs about functions of one program: a condition over a partial memory that is enough for a call, and what calls answer by it. No condition of its own. -/
import Derived.Test.YtodeolmcinekoaaCx
namespace Go.Proofs
open Go.AF
set_option linter.unusedVariables false
set_option maxRecDepth 100000
theorem vc_shunterlaw13_ChansPlays {x0 : Int} {B1 : Option Addr} {m1 c1 : Nat} {x2 : Int} {M : Mem} {K : Value → Mem → Prop} {Kp : List PanicEntry → Mem → Prop} (h :
ACalls Try.prog 33 #[] M (fun v1 M2 =>
exB (some v1) fun t3 =>
bsp (!t3)
 (K (.bool false) M2)
 (ACalls Try.prog 34 #[(.int .i64 x0)] M2 (fun v4 M5 =>
  exP (some v4) fun A6 =>
  ACalls Try.prog 51 #[(.int .i64 x0)] M5 (fun v7 M8 =>
  ∃ n9 : Int, ∃ A10 : Option Addr, ∃ k11 : Nat, ∃ k12 : Nat, ∃ A13 : Option Addr, ∃ k14 : Nat, ∃ k15 : Nat, ∃ A16 : Option Addr, ∃ k17 : Nat, ∃ k18 : Nat, ∃ t19 : Bool, (v7 = (.agg #[(.int .i64 n9), (.slice A10 k11 k12), (.slice A13 k14 k15), (.slice A16 k17 k18), (.bool t19)])) ∧
  nwc M8 (.cells #[(.int .i64 0), (.slice none 0 0), (.slice none 0 0), (.slice none 0 0), (.bool false)] 91 (0, 0)) fun k20 M21 =>
  stc M21 ⟨k20, 0, none⟩ (.int .i64 n9) fun M22 =>
  stc M22 ⟨k20, (0 + 1), none⟩ (.slice A10 k11 k12) fun M23 =>
  stc M23 ⟨k20, (0 + 2), none⟩ (.slice A13 k14 k15) fun M24 =>
  stc M24 ⟨k20, (0 + 3), none⟩ (.slice A16 k17 k18) fun M25 =>
  stc M25 ⟨k20, (0 + 4), none⟩ (.bool t19) fun M26 =>
  exI (Mem.ld M26 ⟨k20, 0, none⟩) .i64 fun n27 =>
  exSl (Mem.ld M26 ⟨k20, (0 + 1), none⟩) fun A28 k29 k30 =>
  exSl (Mem.ld M26 ⟨k20, (0 + 2), none⟩) fun A31 k32 k33 =>
  exSl (Mem.ld M26 ⟨k20, (0 + 3), none⟩) fun A34 k35 k36 =>
  exB (Mem.ld M26 ⟨k20, (0 + 4), none⟩) fun t37 =>
  nwc M26 (.cells #[(.int .i64 0), (.slice none 0 0), (.slice none 0 0), (.slice none 0 0), (.bool false)] 91 (0, 0)) fun k38 M39 =>
  stc M39 ⟨k38, 0, none⟩ (.int .i64 n27) fun M40 =>
  stc M40 ⟨k38, (0 + 1), none⟩ (.slice A28 k29 k30) fun M41 =>
  stc M41 ⟨k38, (0 + 2), none⟩ (.slice A31 k32 k33) fun M42 =>
  stc M42 ⟨k38, (0 + 3), none⟩ (.slice A34 k35 k36) fun M43 =>
  stc M43 ⟨k38, (0 + 4), none⟩ (.bool t37) fun M44 =>
  ∃ I45 : Nat → List Value → Mem → Prop, (∃ k46 : Nat, I45 k46 [(.pointer none), (.int .i64 0)] M44) ∧
  ∀ k47 : Nat, ∀ junk48 : Nat → Value, ∀ A49 : Option Addr, ∀ n50 : Int, ∀ M51 : Mem, (I45 k47 [(.pointer A49), (.int .i64 n50)] M51) → bsp (decide ((n50 : Int) < ((m1 : Nat) : Int)))
   (bsp (decide ((n50 : Int) < 50))
     (∃ J52 : List Value → Mem → Prop, (bsp (n50 == x2)
        (exI (Mem.ld M51 ⟨k20, 0, none⟩) .i64 fun n53 =>
         exSl (Mem.ld M51 ⟨k20, (0 + 1), none⟩) fun A54 k55 k56 =>
         exSl (Mem.ld M51 ⟨k20, (0 + 2), none⟩) fun A57 k58 k59 =>
         exSl (Mem.ld M51 ⟨k20, (0 + 3), none⟩) fun A60 k61 k62 =>
         exB (Mem.ld M51 ⟨k20, (0 + 4), none⟩) fun t63 =>
         ACalls Try.prog 52 #[(.pointer A6)] M51 (fun v64 M65 =>
         exP (some v64) fun A66 =>
         ((Mem.lds M65 ⟨k20, 0, none⟩ 0 5) = some [(.int .i64 n53), (.slice A54 k55 k56), (.slice A57 k58 k59), (.slice A60 k61 k62), (.bool t63)]) ∧
         stc M65 ⟨k38, 0, none⟩ (.int .i64 n53) fun M67 =>
         stc M67 ⟨k38, (0 + 1), none⟩ (.slice A54 k55 k56) fun M68 =>
         stc M68 ⟨k38, (0 + 2), none⟩ (.slice A57 k58 k59) fun M69 =>
         stc M69 ⟨k38, (0 + 3), none⟩ (.slice A60 k61 k62) fun M70 =>
         stc M70 ⟨k38, (0 + 4), none⟩ (.bool t63) fun M71 =>
         ((Mem.lds M71 ⟨k20, 0, none⟩ 0 5) = some [(.int .i64 n53), (.slice A54 k55 k56), (.slice A57 k58 k59), (.slice A60 k61 k62), (.bool t63)]) ∧
         J52 [(.pointer A66)] M71) Kp)
        (J52 [(.pointer A49)] M51)) ∧
      ∀ junk72 : Nat → Value, ∀ A73 : Option Addr, ∀ M74 : Mem, (J52 [(.pointer A73)] M74) → ((0 : Int) ≤ n50) ∧
      ((n50 : Int) < ((m1 : Nat) : Int)) ∧
      nilc B1 fun k75 k76 =>
      exI (Mem.ld M74 ⟨k20, 0, none⟩) .i64 fun n77 =>
      exSl (Mem.ld M74 ⟨k20, (0 + 1), none⟩) fun A78 k79 k80 =>
      exSl (Mem.ld M74 ⟨k20, (0 + 2), none⟩) fun A81 k82 k83 =>
      exSl (Mem.ld M74 ⟨k20, (0 + 3), none⟩) fun A84 k85 k86 =>
      exB (Mem.ld M74 ⟨k20, (0 + 4), none⟩) fun t87 =>
      exI (Mem.ld M74 ⟨k75, (k76 + ((Int.toNat n50) * 5)), none⟩) .i64 fun n88 =>
      exI (Mem.ld M74 ⟨k75, ((k76 + ((Int.toNat n50) * 5)) + 1), none⟩) .i64 fun n89 =>
      exI (Mem.ld M74 ⟨k75, ((k76 + ((Int.toNat n50) * 5)) + 2), none⟩) .i64 fun n90 =>
      exI (Mem.ld M74 ⟨k75, ((k76 + ((Int.toNat n50) * 5)) + 3), none⟩) .i64 fun n91 =>
      exI (Mem.ld M74 ⟨k75, ((k76 + ((Int.toNat n50) * 5)) + 4), none⟩) .i64 fun n92 =>
      (True) ∧
      ACalls Try.prog 53 #[(.pointer A6), (.agg #[(.int .i64 n77), (.slice A78 k79 k80), (.slice A81 k82 k83), (.slice A84 k85 k86), (.bool t87)]), (.agg #[(.int .i64 n88), (.int .i64 n89), (.int .i64 n90), (.int .i64 n91), (.int .i64 n92)])] M74 (fun v93 M94 =>
      ∃ n95 : Int, ∃ A96 : Option Addr, ∃ k97 : Nat, ∃ k98 : Nat, ∃ A99 : Option Addr, ∃ k100 : Nat, ∃ k101 : Nat, ∃ A102 : Option Addr, ∃ k103 : Nat, ∃ k104 : Nat, ∃ t105 : Bool, ∃ t106 : Bool, (v93 = (.tuple #[(.agg #[(.int .i64 n95), (.slice A96 k97 k98), (.slice A99 k100 k101), (.slice A102 k103 k104), (.bool t105)]), (.bool t106)])) ∧
      nwc M94 (.cells #[(.int .i64 0), (.slice none 0 0), (.slice none 0 0), (.slice none 0 0), (.bool false)] 91 (0, 0)) fun k107 M108 =>
      stc M108 ⟨k107, 0, none⟩ (.int .i64 n95) fun M109 =>
      stc M109 ⟨k107, (0 + 1), none⟩ (.slice A96 k97 k98) fun M110 =>
      stc M110 ⟨k107, (0 + 2), none⟩ (.slice A99 k100 k101) fun M111 =>
      stc M111 ⟨k107, (0 + 3), none⟩ (.slice A102 k103 k104) fun M112 =>
      stc M112 ⟨k107, (0 + 4), none⟩ (.bool t105) fun M113 =>
      exI (Mem.ld M113 ⟨k107, 0, none⟩) .i64 fun n114 =>
      exSl (Mem.ld M113 ⟨k107, (0 + 1), none⟩) fun A115 k116 k117 =>
      exSl (Mem.ld M113 ⟨k107, (0 + 2), none⟩) fun A118 k119 k120 =>
      exSl (Mem.ld M113 ⟨k107, (0 + 3), none⟩) fun A121 k122 k123 =>
      exB (Mem.ld M113 ⟨k107, (0 + 4), none⟩) fun t124 =>
      stc M113 ⟨k20, 0, none⟩ (.int .i64 n114) fun M125 =>
      stc M125 ⟨k20, (0 + 1), none⟩ (.slice A115 k116 k117) fun M126 =>
      stc M126 ⟨k20, (0 + 2), none⟩ (.slice A118 k119 k120) fun M127 =>
      stc M127 ⟨k20, (0 + 3), none⟩ (.slice A121 k122 k123) fun M128 =>
      stc M128 ⟨k20, (0 + 4), none⟩ (.bool t124) fun M129 =>
      ∃ J130 : List Value → Mem → Prop, (bsp (!t106)
        (J130 [(.bool true)] M129)
        (exI (Mem.ld M129 ⟨k20, 0, none⟩) .i64 fun n131 =>
         exSl (Mem.ld M129 ⟨k20, (0 + 1), none⟩) fun A132 k133 k134 =>
         exSl (Mem.ld M129 ⟨k20, (0 + 2), none⟩) fun A135 k136 k137 =>
         exSl (Mem.ld M129 ⟨k20, (0 + 3), none⟩) fun A138 k139 k140 =>
         exB (Mem.ld M129 ⟨k20, (0 + 4), none⟩) fun t141 =>
         ACalls Try.prog 44 #[(.pointer A6)] M129 (fun v142 M143 =>
         ∃ A144 : Option Addr, ∃ k145 : Nat, ∃ k146 : Nat, ∃ A147 : Option Addr, ∃ k148 : Nat, ∃ k149 : Nat, ∃ A150 : Option Addr, ∃ k151 : Nat, ∃ k152 : Nat, ∃ t153 : Bool, (v142 = (.agg #[(.slice A144 k145 k146), (.slice A147 k148 k149), (.slice A150 k151 k152), (.bool t153)])) ∧
         ((Mem.lds M143 ⟨k20, 0, none⟩ 0 5) = some [(.int .i64 n131), (.slice A132 k133 k134), (.slice A135 k136 k137), (.slice A138 k139 k140), (.bool t141)]) ∧
         ACalls Try.prog 54 #[(.agg #[(.slice A144 k145 k146), (.slice A147 k148 k149), (.slice A150 k151 k152), (.bool t153)]), (.agg #[(.int .i64 n131), (.slice A132 k133 k134), (.slice A135 k136 k137), (.slice A138 k139 k140), (.bool t141)])] M143 (fun v154 M155 =>
         exI (some v154) .i64 fun n156 =>
         ((Mem.lds M155 ⟨k20, 0, none⟩ 0 5) = some [(.int .i64 n131), (.slice A132 k133 k134), (.slice A135 k136 k137), (.slice A138 k139 k140), (.bool t141)]) ∧
         bsp (n156 != 0)
          (((Mem.lds M155 ⟨k20, 0, none⟩ 0 5) = some [(.int .i64 n131), (.slice A132 k133 k134), (.slice A135 k136 k137), (.slice A138 k139 k140), (.bool t141)]) ∧
           ((Mem.lds M155 ⟨k20, 0, none⟩ 0 5) = some [(.int .i64 n131), (.slice A132 k133 k134), (.slice A135 k136 k137), (.slice A138 k139 k140), (.bool t141)]) ∧
           J130 [(.bool true)] M155)
          (exB (Mem.ld M155 ⟨k20, (0 + 4), none⟩) fun t157 =>
           ACalls Try.prog 47 #[(.pointer A6)] M155 (fun v158 M159 =>
           exB (some v158) fun t160 =>
           ((Mem.ld M159 ⟨k20, (0 + 4), none⟩) = (some (.bool t157))) ∧
           ((Mem.lds M159 ⟨k20, 0, none⟩ 0 5) = some [(.int .i64 n131), (.slice A132 k133 k134), (.slice A135 k136 k137), (.slice A138 k139 k140), (.bool t141)]) ∧
           bsp t157
            (bsp (!(t160 == true))
              (((Mem.ld M159 ⟨k20, (0 + 4), none⟩) = (some (.bool t157))) ∧
               ((Mem.lds M159 ⟨k20, 0, none⟩ 0 5) = some [(.int .i64 n131), (.slice A132 k133 k134), (.slice A135 k136 k137), (.slice A138 k139 k140), (.bool t141)]) ∧
               J130 [(.bool true)] M159)
              (exB (Mem.ld M159 ⟨k20, (0 + 4), none⟩) fun t161 =>
               ACalls Try.prog 46 #[(.pointer A6)] M159 (fun v162 M163 =>
               exB (some v162) fun t164 =>
               ((Mem.ld M163 ⟨k20, (0 + 4), none⟩) = (some (.bool t161))) ∧
               ((Mem.ld M163 ⟨k20, (0 + 4), none⟩) = (some (.bool t157))) ∧
               ((Mem.lds M163 ⟨k20, 0, none⟩ 0 5) = some [(.int .i64 n131), (.slice A132 k133 k134), (.slice A135 k136 k137), (.slice A138 k139 k140), (.bool t141)]) ∧
               bsp t161
                (J130 [(.bool (!(t164 == true)))] M163)
                (exSl (Mem.ld M163 ⟨k20, (0 + 2), none⟩) fun A165 k166 k167 =>
                 bsp (decide ((((k166 : Nat) : Int) : Int) > 0))
                  (J130 [(.bool (!(t164 == true)))] M163)
                  (exSl (Mem.ld M163 ⟨k20, (0 + 1), none⟩) fun A168 k169 k170 =>
                   J130 [(.bool (!(t164 == (decide ((((k169 : Nat) : Int) : Int) > 0)))))] M163))) Kp))
            (exSl (Mem.ld M159 ⟨k20, (0 + 3), none⟩) fun A171 k172 k173 =>
             bsp (decide ((((k172 : Nat) : Int) : Int) > 0))
              (bsp (!(t160 == true))
                (((Mem.ld M159 ⟨k20, (0 + 4), none⟩) = (some (.bool t157))) ∧
                 ((Mem.lds M159 ⟨k20, 0, none⟩ 0 5) = some [(.int .i64 n131), (.slice A132 k133 k134), (.slice A135 k136 k137), (.slice A138 k139 k140), (.bool t141)]) ∧
                 J130 [(.bool true)] M159)
                (exB (Mem.ld M159 ⟨k20, (0 + 4), none⟩) fun t174 =>
                 ACalls Try.prog 46 #[(.pointer A6)] M159 (fun v175 M176 =>
                 exB (some v175) fun t177 =>
                 ((Mem.ld M176 ⟨k20, (0 + 4), none⟩) = (some (.bool t174))) ∧
                 ((Mem.ld M176 ⟨k20, (0 + 4), none⟩) = (some (.bool t157))) ∧
                 ((Mem.lds M176 ⟨k20, 0, none⟩ 0 5) = some [(.int .i64 n131), (.slice A132 k133 k134), (.slice A135 k136 k137), (.slice A138 k139 k140), (.bool t141)]) ∧
                 bsp t174
                  (J130 [(.bool (!(t177 == true)))] M176)
                  (exSl (Mem.ld M176 ⟨k20, (0 + 2), none⟩) fun A178 k179 k180 =>
                   bsp (decide ((((k179 : Nat) : Int) : Int) > 0))
                    (J130 [(.bool (!(t177 == true)))] M176)
                    (exSl (Mem.ld M176 ⟨k20, (0 + 1), none⟩) fun A181 k182 k183 =>
                     J130 [(.bool (!(t177 == (decide ((((k182 : Nat) : Int) : Int) > 0)))))] M176))) Kp))
              (exSl (Mem.ld M159 ⟨k20, (0 + 1), none⟩) fun A184 k185 k186 =>
               exI (Mem.ld M159 ⟨k20, 0, none⟩) .i64 fun n187 =>
               bsp (!(t160 == (decide ((((k185 : Nat) : Int) : Int) < n187))))
                (((Mem.ld M159 ⟨k20, (0 + 4), none⟩) = (some (.bool t157))) ∧
                 ((Mem.lds M159 ⟨k20, 0, none⟩ 0 5) = some [(.int .i64 n131), (.slice A132 k133 k134), (.slice A135 k136 k137), (.slice A138 k139 k140), (.bool t141)]) ∧
                 J130 [(.bool true)] M159)
                (exB (Mem.ld M159 ⟨k20, (0 + 4), none⟩) fun t188 =>
                 ACalls Try.prog 46 #[(.pointer A6)] M159 (fun v189 M190 =>
                 exB (some v189) fun t191 =>
                 ((Mem.ld M190 ⟨k20, (0 + 4), none⟩) = (some (.bool t188))) ∧
                 ((Mem.ld M190 ⟨k20, (0 + 4), none⟩) = (some (.bool t157))) ∧
                 ((Mem.lds M190 ⟨k20, 0, none⟩ 0 5) = some [(.int .i64 n131), (.slice A132 k133 k134), (.slice A135 k136 k137), (.slice A138 k139 k140), (.bool t141)]) ∧
                 bsp t188
                  (J130 [(.bool (!(t191 == true)))] M190)
                  (exSl (Mem.ld M190 ⟨k20, (0 + 2), none⟩) fun A192 k193 k194 =>
                   bsp (decide ((((k193 : Nat) : Int) : Int) > 0))
                    (J130 [(.bool (!(t191 == true)))] M190)
                    (exSl (Mem.ld M190 ⟨k20, (0 + 1), none⟩) fun A195 k196 k197 =>
                     J130 [(.bool (!(t191 == (decide ((((k196 : Nat) : Int) : Int) > 0)))))] M190))) Kp)))) Kp)) Kp) Kp)) ∧
      ∀ junk198 : Nat → Value, ∀ t199 : Bool, ∀ M200 : Mem, (J130 [(.bool t199)] M200) → bsp t199
       (K (.bool false) M200)
       (∃ k201 : Nat, (k201 < k47) ∧
        I45 k201 [(.pointer A73), (.int .i64 (IntKind.wrap .i64 (n50 + 1)))] M200)) Kp)
     (bsp (Option.isNone A49)
       (K (.bool true) M51)
       (exI (Mem.ld M51 ⟨k38, 0, none⟩) .i64 fun n202 =>
        exSl (Mem.ld M51 ⟨k38, (0 + 1), none⟩) fun A203 k204 k205 =>
        exSl (Mem.ld M51 ⟨k38, (0 + 2), none⟩) fun A206 k207 k208 =>
        exSl (Mem.ld M51 ⟨k38, (0 + 3), none⟩) fun A209 k210 k211 =>
        exB (Mem.ld M51 ⟨k38, (0 + 4), none⟩) fun t212 =>
        ACalls Try.prog 44 #[(.pointer A49)] M51 (fun v213 M214 =>
        ∃ A215 : Option Addr, ∃ k216 : Nat, ∃ k217 : Nat, ∃ A218 : Option Addr, ∃ k219 : Nat, ∃ k220 : Nat, ∃ A221 : Option Addr, ∃ k222 : Nat, ∃ k223 : Nat, ∃ t224 : Bool, (v213 = (.agg #[(.slice A215 k216 k217), (.slice A218 k219 k220), (.slice A221 k222 k223), (.bool t224)])) ∧
        ((Mem.lds M214 ⟨k38, 0, none⟩ 0 5) = some [(.int .i64 n202), (.slice A203 k204 k205), (.slice A206 k207 k208), (.slice A209 k210 k211), (.bool t212)]) ∧
        ACalls Try.prog 54 #[(.agg #[(.slice A215 k216 k217), (.slice A218 k219 k220), (.slice A221 k222 k223), (.bool t224)]), (.agg #[(.int .i64 n202), (.slice A203 k204 k205), (.slice A206 k207 k208), (.slice A209 k210 k211), (.bool t212)])] M214 (fun v225 M226 =>
        exI (some v225) .i64 fun n227 =>
        ((Mem.lds M226 ⟨k38, 0, none⟩ 0 5) = some [(.int .i64 n202), (.slice A203 k204 k205), (.slice A206 k207 k208), (.slice A209 k210 k211), (.bool t212)]) ∧
        K (.bool (n227 == 0)) M226) Kp) Kp)))
   (bsp (Option.isNone A49)
     (K (.bool true) M51)
     (exI (Mem.ld M51 ⟨k38, 0, none⟩) .i64 fun n228 =>
      exSl (Mem.ld M51 ⟨k38, (0 + 1), none⟩) fun A229 k230 k231 =>
      exSl (Mem.ld M51 ⟨k38, (0 + 2), none⟩) fun A232 k233 k234 =>
      exSl (Mem.ld M51 ⟨k38, (0 + 3), none⟩) fun A235 k236 k237 =>
      exB (Mem.ld M51 ⟨k38, (0 + 4), none⟩) fun t238 =>
      ACalls Try.prog 44 #[(.pointer A49)] M51 (fun v239 M240 =>
      ∃ A241 : Option Addr, ∃ k242 : Nat, ∃ k243 : Nat, ∃ A244 : Option Addr, ∃ k245 : Nat, ∃ k246 : Nat, ∃ A247 : Option Addr, ∃ k248 : Nat, ∃ k249 : Nat, ∃ t250 : Bool, (v239 = (.agg #[(.slice A241 k242 k243), (.slice A244 k245 k246), (.slice A247 k248 k249), (.bool t250)])) ∧
      ((Mem.lds M240 ⟨k38, 0, none⟩ 0 5) = some [(.int .i64 n228), (.slice A229 k230 k231), (.slice A232 k233 k234), (.slice A235 k236 k237), (.bool t238)]) ∧
      ACalls Try.prog 54 #[(.agg #[(.slice A241 k242 k243), (.slice A244 k245 k246), (.slice A247 k248 k249), (.bool t250)]), (.agg #[(.int .i64 n228), (.slice A229 k230 k231), (.slice A232 k233 k234), (.slice A235 k236 k237), (.bool t238)])] M240 (fun v251 M252 =>
      exI (some v251) .i64 fun n253 =>
      ((Mem.lds M252 ⟨k38, 0, none⟩ 0 5) = some [(.int .i64 n228), (.slice A229 k230 k231), (.slice A232 k233 k234), (.slice A235 k236 k237), (.bool t238)]) ∧
      K (.bool (n253 == 0)) M252) Kp) Kp))) Kp) Kp)) Kp) :
  ACalls Try.prog 12 ([.int .i64 x0, .slice B1 m1 c1, .int .i64 x2] : List Value).toArray M K Kp :=
  acalls_vc (C := Cx) good [(2000000, .loop [(9, .c .ptr), (11, .c (.int .i64))]), (3000033, .cut [(9, .c .ptr)]), (10, .reg [0, 1, 0, 3, 15] (.step 0 (.prom 2 (.step 1 (.step 3 (.step 4 .done)))))), (11, .reg [0, 0, 0, 0, 12, 28, 63, 127, 255, 255, 0, 1535, 4095] (.step 0 (.step 2 (.step 3 (.step 4 (.step 1 (.step 5 (.late 6 (.step 7 (.step 8 (.step 9 (.step 10 (.step 11 (.step 12 .done)))))))))))))), (13, .regc [0, 1, 3, 7, 15, 7, 63, 127, 255, 511, 1023, 2047, 1023, 5119, 16383, 32767, 65535, 131071, 262143, 524287, 1048575, 2097151, 4194303, 8388607, 2097151, 18874367, 67108863, 134217727, 268435455, 536870911, 1073741823, 2147483647, 4294967295, 2147483647, 10737418239, 34359738367, 68719476735, 137438953471, 274877906943, 549755813887, 1099511627775, 2199023255551, 4398046511103, 8796093022207, 17592186044415, 35184372088831, 70368744177663, 140737488355327, 281474976710655] (.step 0 (.step 1 (.step 2 (.step 3 (.prom 5 (.step 4 (.step 6 (.step 7 (.step 8 (.step 9 (.step 10 (.step 12 (.prom 13 (.step 11 (.step 14 (.step 15 (.step 16 (.step 17 (.step 18 (.step 19 (.step 20 (.step 21 (.step 24 (.step 22 (.step 23 (.step 25 (.step 26 (.step 27 (.step 28 (.step 29 (.step 30 (.step 31 (.step 33 (.prom 34 (.step 32 (.step 35 (.step 36 (.step 37 (.step 38 (.step 39 (.step 40 (.step 41 (.step 42 (.step 43 (.step 44 (.step 45 (.step 46 (.step 47 (.step 48 .done))))))))))))))))))))))))))))))))))))))))))))))))) [(96, .c .bool)]), (15, .reg [0, 1, 3, 7, 15, 7, 63, 127, 255, 511] (.step 0 (.step 1 (.step 2 (.step 3 (.prom 5 (.step 4 (.step 6 (.step 7 (.step 8 (.step 9 .done)))))))))))] Try.func12 (by kernel_rfl) (by kernel_rfl) h

theorem vc_shunterlaw13_ChansDrain {x0 : Int} {B1 : Option Addr} {m1 c1 : Nat} {x2 : Int} {M : Mem} {K : Value → Mem → Prop} {Kp : List PanicEntry → Mem → Prop} (h :
ACalls Try.prog 33 #[] M (fun v1 M2 =>
exB (some v1) fun t3 =>
bsp (!t3)
 (K (.bool false) M2)
 (ACalls Try.prog 34 #[(.int .i64 x0)] M2 (fun v4 M5 =>
  exP (some v4) fun A6 =>
  nwc M5 (.cells #[] 2 (0, 0)) fun k7 M8 =>
  ∃ J9 : List Value → Mem → Prop, (∃ I10 : Nat → List Value → Mem → Prop, (∃ k11 : Nat, I10 k11 [(.slice (some ⟨k7, 0, none⟩) 0 0), (.int .i64 0)] M8) ∧
   ∀ k12 : Nat, ∀ junk13 : Nat → Value, ∀ A14 : Option Addr, ∀ k15 : Nat, ∀ k16 : Nat, ∀ n17 : Int, ∀ M18 : Mem, (I10 k12 [(.slice A14 k15 k16), (.int .i64 n17)] M18) → bsp (decide ((n17 : Int) < ((m1 : Nat) : Int)))
    (bsp (decide ((n17 : Int) < 20))
      (((0 : Int) ≤ n17) ∧
       ((n17 : Int) < ((m1 : Nat) : Int)) ∧
       nilc B1 fun k19 k20 =>
       exI (Mem.ld M18 ⟨k19, (k20 + (Int.toNat n17)), none⟩) .i64 fun n21 =>
       ACalls Try.prog 38 #[(.pointer A6), (.int .i64 n21)] M18 (fun v22 M23 =>
       ∃ n24 : Int, ∃ n25 : Int, ∃ n26 : Int, ∃ t27 : Bool, ∃ n28 : Int, (v22 = (.tuple #[(.agg #[(.int .i64 n24), (.int .i64 n25), (.int .i64 n26)]), (.bool t27), (.int .i64 n28)])) ∧
       nwc M23 (.cells #[(.int .i64 0), (.int .i64 0), (.int .i64 0)] 54 (0, 0)) fun k29 M30 =>
       stc M30 ⟨k29, 0, none⟩ (.int .i64 n24) fun M31 =>
       stc M31 ⟨k29, (0 + 1), none⟩ (.int .i64 n25) fun M32 =>
       stc M32 ⟨k29, (0 + 2), none⟩ (.int .i64 n26) fun M33 =>
       bsp (n28 == 0)
        (((0 : Int) ≤ n17) ∧
         ((n17 : Int) < ((m1 : Nat) : Int)) ∧
         nilc B1 fun k34 k35 =>
         exI (Mem.ld M33 ⟨k34, (k35 + (Int.toNat n17)), none⟩) .i64 fun n36 =>
         nwc M33 (.cells #[(.int .i64 n36)] 2 (0, 0)) fun k37 M38 =>
         semK Try.prog (Go.Builtin.append_ #[49, 49] 49 #[(.slice A14 k15 k16), (.slice (some ⟨k37, 0, none⟩) 1 1)]) M38 (fun v39 M40 =>
         exSl (some v39) fun A41 k42 k43 =>
         ∃ k44 : Nat, (k44 < k12) ∧
         I10 k44 [(.slice A41 k42 k43), (.int .i64 (IntKind.wrap .i64 (n17 + 1)))] M40) Kp)
        (∃ k45 : Nat, (k45 < k12) ∧
         I10 k45 [(.slice A14 k15 k16), (.int .i64 (IntKind.wrap .i64 (n17 + 1)))] M33)) Kp)
      (J9 [(.slice A14 k15 k16)] M18))
    (J9 [(.slice A14 k15 k16)] M18)) ∧
  ∀ junk46 : Nat → Value, ∀ A47 : Option Addr, ∀ k48 : Nat, ∀ k49 : Nat, ∀ M50 : Mem, (J9 [(.slice A47 k48 k49)] M50) → ACalls Try.prog 45 #[(.pointer A6)] M50 (fun v51 M52 =>
  ∃ A53 : Option Addr, ∃ k54 : Nat, ∃ k55 : Nat, ∃ A56 : Option Addr, ∃ k57 : Nat, ∃ k58 : Nat, ∃ n59 : Int, (v51 = (.tuple #[(.slice A53 k54 k55), (.slice A56 k57 k58), (.int .i64 n59)])) ∧
  bsp (n59 != 0)
   (K (.bool false) M52)
   (bsp (((k54 : Nat) : Int) != 0)
     (K (.bool false) M52)
     (bsp (((k57 : Nat) : Int) != 0)
       (K (.bool false) M52)
       (bsp (((k48 : Nat) : Int) != (if ((if (16 : Int) < (if (0 : Int) > x0 then 0 else x0) then 16 else (if (0 : Int) > x0 then 0 else x0)) : Int) < (if (20 : Int) < ((m1 : Nat) : Int) then 20 else ((m1 : Nat) : Int)) then (if (16 : Int) < (if (0 : Int) > x0 then 0 else x0) then 16 else (if (0 : Int) > x0 then 0 else x0)) else (if (20 : Int) < ((m1 : Nat) : Int) then 20 else ((m1 : Nat) : Int))))
         (K (.bool false) M52)
         (∃ I60 : Nat → List Value → Mem → Prop, (∃ k61 : Nat, I60 k61 [(.int .i64 0)] M52) ∧
          ∀ k62 : Nat, ∀ junk63 : Nat → Value, ∀ n64 : Int, ∀ M65 : Mem, (I60 k62 [(.int .i64 n64)] M65) → bsp (decide ((n64 : Int) < ((k48 : Nat) : Int)))
           (((0 : Int) ≤ n64) ∧
            ((n64 : Int) < ((k48 : Nat) : Int)) ∧
            nilc A47 fun k66 k67 =>
            exI (Mem.ld M65 ⟨k66, (k67 + (Int.toNat n64)), none⟩) .i64 fun n68 =>
            ACalls Try.prog 37 #[(.pointer A6)] M65 (fun v69 M70 =>
            ∃ n71 : Int, ∃ t72 : Bool, ∃ n73 : Int, ∃ n74 : Int, ∃ n75 : Int, ∃ t76 : Bool, ∃ n77 : Int, (v69 = (.tuple #[(.agg #[(.int .i64 n71), (.bool t72), (.int .i64 n73), (.int .i64 n74), (.int .i64 n75), (.bool t76)]), (.int .i64 n77)])) ∧
            nwc M70 (.cells #[(.int .i64 0), (.bool false), (.int .i64 0), (.int .i64 0), (.int .i64 0), (.bool false)] 56 (0, 0)) fun k78 M79 =>
            stc M79 ⟨k78, 0, none⟩ (.int .i64 n71) fun M80 =>
            stc M80 ⟨k78, (0 + 1), none⟩ (.bool t72) fun M81 =>
            stc M81 ⟨k78, (0 + 2), none⟩ (.int .i64 n73) fun M82 =>
            stc M82 ⟨k78, (0 + 3), none⟩ (.int .i64 n74) fun M83 =>
            stc M83 ⟨k78, (0 + 4), none⟩ (.int .i64 n75) fun M84 =>
            stc M84 ⟨k78, (0 + 5), none⟩ (.bool t76) fun M85 =>
            bsp (n77 != 0)
             (K (.bool false) M85)
             (exB (Mem.ld M85 ⟨k78, (0 + 1), none⟩) fun t86 =>
              bsp (!t86)
               (K (.bool false) M85)
               (exI (Mem.ld M85 ⟨k78, 0, none⟩) .i64 fun n87 =>
                bsp (n87 != n68)
                 (K (.bool false) M85)
                 (∃ k88 : Nat, (k88 < k62) ∧
                  I60 k88 [(.int .i64 (IntKind.wrap .i64 (n64 + 1)))] M85)))) Kp)
           (∃ I89 : Nat → List Value → Mem → Prop, (∃ k90 : Nat, I89 k90 [(.int .i64 0)] M65) ∧
            ∀ k91 : Nat, ∀ junk92 : Nat → Value, ∀ n93 : Int, ∀ M94 : Mem, (I89 k91 [(.int .i64 n93)] M94) → bsp (decide ((n93 : Int) < (IntKind.wrap .i64 (((Nat.bitwise and (BitVec.ofInt IntKind.i64.bits x2).toNat (BitVec.ofInt IntKind.i64.bits 7).toNat) : Nat) : Int))))
             (ACalls Try.prog 37 #[(.pointer A6)] M94 (fun v95 M96 =>
              ∃ n97 : Int, ∃ t98 : Bool, ∃ n99 : Int, ∃ n100 : Int, ∃ n101 : Int, ∃ t102 : Bool, ∃ n103 : Int, (v95 = (.tuple #[(.agg #[(.int .i64 n97), (.bool t98), (.int .i64 n99), (.int .i64 n100), (.int .i64 n101), (.bool t102)]), (.int .i64 n103)])) ∧
              nwc M96 (.cells #[(.int .i64 0), (.bool false), (.int .i64 0), (.int .i64 0), (.int .i64 0), (.bool false)] 56 (0, 0)) fun k104 M105 =>
              stc M105 ⟨k104, 0, none⟩ (.int .i64 n97) fun M106 =>
              stc M106 ⟨k104, (0 + 1), none⟩ (.bool t98) fun M107 =>
              stc M107 ⟨k104, (0 + 2), none⟩ (.int .i64 n99) fun M108 =>
              stc M108 ⟨k104, (0 + 3), none⟩ (.int .i64 n100) fun M109 =>
              stc M109 ⟨k104, (0 + 4), none⟩ (.int .i64 n101) fun M110 =>
              stc M110 ⟨k104, (0 + 5), none⟩ (.bool t102) fun M111 =>
              bsp (n103 != 0)
               (K (.bool false) M111)
               (exI (Mem.ld M111 ⟨k104, 0, none⟩) .i64 fun n112 =>
                exB (Mem.ld M111 ⟨k104, (0 + 1), none⟩) fun t113 =>
                exI (Mem.ld M111 ⟨k104, (0 + 2), none⟩) .i64 fun n114 =>
                exI (Mem.ld M111 ⟨k104, (0 + 3), none⟩) .i64 fun n115 =>
                exI (Mem.ld M111 ⟨k104, (0 + 4), none⟩) .i64 fun n116 =>
                exB (Mem.ld M111 ⟨k104, (0 + 5), none⟩) fun t117 =>
                bsp (!((n112 == 0) && ((t113 == false) && (((n114 == 0) && ((n115 == 0) && ((n116 == 0) && true))) && ((t117 == false) && true)))))
                 (K (.bool false) M111)
                 (∃ k118 : Nat, (k118 < k91) ∧
                  I89 k118 [(.int .i64 (IntKind.wrap .i64 (n93 + 1)))] M111))) Kp)
             (ACalls Try.prog 38 #[(.pointer A6), (.int .i64 1)] M94 (fun v119 M120 =>
              ∃ n121 : Int, ∃ n122 : Int, ∃ n123 : Int, ∃ t124 : Bool, ∃ n125 : Int, (v119 = (.tuple #[(.agg #[(.int .i64 n121), (.int .i64 n122), (.int .i64 n123)]), (.bool t124), (.int .i64 n125)])) ∧
              nwc M120 (.cells #[(.int .i64 0), (.int .i64 0), (.int .i64 0)] 54 (0, 0)) fun k126 M127 =>
              stc M127 ⟨k126, 0, none⟩ (.int .i64 n121) fun M128 =>
              stc M128 ⟨k126, (0 + 1), none⟩ (.int .i64 n122) fun M129 =>
              stc M129 ⟨k126, (0 + 2), none⟩ (.int .i64 n123) fun M130 =>
              bsp (n125 == 10)
               (ACalls Try.prog 46 #[(.pointer A6)] M130 (fun v131 M132 =>
                exB (some v131) fun t133 =>
                bsp t133
                 (ACalls Try.prog 47 #[(.pointer A6)] M132 (fun v134 M135 =>
                  exB (some v134) fun t136 =>
                  K (.bool t136) M135) Kp)
                 (K (.bool false) M132)) Kp)
               (K (.bool false) M130)) Kp))))))) Kp) Kp)) Kp) :
  ACalls Try.prog 10 ([.int .i64 x0, .slice B1 m1 c1, .int .i64 x2] : List Value).toArray M K Kp :=
  acalls_vc (C := Cx) good [(1000000, .cut [(8, .c .sl)]), (2000000, .loop [(8, .c .sl), (9, .c (.int .i64))]), (2000002, .loop [(90, .c (.int .i64))]), (2000004, .loop [(115, .c (.int .i64))])] Try.func10 (by kernel_rfl) (by kernel_rfl) h

theorem vc_shunterlaw13_ChansMeet {x0 : Int} {q1 : Bool} {B2 : Option Addr} {m2 c2 : Nat} {M : Mem} {K : Value → Mem → Prop} {Kp : List PanicEntry → Mem → Prop} (h :
ACalls Try.prog 33 #[] M (fun v1 M2 =>
exB (some v1) fun t3 =>
bsp (!t3)
 (K (.bool false) M2)
 (((20 : Int) ≠ 0) ∧
  ACalls Try.prog 34 #[(.int .i64 0)] M2 (fun v4 M5 =>
  exP (some v4) fun A6 =>
  ∃ I7 : Nat → List Value → Mem → Prop, (∃ k8 : Nat, I7 k8 [(.int .i64 0)] M5) ∧
  ∀ k9 : Nat, ∀ junk10 : Nat → Value, ∀ n11 : Int, ∀ M12 : Mem, (I7 k9 [(.int .i64 n11)] M12) → bsp (decide ((n11 : Int) < (if (((m2 : Nat) : Int) : Int) < (Int.tmod (IntKind.wrap .i64 (((Nat.bitwise and (BitVec.ofInt IntKind.i64.bits x0).toNat (BitVec.ofInt IntKind.i64.bits 255).toNat) : Nat) : Int)) 20) then ((m2 : Nat) : Int) else (Int.tmod (IntKind.wrap .i64 (((Nat.bitwise and (BitVec.ofInt IntKind.i64.bits x0).toNat (BitVec.ofInt IntKind.i64.bits 255).toNat) : Nat) : Int)) 20))))
   (bsp q1
     (((0 : Int) ≤ n11) ∧
      ((n11 : Int) < ((m2 : Nat) : Int)) ∧
      nilc B2 fun k13 k14 =>
      exI (Mem.ld M12 ⟨k13, (k14 + (Int.toNat n11)), none⟩) .i64 fun n15 =>
      ACalls Try.prog 35 #[(.pointer A6), (.agg #[(.int .i64 (IntKind.wrap .i64 (100 + n11))), (.int .i64 0), (.int .i64 n15)])] M12 (fun v16 M17 =>
      (v16 = (.tuple #[])) ∧
      ∃ k18 : Nat, (k18 < k9) ∧
      I7 k18 [(.int .i64 (IntKind.wrap .i64 (n11 + 1)))] M17) Kp)
     (ACalls Try.prog 36 #[(.pointer A6), (.agg #[(.int .i64 (IntKind.wrap .i64 (100 + n11))), (.int .i64 n11), (.int .i64 0)])] M12 (fun v19 M20 =>
      (v19 = (.tuple #[])) ∧
      ∃ k21 : Nat, (k21 < k9) ∧
      I7 k21 [(.int .i64 (IntKind.wrap .i64 (n11 + 1)))] M20) Kp))
   (∃ I22 : Nat → List Value → Mem → Prop, (∃ k23 : Nat, I22 k23 [(.int .i64 0)] M12) ∧
    ∀ k24 : Nat, ∀ junk25 : Nat → Value, ∀ n26 : Int, ∀ M27 : Mem, (I22 k24 [(.int .i64 n26)] M27) → bsp (decide ((n26 : Int) < (if (((m2 : Nat) : Int) : Int) < (Int.tmod (IntKind.wrap .i64 (((Nat.bitwise and (BitVec.ofInt IntKind.i64.bits x0).toNat (BitVec.ofInt IntKind.i64.bits 255).toNat) : Nat) : Int)) 20) then ((m2 : Nat) : Int) else (Int.tmod (IntKind.wrap .i64 (((Nat.bitwise and (BitVec.ofInt IntKind.i64.bits x0).toNat (BitVec.ofInt IntKind.i64.bits 255).toNat) : Nat) : Int)) 20))))
     (bsp q1
       (ACalls Try.prog 37 #[(.pointer A6)] M27 (fun v28 M29 =>
        ∃ n30 : Int, ∃ t31 : Bool, ∃ n32 : Int, ∃ n33 : Int, ∃ n34 : Int, ∃ t35 : Bool, ∃ n36 : Int, (v28 = (.tuple #[(.agg #[(.int .i64 n30), (.bool t31), (.int .i64 n32), (.int .i64 n33), (.int .i64 n34), (.bool t35)]), (.int .i64 n36)])) ∧
        nwc M29 (.cells #[(.int .i64 0), (.bool false), (.int .i64 0), (.int .i64 0), (.int .i64 0), (.bool false)] 56 (0, 0)) fun k37 M38 =>
        stc M38 ⟨k37, 0, none⟩ (.int .i64 n30) fun M39 =>
        stc M39 ⟨k37, (0 + 1), none⟩ (.bool t31) fun M40 =>
        stc M40 ⟨k37, (0 + 2), none⟩ (.int .i64 n32) fun M41 =>
        stc M41 ⟨k37, (0 + 3), none⟩ (.int .i64 n33) fun M42 =>
        stc M42 ⟨k37, (0 + 4), none⟩ (.int .i64 n34) fun M43 =>
        stc M43 ⟨k37, (0 + 5), none⟩ (.bool t35) fun M44 =>
        bsp (n36 != 0)
         (K (.bool false) M44)
         (((0 : Int) ≤ n26) ∧
          ((n26 : Int) < ((m2 : Nat) : Int)) ∧
          nilc B2 fun k45 k46 =>
          exI (Mem.ld M44 ⟨k37, 0, none⟩) .i64 fun n47 =>
          exI (Mem.ld M44 ⟨k45, (k46 + (Int.toNat n26)), none⟩) .i64 fun n48 =>
          bsp (n47 != n48)
           (K (.bool false) M44)
           (exB (Mem.ld M44 ⟨k37, (0 + 5), none⟩) fun t49 =>
            bsp (!t49)
             (K (.bool false) M44)
             (exI (Mem.ld M44 ⟨k37, (0 + 2), none⟩) .i64 fun n50 =>
              bsp (n50 != (IntKind.wrap .i64 (100 + n26)))
               (K (.bool false) M44)
               (∃ k51 : Nat, (k51 < k24) ∧
                I22 k51 [(.int .i64 (IntKind.wrap .i64 (n26 + 1)))] M44))))) Kp)
       (((0 : Int) ≤ n26) ∧
        ((n26 : Int) < ((m2 : Nat) : Int)) ∧
        nilc B2 fun k52 k53 =>
        exI (Mem.ld M27 ⟨k52, (k53 + (Int.toNat n26)), none⟩) .i64 fun n54 =>
        ACalls Try.prog 38 #[(.pointer A6), (.int .i64 n54)] M27 (fun v55 M56 =>
        ∃ n57 : Int, ∃ n58 : Int, ∃ n59 : Int, ∃ t60 : Bool, ∃ n61 : Int, (v55 = (.tuple #[(.agg #[(.int .i64 n57), (.int .i64 n58), (.int .i64 n59)]), (.bool t60), (.int .i64 n61)])) ∧
        nwc M56 (.cells #[(.int .i64 0), (.int .i64 0), (.int .i64 0)] 54 (0, 0)) fun k62 M63 =>
        stc M63 ⟨k62, 0, none⟩ (.int .i64 n57) fun M64 =>
        stc M64 ⟨k62, (0 + 1), none⟩ (.int .i64 n58) fun M65 =>
        stc M65 ⟨k62, (0 + 2), none⟩ (.int .i64 n59) fun M66 =>
        bsp (n61 != 0)
         (K (.bool false) M66)
         (bsp (!t60)
           (K (.bool false) M66)
           (((0 : Int) ≤ n26) ∧
            ((n26 : Int) < ((m2 : Nat) : Int)) ∧
            nilc B2 fun k67 k68 =>
            exI (Mem.ld M66 ⟨k62, 0, none⟩) .i64 fun n69 =>
            exI (Mem.ld M66 ⟨k62, (0 + 1), none⟩) .i64 fun n70 =>
            exI (Mem.ld M66 ⟨k62, (0 + 2), none⟩) .i64 fun n71 =>
            exI (Mem.ld M66 ⟨k67, (k68 + (Int.toNat n26)), none⟩) .i64 fun n72 =>
            bsp (!((n69 == (IntKind.wrap .i64 (100 + n26))) && ((n70 == n26) && ((n71 == n72) && true))))
             (K (.bool false) M66)
             (∃ k73 : Nat, (k73 < k24) ∧
              I22 k73 [(.int .i64 (IntKind.wrap .i64 (n26 + 1)))] M66)))) Kp))
     (ACalls Try.prog 37 #[(.pointer A6)] M27 (fun v74 M75 =>
      ∃ n76 : Int, ∃ t77 : Bool, ∃ n78 : Int, ∃ n79 : Int, ∃ n80 : Int, ∃ t81 : Bool, ∃ n82 : Int, (v74 = (.tuple #[(.agg #[(.int .i64 n76), (.bool t77), (.int .i64 n78), (.int .i64 n79), (.int .i64 n80), (.bool t81)]), (.int .i64 n82)])) ∧
      nwc M75 (.cells #[(.int .i64 0), (.bool false), (.int .i64 0), (.int .i64 0), (.int .i64 0), (.bool false)] 56 (0, 0)) fun k83 M84 =>
      stc M84 ⟨k83, 0, none⟩ (.int .i64 n76) fun M85 =>
      stc M85 ⟨k83, (0 + 1), none⟩ (.bool t77) fun M86 =>
      stc M86 ⟨k83, (0 + 2), none⟩ (.int .i64 n78) fun M87 =>
      stc M87 ⟨k83, (0 + 3), none⟩ (.int .i64 n79) fun M88 =>
      stc M88 ⟨k83, (0 + 4), none⟩ (.int .i64 n80) fun M89 =>
      stc M89 ⟨k83, (0 + 5), none⟩ (.bool t81) fun M90 =>
      ACalls Try.prog 38 #[(.pointer A6), (.int .i64 1)] M90 (fun v91 M92 =>
      ∃ n93 : Int, ∃ n94 : Int, ∃ n95 : Int, ∃ t96 : Bool, ∃ n97 : Int, (v91 = (.tuple #[(.agg #[(.int .i64 n93), (.int .i64 n94), (.int .i64 n95)]), (.bool t96), (.int .i64 n97)])) ∧
      nwc M92 (.cells #[(.int .i64 0), (.int .i64 0), (.int .i64 0)] 54 (0, 0)) fun k98 M99 =>
      stc M99 ⟨k98, 0, none⟩ (.int .i64 n93) fun M100 =>
      stc M100 ⟨k98, (0 + 1), none⟩ (.int .i64 n94) fun M101 =>
      stc M101 ⟨k98, (0 + 2), none⟩ (.int .i64 n95) fun M102 =>
      bsp (n82 == 5)
       (K (.bool (n97 == 6)) M102)
       (K (.bool false) M102)) Kp) Kp))) Kp)) Kp) :
  ACalls Try.prog 6 ([.int .i64 x0, .bool q1, .slice B2 m2 c2] : List Value).toArray M K Kp :=
  acalls_vc (C := Cx) good [(2000000, .loop [(30, .c (.int .i64))]), (2000002, .loop [(51, .c (.int .i64))]), (17, .reg [0, 1, 3, 7, 15, 7, 7, 103, 231, 511, 1023, 2047, 4095, 8191, 16383, 32767, 65535, 131071, 262143, 524287, 131071, 1179647, 4194303, 8388607] (.step 0 (.step 1 (.step 2 (.step 3 (.step 5 (.step 6 (.step 7 (.step 4 (.step 8 (.step 9 (.step 10 (.step 11 (.step 12 (.step 13 (.step 14 (.step 15 (.step 16 (.step 17 (.step 18 (.step 20 (.step 21 (.step 19 (.step 22 (.step 23 .done))))))))))))))))))))))))), (20, .reg [0, 1, 3, 7, 15, 31, 63, 127, 127, 383, 127, 127, 127, 6271, 14463, 32639, 65535, 131071] (.step 0 (.step 1 (.step 2 (.step 3 (.step 4 (.step 5 (.step 6 (.step 8 (.step 9 (.step 10 (.step 11 (.step 12 (.step 13 (.step 7 (.step 14 (.step 15 (.step 16 (.step 17 .done)))))))))))))))))))] Try.func6 (by kernel_rfl) (by kernel_rfl) h

end Go.Proofs
