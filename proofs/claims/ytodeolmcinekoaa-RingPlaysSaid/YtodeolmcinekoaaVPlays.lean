/- A part of proofs about functions of one program: a condition over a partial memory that is enough for a call, and what calls answer by it. No condition of its own. -/
import Derived.Test.YtodeolmcinekoaaCx
namespace Go.Proofs
open Go.AF
set_option linter.unusedVariables false
set_option maxRecDepth 100000
theorem vc_shunterlaw07_RingPlays (x0 : Int) (B1 : Option Addr) (m1 c1 : Nat) (M : Mem) (K : Value → Mem → Prop) (Kp : List PanicEntry → Mem → Prop) (h :
ACalls Try.prog 26 #[] M (fun v1 M2 =>
exB (some v1) fun t3 =>
bsp (!t3)
 (K (.bool false) M2)
 (ACalls Try.prog 27 #[(.int .i64 x0)] M2 (fun v4 M5 =>
  exP (some v4) fun A6 =>
  ACalls Try.prog 39 #[(.int .i64 x0)] M5 (fun v7 M8 =>
  ∃ A9 : Option Addr, ∃ k10 : Nat, ∃ k11 : Nat, ∃ n12 : Int, (v7 = (.agg #[(.slice A9 k10 k11), (.int .i64 n12)])) ∧
  ∀ k13 : Nat, (M8 k13 = none) → (Mem.wr (Mem.set M8 k13 (.cells #[(.slice none 0 0), (.int .i64 0)] 65 (0, 0))) ⟨k13, 0, none⟩ = true) ∧
  (Mem.wr (Mem.put (Mem.set M8 k13 (.cells #[(.slice none 0 0), (.int .i64 0)] 65 (0, 0))) ⟨k13, 0, none⟩ (.slice A9 k10 k11)) ⟨k13, (0 + 1), none⟩ = true) ∧
  ∃ I14 : Nat → List Value → Mem → Prop, (∃ k15 : Nat, I14 k15 [(.int .i64 0)] (Mem.put (Mem.put (Mem.set M8 k13 (.cells #[(.slice none 0 0), (.int .i64 0)] 65 (0, 0))) ⟨k13, 0, none⟩ (.slice A9 k10 k11)) ⟨k13, (0 + 1), none⟩ (.int .i64 n12))) ∧
  ∀ k16 : Nat, ∀ junk17 : Nat → Value, ∀ n18 : Int, ∀ M19 : Mem, (I14 k16 [(.int .i64 n18)] M19) → bsp (decide ((n18 : Int) < ((m1 : Nat) : Int)))
   (bsp (decide ((n18 : Int) < 80))
     (((0 : Int) ≤ n18) ∧
      ((n18 : Int) < ((m1 : Nat) : Int)) ∧
      nilc B1 fun k20 k21 =>
      exI (Mem.ld M19 ⟨k20, (k21 + ((Int.toNat n18) * 2)), none⟩) .i64 fun n22 =>
      exI (Mem.ld M19 ⟨k20, ((k21 + ((Int.toNat n18) * 2)) + 1), none⟩) .i64 fun n23 =>
      ∀ k24 : Nat, (M19 k24 = none) → (Mem.wr (Mem.set M19 k24 (.cells #[(.int .i64 0), (.int .i64 0)] 68 (0, 0))) ⟨k24, 0, none⟩ = true) ∧
      (Mem.wr (Mem.put (Mem.set M19 k24 (.cells #[(.int .i64 0), (.int .i64 0)] 68 (0, 0))) ⟨k24, 0, none⟩ (.int .i64 n22)) ⟨k24, (0 + 1), none⟩ = true) ∧
      exI (Mem.ld (Mem.put (Mem.put (Mem.set M19 k24 (.cells #[(.int .i64 0), (.int .i64 0)] 68 (0, 0))) ⟨k24, 0, none⟩ (.int .i64 n22)) ⟨k24, (0 + 1), none⟩ (.int .i64 n23)) ⟨k24, 0, none⟩) .i64 fun n25 =>
      ((7 : Int) ≠ 0) ∧
      ∃ J26 : List Value → Mem → Prop, (bsp (decide (((Int.tmod (IntKind.wrap .i64 (((Nat.bitwise and (BitVec.ofInt IntKind.i64.bits n25).toNat (BitVec.ofInt IntKind.i64.bits 255).toNat) : Nat) : Int)) 7) : Int) < 4))
        (exSl (Mem.ld (Mem.put (Mem.put (Mem.set M19 k24 (.cells #[(.int .i64 0), (.int .i64 0)] 68 (0, 0))) ⟨k24, 0, none⟩ (.int .i64 n22)) ⟨k24, (0 + 1), none⟩ (.int .i64 n23)) ⟨k13, 0, none⟩) fun A27 k28 k29 =>
         exI (Mem.ld (Mem.put (Mem.put (Mem.set M19 k24 (.cells #[(.int .i64 0), (.int .i64 0)] 68 (0, 0))) ⟨k24, 0, none⟩ (.int .i64 n22)) ⟨k24, (0 + 1), none⟩ (.int .i64 n23)) ⟨k13, (0 + 1), none⟩) .i64 fun n30 =>
         exI (Mem.ld (Mem.put (Mem.put (Mem.set M19 k24 (.cells #[(.int .i64 0), (.int .i64 0)] 68 (0, 0))) ⟨k24, 0, none⟩ (.int .i64 n22)) ⟨k24, (0 + 1), none⟩ (.int .i64 n23)) ⟨k24, (0 + 1), none⟩) .i64 fun n31 =>
         ACalls Try.prog 40 #[(.agg #[(.slice A27 k28 k29), (.int .i64 n30)]), (.int .i64 n31)] (Mem.put (Mem.put (Mem.set M19 k24 (.cells #[(.int .i64 0), (.int .i64 0)] 68 (0, 0))) ⟨k24, 0, none⟩ (.int .i64 n22)) ⟨k24, (0 + 1), none⟩ (.int .i64 n23)) (fun v32 M33 =>
         ∃ A34 : Option Addr, ∃ k35 : Nat, ∃ k36 : Nat, ∃ n37 : Int, ∃ t38 : Bool, (v32 = (.tuple #[(.agg #[(.slice A34 k35 k36), (.int .i64 n37)]), (.bool t38)])) ∧
         ∀ k39 : Nat, (M33 k39 = none) → (Mem.wr (Mem.set M33 k39 (.cells #[(.slice none 0 0), (.int .i64 0)] 65 (0, 0))) ⟨k39, 0, none⟩ = true) ∧
         (Mem.wr (Mem.put (Mem.set M33 k39 (.cells #[(.slice none 0 0), (.int .i64 0)] 65 (0, 0))) ⟨k39, 0, none⟩ (.slice A34 k35 k36)) ⟨k39, (0 + 1), none⟩ = true) ∧
         exSl (Mem.ld (Mem.put (Mem.put (Mem.set M33 k39 (.cells #[(.slice none 0 0), (.int .i64 0)] 65 (0, 0))) ⟨k39, 0, none⟩ (.slice A34 k35 k36)) ⟨k39, (0 + 1), none⟩ (.int .i64 n37)) ⟨k39, 0, none⟩) fun A40 k41 k42 =>
         exI (Mem.ld (Mem.put (Mem.put (Mem.set M33 k39 (.cells #[(.slice none 0 0), (.int .i64 0)] 65 (0, 0))) ⟨k39, 0, none⟩ (.slice A34 k35 k36)) ⟨k39, (0 + 1), none⟩ (.int .i64 n37)) ⟨k39, (0 + 1), none⟩) .i64 fun n43 =>
         (Mem.wr (Mem.put (Mem.put (Mem.set M33 k39 (.cells #[(.slice none 0 0), (.int .i64 0)] 65 (0, 0))) ⟨k39, 0, none⟩ (.slice A34 k35 k36)) ⟨k39, (0 + 1), none⟩ (.int .i64 n37)) ⟨k13, 0, none⟩ = true) ∧
         (Mem.wr (Mem.put (Mem.put (Mem.put (Mem.set M33 k39 (.cells #[(.slice none 0 0), (.int .i64 0)] 65 (0, 0))) ⟨k39, 0, none⟩ (.slice A34 k35 k36)) ⟨k39, (0 + 1), none⟩ (.int .i64 n37)) ⟨k13, 0, none⟩ (.slice A40 k41 k42)) ⟨k13, (0 + 1), none⟩ = true) ∧
         exI (Mem.ld (Mem.put (Mem.put (Mem.put (Mem.put (Mem.set M33 k39 (.cells #[(.slice none 0 0), (.int .i64 0)] 65 (0, 0))) ⟨k39, 0, none⟩ (.slice A34 k35 k36)) ⟨k39, (0 + 1), none⟩ (.int .i64 n37)) ⟨k13, 0, none⟩ (.slice A40 k41 k42)) ⟨k13, (0 + 1), none⟩ (.int .i64 n43)) ⟨k24, (0 + 1), none⟩) .i64 fun n44 =>
         ACalls Try.prog 29 #[(.pointer A6), (.int .i64 n44)] (Mem.put (Mem.put (Mem.put (Mem.put (Mem.set M33 k39 (.cells #[(.slice none 0 0), (.int .i64 0)] 65 (0, 0))) ⟨k39, 0, none⟩ (.slice A34 k35 k36)) ⟨k39, (0 + 1), none⟩ (.int .i64 n37)) ⟨k13, 0, none⟩ (.slice A40 k41 k42)) ⟨k13, (0 + 1), none⟩ (.int .i64 n43)) (fun v45 M46 =>
         exB (some v45) fun t47 =>
         bsp (!(t47 == t38))
          (K (.bool false) M46)
          (J26 [] M46)) Kp) Kp)
        (bsp (decide (((Int.tmod (IntKind.wrap .i64 (((Nat.bitwise and (BitVec.ofInt IntKind.i64.bits n25).toNat (BitVec.ofInt IntKind.i64.bits 255).toNat) : Nat) : Int)) 7) : Int) < 6))
          (exSl (Mem.ld (Mem.put (Mem.put (Mem.set M19 k24 (.cells #[(.int .i64 0), (.int .i64 0)] 68 (0, 0))) ⟨k24, 0, none⟩ (.int .i64 n22)) ⟨k24, (0 + 1), none⟩ (.int .i64 n23)) ⟨k13, 0, none⟩) fun A48 k49 k50 =>
           exI (Mem.ld (Mem.put (Mem.put (Mem.set M19 k24 (.cells #[(.int .i64 0), (.int .i64 0)] 68 (0, 0))) ⟨k24, 0, none⟩ (.int .i64 n22)) ⟨k24, (0 + 1), none⟩ (.int .i64 n23)) ⟨k13, (0 + 1), none⟩) .i64 fun n51 =>
           ACalls Try.prog 41 #[(.agg #[(.slice A48 k49 k50), (.int .i64 n51)]), (.int .i64 1)] (Mem.put (Mem.put (Mem.set M19 k24 (.cells #[(.int .i64 0), (.int .i64 0)] 68 (0, 0))) ⟨k24, 0, none⟩ (.int .i64 n22)) ⟨k24, (0 + 1), none⟩ (.int .i64 n23)) (fun v52 M53 =>
           ∃ A54 : Option Addr, ∃ k55 : Nat, ∃ k56 : Nat, ∃ n57 : Int, ∃ A58 : Option Addr, ∃ k59 : Nat, ∃ k60 : Nat, (v52 = (.tuple #[(.agg #[(.slice A54 k55 k56), (.int .i64 n57)]), (.slice A58 k59 k60)])) ∧
           ∀ k61 : Nat, (M53 k61 = none) → (Mem.wr (Mem.set M53 k61 (.cells #[(.slice none 0 0), (.int .i64 0)] 65 (0, 0))) ⟨k61, 0, none⟩ = true) ∧
           (Mem.wr (Mem.put (Mem.set M53 k61 (.cells #[(.slice none 0 0), (.int .i64 0)] 65 (0, 0))) ⟨k61, 0, none⟩ (.slice A54 k55 k56)) ⟨k61, (0 + 1), none⟩ = true) ∧
           ACalls Try.prog 30 #[(.pointer A6)] (Mem.put (Mem.put (Mem.set M53 k61 (.cells #[(.slice none 0 0), (.int .i64 0)] 65 (0, 0))) ⟨k61, 0, none⟩ (.slice A54 k55 k56)) ⟨k61, (0 + 1), none⟩ (.int .i64 n57)) (fun v62 M63 =>
           ∃ n64 : Int, ∃ t65 : Bool, (v62 = (.tuple #[(.int .i64 n64), (.bool t65)])) ∧
           exSl (Mem.ld M63 ⟨k61, 0, none⟩) fun A66 k67 k68 =>
           exI (Mem.ld M63 ⟨k61, (0 + 1), none⟩) .i64 fun n69 =>
           (Mem.wr M63 ⟨k13, 0, none⟩ = true) ∧
           (Mem.wr (Mem.put M63 ⟨k13, 0, none⟩ (.slice A66 k67 k68)) ⟨k13, (0 + 1), none⟩ = true) ∧
           bsp (!(t65 == (((k59 : Nat) : Int) == 1)))
            (K (.bool false) (Mem.put (Mem.put M63 ⟨k13, 0, none⟩ (.slice A66 k67 k68)) ⟨k13, (0 + 1), none⟩ (.int .i64 n69)))
            (bsp t65
              (((0 : Int) ≤ 0) ∧
               ((0 : Int) < ((k59 : Nat) : Int)) ∧
               nilc A58 fun k70 k71 =>
               exI (Mem.ld (Mem.put (Mem.put M63 ⟨k13, 0, none⟩ (.slice A66 k67 k68)) ⟨k13, (0 + 1), none⟩ (.int .i64 n69)) ⟨k70, (k71 + 0), none⟩) .i64 fun n72 =>
               bsp (n64 != n72)
                (K (.bool false) (Mem.put (Mem.put M63 ⟨k13, 0, none⟩ (.slice A66 k67 k68)) ⟨k13, (0 + 1), none⟩ (.int .i64 n69)))
                (bsp (!t65)
                  (bsp (n64 != 0)
                    (K (.bool false) (Mem.put (Mem.put M63 ⟨k13, 0, none⟩ (.slice A66 k67 k68)) ⟨k13, (0 + 1), none⟩ (.int .i64 n69)))
                    (J26 [] (Mem.put (Mem.put M63 ⟨k13, 0, none⟩ (.slice A66 k67 k68)) ⟨k13, (0 + 1), none⟩ (.int .i64 n69))))
                  (J26 [] (Mem.put (Mem.put M63 ⟨k13, 0, none⟩ (.slice A66 k67 k68)) ⟨k13, (0 + 1), none⟩ (.int .i64 n69)))))
              (bsp (!t65)
                (bsp (n64 != 0)
                  (K (.bool false) (Mem.put (Mem.put M63 ⟨k13, 0, none⟩ (.slice A66 k67 k68)) ⟨k13, (0 + 1), none⟩ (.int .i64 n69)))
                  (J26 [] (Mem.put (Mem.put M63 ⟨k13, 0, none⟩ (.slice A66 k67 k68)) ⟨k13, (0 + 1), none⟩ (.int .i64 n69))))
                (J26 [] (Mem.put (Mem.put M63 ⟨k13, 0, none⟩ (.slice A66 k67 k68)) ⟨k13, (0 + 1), none⟩ (.int .i64 n69)))))) Kp) Kp)
          (exSl (Mem.ld (Mem.put (Mem.put (Mem.set M19 k24 (.cells #[(.int .i64 0), (.int .i64 0)] 68 (0, 0))) ⟨k24, 0, none⟩ (.int .i64 n22)) ⟨k24, (0 + 1), none⟩ (.int .i64 n23)) ⟨k13, 0, none⟩) fun A73 k74 k75 =>
           exI (Mem.ld (Mem.put (Mem.put (Mem.set M19 k24 (.cells #[(.int .i64 0), (.int .i64 0)] 68 (0, 0))) ⟨k24, 0, none⟩ (.int .i64 n22)) ⟨k24, (0 + 1), none⟩ (.int .i64 n23)) ⟨k13, (0 + 1), none⟩) .i64 fun n76 =>
           exI (Mem.ld (Mem.put (Mem.put (Mem.set M19 k24 (.cells #[(.int .i64 0), (.int .i64 0)] 68 (0, 0))) ⟨k24, 0, none⟩ (.int .i64 n22)) ⟨k24, (0 + 1), none⟩ (.int .i64 n23)) ⟨k24, (0 + 1), none⟩) .i64 fun n77 =>
           ACalls Try.prog 41 #[(.agg #[(.slice A73 k74 k75), (.int .i64 n76)]), (.int .i64 n77)] (Mem.put (Mem.put (Mem.set M19 k24 (.cells #[(.int .i64 0), (.int .i64 0)] 68 (0, 0))) ⟨k24, 0, none⟩ (.int .i64 n22)) ⟨k24, (0 + 1), none⟩ (.int .i64 n23)) (fun v78 M79 =>
           ∃ A80 : Option Addr, ∃ k81 : Nat, ∃ k82 : Nat, ∃ n83 : Int, ∃ A84 : Option Addr, ∃ k85 : Nat, ∃ k86 : Nat, (v78 = (.tuple #[(.agg #[(.slice A80 k81 k82), (.int .i64 n83)]), (.slice A84 k85 k86)])) ∧
           ∀ k87 : Nat, (M79 k87 = none) → (Mem.wr (Mem.set M79 k87 (.cells #[(.slice none 0 0), (.int .i64 0)] 65 (0, 0))) ⟨k87, 0, none⟩ = true) ∧
           (Mem.wr (Mem.put (Mem.set M79 k87 (.cells #[(.slice none 0 0), (.int .i64 0)] 65 (0, 0))) ⟨k87, 0, none⟩ (.slice A80 k81 k82)) ⟨k87, (0 + 1), none⟩ = true) ∧
           exSl (Mem.ld (Mem.put (Mem.put (Mem.set M79 k87 (.cells #[(.slice none 0 0), (.int .i64 0)] 65 (0, 0))) ⟨k87, 0, none⟩ (.slice A80 k81 k82)) ⟨k87, (0 + 1), none⟩ (.int .i64 n83)) ⟨k87, 0, none⟩) fun A88 k89 k90 =>
           exI (Mem.ld (Mem.put (Mem.put (Mem.set M79 k87 (.cells #[(.slice none 0 0), (.int .i64 0)] 65 (0, 0))) ⟨k87, 0, none⟩ (.slice A80 k81 k82)) ⟨k87, (0 + 1), none⟩ (.int .i64 n83)) ⟨k87, (0 + 1), none⟩) .i64 fun n91 =>
           (Mem.wr (Mem.put (Mem.put (Mem.set M79 k87 (.cells #[(.slice none 0 0), (.int .i64 0)] 65 (0, 0))) ⟨k87, 0, none⟩ (.slice A80 k81 k82)) ⟨k87, (0 + 1), none⟩ (.int .i64 n83)) ⟨k13, 0, none⟩ = true) ∧
           (Mem.wr (Mem.put (Mem.put (Mem.put (Mem.set M79 k87 (.cells #[(.slice none 0 0), (.int .i64 0)] 65 (0, 0))) ⟨k87, 0, none⟩ (.slice A80 k81 k82)) ⟨k87, (0 + 1), none⟩ (.int .i64 n83)) ⟨k13, 0, none⟩ (.slice A88 k89 k90)) ⟨k13, (0 + 1), none⟩ = true) ∧
           exI (Mem.ld (Mem.put (Mem.put (Mem.put (Mem.put (Mem.set M79 k87 (.cells #[(.slice none 0 0), (.int .i64 0)] 65 (0, 0))) ⟨k87, 0, none⟩ (.slice A80 k81 k82)) ⟨k87, (0 + 1), none⟩ (.int .i64 n83)) ⟨k13, 0, none⟩ (.slice A88 k89 k90)) ⟨k13, (0 + 1), none⟩ (.int .i64 n91)) ⟨k24, (0 + 1), none⟩) .i64 fun n92 =>
           ACalls Try.prog 32 #[(.pointer A6), (.int .i64 n92)] (Mem.put (Mem.put (Mem.put (Mem.put (Mem.set M79 k87 (.cells #[(.slice none 0 0), (.int .i64 0)] 65 (0, 0))) ⟨k87, 0, none⟩ (.slice A80 k81 k82)) ⟨k87, (0 + 1), none⟩ (.int .i64 n83)) ⟨k13, 0, none⟩ (.slice A88 k89 k90)) ⟨k13, (0 + 1), none⟩ (.int .i64 n91)) (fun v93 M94 =>
           exSl (some v93) fun A95 k96 k97 =>
           ACalls Try.prog 42 #[(.slice A95 k96 k97), (.slice A84 k85 k86)] M94 (fun v98 M99 =>
           exI (some v98) .i64 fun n100 =>
           bsp (n100 != 0)
            (K (.bool false) M99)
            (J26 [] M99)) Kp) Kp) Kp))) ∧
      ∀ junk101 : Nat → Value, ∀ M102 : Mem, (J26 [] M102) → exSl (Mem.ld M102 ⟨k13, 0, none⟩) fun A103 k104 k105 =>
      ACalls Try.prog 43 #[(.pointer A6)] M102 (fun v106 M107 =>
      exSl (some v106) fun A108 k109 k110 =>
      ((Mem.ld M107 ⟨k13, 0, none⟩) = (some (.slice A103 k104 k105))) ∧
      ACalls Try.prog 42 #[(.slice A108 k109 k110), (.slice A103 k104 k105)] M107 (fun v111 M112 =>
      exI (some v111) .i64 fun n113 =>
      ((Mem.ld M112 ⟨k13, 0, none⟩) = (some (.slice A103 k104 k105))) ∧
      bsp (n113 != 0)
       (((Mem.ld M112 ⟨k13, 0, none⟩) = (some (.slice A103 k104 k105))) ∧
        ((Mem.ld M112 ⟨k13, 0, none⟩) = (some (.slice A103 k104 k105))) ∧
        K (.bool false) M112)
       (exSl (Mem.ld M112 ⟨k13, 0, none⟩) fun A114 k115 k116 =>
        ACalls Try.prog 31 #[(.pointer A6)] M112 (fun v117 M118 =>
        exI (some v117) .i64 fun n119 =>
        ((Mem.ld M118 ⟨k13, 0, none⟩) = (some (.slice A114 k115 k116))) ∧
        ((Mem.ld M118 ⟨k13, 0, none⟩) = (some (.slice A103 k104 k105))) ∧
        bsp (n119 != ((k115 : Nat) : Int))
         (((Mem.ld M118 ⟨k13, 0, none⟩) = (some (.slice A114 k115 k116))) ∧
          ((Mem.ld M118 ⟨k13, 0, none⟩) = (some (.slice A103 k104 k105))) ∧
          K (.bool false) M118)
         (exI (Mem.ld M118 ⟨k13, (0 + 1), none⟩) .i64 fun n120 =>
          ACalls Try.prog 28 #[(.pointer A6)] M118 (fun v121 M122 =>
          exI (some v121) .i64 fun n123 =>
          ((Mem.ld M122 ⟨k13, (0 + 1), none⟩) = (some (.int .i64 n120))) ∧
          ((Mem.ld M122 ⟨k13, 0, none⟩) = (some (.slice A114 k115 k116))) ∧
          ((Mem.ld M122 ⟨k13, 0, none⟩) = (some (.slice A103 k104 k105))) ∧
          bsp (n123 != n120)
           (K (.bool false) M122)
           (∃ k124 : Nat, (k124 < k16) ∧
            I14 k124 [(.int .i64 (IntKind.wrap .i64 (n18 + 1)))] M122)) Kp)) Kp)) Kp) Kp)
     (K (.bool true) M19))
   (K (.bool true) M19)) Kp) Kp)) Kp) :
  ACalls Try.prog 7 ([.int .i64 x0, .slice B1 m1 c1] : List Value).toArray M K Kp :=
  acalls_vc (C := Cx) good [(2000000, .loop [(7, .c (.int .i64))]), (1000002, .cut []), (24, .reg [0, 1, 0, 4, 15, 31, 63, 127, 255, 127, 639, 1663, 4095, 8191, 16383, 32767, 65535, 32767, 163839, 524287, 1048575] (.step 0 (.step 2 (.prom 3 (.step 1 (.step 4 (.step 5 (.step 6 (.step 7 (.step 9 (.prom 10 (.step 11 (.step 8 (.step 12 (.step 13 (.step 14 (.step 15 (.step 17 (.prom 18 (.step 16 (.step 19 (.step 20 .done))))))))))))))))))))))] Try.func7 (by kernel_rfl) (by kernel_rfl) h

end Go.Proofs
