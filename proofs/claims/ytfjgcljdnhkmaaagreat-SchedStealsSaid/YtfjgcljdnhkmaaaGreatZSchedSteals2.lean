/- A part of proofs about functions of one program: a condition over a partial memory that is enough for a call, and what calls answer by it. No condition of its own. -/
import Derived.Recover
import Derived.Scope
import Derived.Test.YtfjgcljdnhkmaaaGreatProg
import Derived.WalkKit
import Derived.Test.YtfjgcljdnhkmaaaGreatZSchedStealsBase
import Derived.Test.YtfjgcljdnhkmaaaGreatZSchedStealsOps
import Derived.Test.YtfjgcljdnhkmaaaGreatZSchedStealsOpsB
import Derived.Test.YtfjgcljdnhkmaaaGreatZSchedStealsOpC
import Derived.Test.YtfjgcljdnhkmaaaGreatZSchedStealsFrame
import Derived.Test.YtfjgcljdnhkmaaaGreatZSchedStealsReg
import Derived.Test.YtfjgcljdnhkmaaaGreatZSchedStealsRegB
import Derived.Test.YtfjgcljdnhkmaaaGreatZSchedStealsRegL
import Derived.Test.YtfjgcljdnhkmaaaGreatZSchedStealsRegC
import Derived.Test.YtfjgcljdnhkmaaaGreatZSchedStealsExec
import Derived.Test.YtfjgcljdnhkmaaaGreatZSchedStealsSound
import Derived.Test.YtfjgcljdnhkmaaaGreatZSchedStealsSoundB
import Derived.Test.YtfjgcljdnhkmaaaGreatZSchedStealsLib
import Derived.Test.YtfjgcljdnhkmaaaGreatZSchedStealsHp
import Derived.Test.YtfjgcljdnhkmaaaGreatZSchedStealsRow
import Derived.Test.YtfjgcljdnhkmaaaGreatZSchedStealsMod
import Derived.Test.YtfjgcljdnhkmaaaGreatZSchedStealsDefer
import Derived.Test.YtfjgcljdnhkmaaaGreatZSchedStealsDefer2
import Derived.Test.YtfjgcljdnhkmaaaGreatZSchedSteals0
import Derived.Test.YtfjgcljdnhkmaaaGreatZSchedSteals1

namespace Go.Proofs
open Go.AF
set_option linter.unusedVariables false
set_option maxRecDepth 100000
theorem vc_world_World_do {b0 o0 : Nat} {x1 : Int} {M : Mem} {K : Value → Mem → Prop} {Kp : List PanicEntry → Mem → Prop} (h :
exSl (Mem.ld M ⟨b0, (o0 + 4), none⟩) fun A1 k2 k3 =>
((0 : Int) ≤ x1) ∧
((x1 : Int) < ((k2 : Nat) : Int)) ∧
nilc A1 fun k4 k5 =>
exP (Mem.ld M ⟨k4, (k5 + (Int.toNat x1)), none⟩) fun A6 =>
nilc A6 fun k7 k8 =>
exSl (Mem.ld M ⟨k7, (k8 + 1), none⟩) fun A9 k10 k11 =>
ACalls Tryz.prog 120 #[(.slice A9 k10 k11)] M (fun v12 M13 =>
exP (some v12) fun A14 =>
nilc A14 fun k15 k16 =>
exSl (Mem.ld M13 ⟨b0, o0, none⟩) fun A17 k18 k19 =>
exI (Mem.ld M13 ⟨k15, k16, none⟩) .i64 fun n20 =>
((0 : Int) ≤ n20) ∧
((n20 : Int) < ((k18 : Nat) : Int)) ∧
nilc A17 fun k21 k22 =>
exSl (Mem.ld M13 ⟨k21, (k22 + (Int.toNat n20)), none⟩) fun A23 k24 k25 =>
nilc A14 fun k26 k27 =>
exI (Mem.ld M13 ⟨k26, (k27 + 1), none⟩) .i64 fun n28 =>
bsp (decide ((n28 : Int) ≥ ((k24 : Nat) : Int)))
 (leaveK Tryz.prog 119 (.pointer (some ⟨b0, o0, none⟩)) K Kp (.bool false) (.panicking [{ v := (.iface 256 (.int .i64 (-7))), recovered := false }]) M13)
 (nilc A14 fun k29 k30 =>
  exI (Mem.ld M13 ⟨k29, (k30 + 1), none⟩) .i64 fun n31 =>
  ((0 : Int) ≤ n31) ∧
  ((n31 : Int) < ((k24 : Nat) : Int)) ∧
  nilc A23 fun k32 k33 =>
  exI (Mem.ld M13 ⟨k32, (k33 + ((Int.toNat n31) * 4)), none⟩) .i64 fun n34 =>
  exI (Mem.ld M13 ⟨k32, ((k33 + ((Int.toNat n31) * 4)) + 1), none⟩) .i64 fun n35 =>
  exI (Mem.ld M13 ⟨k32, ((k33 + ((Int.toNat n31) * 4)) + 2), none⟩) .i64 fun n36 =>
  exI (Mem.ld M13 ⟨k32, ((k33 + ((Int.toNat n31) * 4)) + 3), none⟩) .i64 fun n37 =>
  nwc M13 (.cells #[(.int .i64 0), (.int .i64 0), (.int .i64 0), (.int .i64 0)] 34 (0, 0)) fun k38 M39 =>
  stc M39 ⟨k38, 0, none⟩ (.int .i64 n34) fun M40 =>
  stc M40 ⟨k38, (0 + 1), none⟩ (.int .i64 n35) fun M41 =>
  stc M41 ⟨k38, (0 + 2), none⟩ (.int .i64 n36) fun M42 =>
  stc M42 ⟨k38, (0 + 3), none⟩ (.int .i64 n37) fun M43 =>
  exI (Mem.ld M43 ⟨k38, 0, none⟩) .i64 fun n44 =>
  exI (Mem.ld M43 ⟨k38, (0 + 1), none⟩) .i64 fun n45 =>
  exI (Mem.ld M43 ⟨k38, (0 + 2), none⟩) .i64 fun n46 =>
  exI (Mem.ld M43 ⟨k38, (0 + 3), none⟩) .i64 fun n47 =>
  ACalls Tryz.prog 121 #[(.pointer A14), (.agg #[(.int .i64 n44), (.int .i64 n45), (.int .i64 n46), (.int .i64 n47)])] M43 (fun v48 M49 =>
  exB (some v48) fun t50 =>
  bsp t50
   (exI (Mem.ld M49 ⟨k38, 0, none⟩) .i64 fun n51 =>
    bsp (n51 == 12)
     (leaveK Tryz.prog 119 (.pointer (some ⟨b0, o0, none⟩)) K Kp (.bool true) .returning M49)
     (exI (Mem.ld M49 ⟨k38, 0, none⟩) .i64 fun n52 =>
      leaveK Tryz.prog 119 (.pointer (some ⟨b0, o0, none⟩)) K Kp (.bool (n52 == 17)) .returning M49))
   (exI (Mem.ld M49 ⟨k38, 0, none⟩) .i64 fun n53 =>
    bsp (n53 == 16)
     (exI (Mem.ld M49 ⟨k38, 0, none⟩) .i64 fun n54 =>
      exI (Mem.ld M49 ⟨k38, (0 + 1), none⟩) .i64 fun n55 =>
      exI (Mem.ld M49 ⟨k38, (0 + 2), none⟩) .i64 fun n56 =>
      exI (Mem.ld M49 ⟨k38, (0 + 3), none⟩) .i64 fun n57 =>
      ACalls Tryz.prog 122 #[(.pointer (some ⟨b0, o0, none⟩)), (.int .i64 x1), (.pointer A14), (.agg #[(.int .i64 n54), (.int .i64 n55), (.int .i64 n56), (.int .i64 n57)])] M49 (fun v58 M59 =>
      (v58 = (.tuple #[])) ∧
      exI (Mem.ld M59 ⟨k38, 0, none⟩) .i64 fun n60 =>
      bsp (n60 == 12)
       (leaveK Tryz.prog 119 (.pointer (some ⟨b0, o0, none⟩)) K Kp (.bool true) .returning M59)
       (exI (Mem.ld M59 ⟨k38, 0, none⟩) .i64 fun n61 =>
        leaveK Tryz.prog 119 (.pointer (some ⟨b0, o0, none⟩)) K Kp (.bool (n61 == 17)) .returning M59)) (fun l62 M63 => leaveK Tryz.prog 119 (.pointer (some ⟨b0, o0, none⟩)) K Kp (.bool false) (.panicking l62) M63))
     (exI (Mem.ld M49 ⟨k38, 0, none⟩) .i64 fun n64 =>
      bsp (n64 == 21)
       (exI (Mem.ld M49 ⟨k38, 0, none⟩) .i64 fun n65 =>
        exI (Mem.ld M49 ⟨k38, (0 + 1), none⟩) .i64 fun n66 =>
        exI (Mem.ld M49 ⟨k38, (0 + 2), none⟩) .i64 fun n67 =>
        exI (Mem.ld M49 ⟨k38, (0 + 3), none⟩) .i64 fun n68 =>
        ACalls Tryz.prog 123 #[(.pointer (some ⟨b0, o0, none⟩)), (.int .i64 x1), (.pointer A14), (.agg #[(.int .i64 n65), (.int .i64 n66), (.int .i64 n67), (.int .i64 n68)])] M49 (fun v69 M70 =>
        (v69 = (.tuple #[])) ∧
        exI (Mem.ld M70 ⟨k38, 0, none⟩) .i64 fun n71 =>
        bsp (n71 == 12)
         (leaveK Tryz.prog 119 (.pointer (some ⟨b0, o0, none⟩)) K Kp (.bool true) .returning M70)
         (exI (Mem.ld M70 ⟨k38, 0, none⟩) .i64 fun n72 =>
          leaveK Tryz.prog 119 (.pointer (some ⟨b0, o0, none⟩)) K Kp (.bool (n72 == 17)) .returning M70)) (fun l73 M74 => leaveK Tryz.prog 119 (.pointer (some ⟨b0, o0, none⟩)) K Kp (.bool false) (.panicking l73) M74))
       (nilc A14 fun k75 k76 =>
        exI (Mem.ld M49 ⟨k75, (k76 + 1), none⟩) .i64 fun n77 =>
        nilc A14 fun k78 k79 =>
        stc M49 ⟨k78, (k79 + 1), none⟩ (.int .i64 (IntKind.wrap .i64 (n77 + 1))) fun M80 =>
        exI (Mem.ld M80 ⟨k38, 0, none⟩) .i64 fun n81 =>
        exI (Mem.ld M80 ⟨k38, 0, none⟩) .i64 fun n82 =>
        exI (Mem.ld M80 ⟨k38, (0 + 1), none⟩) .i64 fun n83 =>
        exI (Mem.ld M80 ⟨k38, (0 + 2), none⟩) .i64 fun n84 =>
        exI (Mem.ld M80 ⟨k38, (0 + 3), none⟩) .i64 fun n85 =>
        ACalls Tryz.prog 124 #[] M80 (fun v86 M87 =>
        ((Mem.lds M87 ⟨k38, 0, none⟩ 0 4) = some [(.int .i64 n82), (.int .i64 n83), (.int .i64 n84), (.int .i64 n85)]) ∧
        ((Mem.ld M87 ⟨k38, 0, none⟩) = (some (.int .i64 n81))) ∧
        semK Tryz.prog (Go.Instr.lookup 261 v86 (.int .i64 n81) false) M87 (fun v88 M89 =>
        ((Mem.lds M89 ⟨k38, 0, none⟩ 0 4) = some [(.int .i64 n82), (.int .i64 n83), (.int .i64 n84), (.int .i64 n85)]) ∧
        ((Mem.ld M89 ⟨k38, 0, none⟩) = (some (.int .i64 n81))) ∧
        callK Cx v88 [(.pointer (some ⟨b0, o0, none⟩)), (.int .i64 x1), (.pointer A14), (.agg #[(.int .i64 n82), (.int .i64 n83), (.int .i64 n84), (.int .i64 n85)])] M89 (fun v90 M91 =>
        (v90 = (.tuple #[])) ∧
        ((Mem.lds M91 ⟨k38, 0, none⟩ 0 4) = some [(.int .i64 n82), (.int .i64 n83), (.int .i64 n84), (.int .i64 n85)]) ∧
        ((Mem.ld M91 ⟨k38, 0, none⟩) = (some (.int .i64 n81))) ∧
        exI (Mem.ld M91 ⟨k38, 0, none⟩) .i64 fun n92 =>
        bsp (n92 == 12)
         (leaveK Tryz.prog 119 (.pointer (some ⟨b0, o0, none⟩)) K Kp (.bool true) .returning M91)
         (exI (Mem.ld M91 ⟨k38, 0, none⟩) .i64 fun n93 =>
          leaveK Tryz.prog 119 (.pointer (some ⟨b0, o0, none⟩)) K Kp (.bool (n93 == 17)) .returning M91)) (fun l94 M95 => leaveK Tryz.prog 119 (.pointer (some ⟨b0, o0, none⟩)) K Kp (.bool false) (.panicking l94) M95)) (fun l96 M97 => leaveK Tryz.prog 119 (.pointer (some ⟨b0, o0, none⟩)) K Kp (.bool false) (.panicking l96) M97)) (fun l98 M99 => leaveK Tryz.prog 119 (.pointer (some ⟨b0, o0, none⟩)) K Kp (.bool false) (.panicking l98) M99))))) (fun l100 M101 => leaveK Tryz.prog 119 (.pointer (some ⟨b0, o0, none⟩)) K Kp (.bool false) (.panicking l100) M101))) (fun l102 M103 => leaveK Tryz.prog 119 (.pointer (some ⟨b0, o0, none⟩)) K Kp (.bool false) (.panicking l102) M103)) :
  ACalls Tryz.prog 88 ([.pointer (some ⟨b0, o0, none⟩), .int .i64 x1] : List Value).toArray M K Kp :=
  acalls_defer_vc (C := Cx) good (s := 0) (d := 8) (g := 119) (r := 4) [(3, .reg [0, 1, 3, 7, 15, 0, 32, 96, 224, 511, 1023, 2047] (.step 0 (.step 1 (.step 2 (.step 3 (.step 5 (.step 6 (.step 7 (.step 4 (.step 8 (.step 9 (.step 10 (.step 11 .done))))))))))))), (8, .reg [0, 0, 2, 7, 0, 0, 0, 0, 255] (.step 1 (.step 4 (.step 5 (.step 6 (.prom 2 (.prom 7 (.step 0 (.step 3 (.step 8 .done))))))))))] Tryz.func88 rfl rfl (by decide) (by kernel_rfl) (by kernel_rfl) h
theorem leave_ok {b o : Nat} {v : Value} {M : Mem} {K : Value → Mem → Prop} {Kp : List PanicEntry → Mem → Prop} (h : K v M) : leaveK Tryz.prog 119 (.pointer (some ⟨b, o, none⟩)) K Kp v .returning M :=
  acallsD_vc (C := Cx) good (args := [.pointer (some ⟨b, o, none⟩)]) (d := 5) (x := .nilIface) (u' := .returning) [] Tryz.func119 rfl rfl (by kernel_rfl) rfl (by kernel_rfl) (vc := K v M) h
theorem leave_trap {b o : Nat} {n : Int} {v : Value} {M : Mem} {K : Value → Mem → Prop} {Kp : List PanicEntry → Mem → Prop} (h :
  stc M ⟨b, (o + 11), none⟩ (.int .i64 2) fun M1 => stc M1 ⟨b, (o + 12), none⟩ (.int .i64 n) fun M2 => K v M2) :
    leaveK Tryz.prog 119 (.pointer (some ⟨b, o, none⟩)) K Kp v (.panicking [{ v := .iface 256 (.int .i64 n), recovered := false }]) M :=
  acallsD_vc (C := Cx) good (args := [.pointer (some ⟨b, o, none⟩)]) (d := 5) (x := .iface 256 (.int .i64 n)) (u' := .panicking [{ v := .iface 256 (.int .i64 n), recovered := true }]) [] Tryz.func119 rfl rfl (by kernel_rfl) rfl (by kernel_rfl) h
theorem leave_Dry {b o : Nat} {w v : Value} {M : Mem} {K : Value → Mem → Prop} {Kp : List PanicEntry → Mem → Prop} (h : Kp [{ v := .iface 227 w, recovered := false }, { v := .iface 227 w, recovered := true }] M) :
    leaveK Tryz.prog 119 (.pointer (some ⟨b, o, none⟩)) K Kp v (.panicking [{ v := .iface 227 w, recovered := false }]) M :=
  acallsD_vc (C := Cx) good (args := [.pointer (some ⟨b, o, none⟩)]) (d := 5) (x := .iface 227 w) (u' := .panicking [{ v := .iface 227 w, recovered := true }]) [] Tryz.func119 rfl rfl (by kernel_rfl) rfl (by kernel_rfl) (vc := Kp [{ v := .iface 227 w, recovered := false }, { v := .iface 227 w, recovered := true }] M) h
theorem leave_Unlike {b o : Nat} {w v : Value} {M : Mem} {K : Value → Mem → Prop} {Kp : List PanicEntry → Mem → Prop} (h : Kp [{ v := .iface 155 w, recovered := false }, { v := .iface 155 w, recovered := true }] M) :
    leaveK Tryz.prog 119 (.pointer (some ⟨b, o, none⟩)) K Kp v (.panicking [{ v := .iface 155 w, recovered := false }]) M :=
  acallsD_vc (C := Cx) good (args := [.pointer (some ⟨b, o, none⟩)]) (d := 5) (x := .iface 155 w) (u' := .panicking [{ v := .iface 155 w, recovered := true }]) [] Tryz.func119 rfl rfl (by kernel_rfl) rfl (by kernel_rfl) (vc := Kp [{ v := .iface 155 w, recovered := false }, { v := .iface 155 w, recovered := true }] M) h
end Go.Proofs

namespace Go.Proofs
open Go.AF
set_option linter.unusedVariables false
set_option maxRecDepth 100000
theorem vc_source_caught {x0 : Value} {b1 o1 b2 o2 : Nat} {M : Mem} {K : Value → Mem → Prop} {Kp : List PanicEntry → Mem → Prop} (h :
nwc M (.cells #[(.pointer (some ⟨b1, o1, none⟩))] 229 (0, 0)) fun k1 M2 =>
nwc M2 (.cells #[(.pointer (some ⟨b2, o2, none⟩))] 230 (0, 0)) fun k3 M4 =>
callK Cx x0 [] M4 (fun v5 M6 =>
(v5 = (.tuple #[])) ∧
leaveL Tryz.prog 135 [(.pointer (some ⟨k1, 0, none⟩)), (.pointer (some ⟨k3, 0, none⟩))] K Kp (.tuple #[]) .returning M6) (fun l7 M8 => leaveL Tryz.prog 135 [(.pointer (some ⟨k1, 0, none⟩)), (.pointer (some ⟨k3, 0, none⟩))] K Kp (.tuple #[]) (.panicking l7) M8)) :
  ACalls Tryz.prog 104 ([x0, .pointer (some ⟨b1, o1, none⟩), .pointer (some ⟨b2, o2, none⟩)] : List Value).toArray M K Kp :=
  acalls_deferM_vc (C := Cx) good (s1 := 4) (s2 := 5) (d := 6) (g := 135) (r := 0) [] Tryz.func104 rfl rfl (by decide) (by kernel_rfl) (by kernel_rfl) h
theorem gleave_ok {c1 c2 : Nat} {v : Value} {M : Mem} {K : Value → Mem → Prop} {Kp : List PanicEntry → Mem → Prop} (h : K v M) : leaveL Tryz.prog 135 [.pointer (some ⟨c1, 0, none⟩), .pointer (some ⟨c2, 0, none⟩)] K Kp v .returning M :=
  acallsD_vc (C := Cx) good (args := [.pointer (some ⟨c1, 0, none⟩), .pointer (some ⟨c2, 0, none⟩)]) (d := 6) (x := .nilIface) (u' := .returning) [(10, .reg [0, 0, 0, 3, 11, 31, 63] (.step 0 (.step 1 (.step 3 (.prom 2 (.step 4 (.step 5 (.step 6 .done))))))))] Tryz.func135 rfl rfl (by kernel_rfl) rfl (by kernel_rfl) (vc := K v M) h
theorem gleave_Dry {c1 c2 : Nat} {v : Value} {M : Mem} {K : Value → Mem → Prop} {Kp : List PanicEntry → Mem → Prop} (h :
nwc M (.cells #[] 227 (0, 0)) fun k1 M2 =>
exP (Mem.ld M2 ⟨c1, 0, none⟩) fun A3 =>
nilc A3 fun k4 k5 =>
stc M2 ⟨k4, k5, none⟩ (.int .i64 1) fun M6 =>
K v M6) :
    leaveL Tryz.prog 135 [.pointer (some ⟨c1, 0, none⟩), .pointer (some ⟨c2, 0, none⟩)] K Kp v (.panicking [{ v := .iface 227 (.agg #[]), recovered := false }]) M :=
  acallsD_vc (C := Cx) good (args := [.pointer (some ⟨c1, 0, none⟩), .pointer (some ⟨c2, 0, none⟩)]) (d := 6) (x := .iface 227 (.agg #[])) (u' := .panicking [{ v := .iface 227 (.agg #[]), recovered := true }]) [(10, .reg [0, 0, 0, 3, 11, 31, 63] (.step 0 (.step 1 (.step 3 (.prom 2 (.step 4 (.step 5 (.step 6 .done))))))))] Tryz.func135 rfl rfl (by kernel_rfl) rfl (by kernel_rfl) h
theorem gleave_Dry2 {c1 c2 : Nat} {v : Value} {M : Mem} {K : Value → Mem → Prop} {Kp : List PanicEntry → Mem → Prop} (h :
nwc M (.cells #[] 227 (0, 0)) fun k1 M2 =>
exP (Mem.ld M2 ⟨c1, 0, none⟩) fun A3 =>
nilc A3 fun k4 k5 =>
stc M2 ⟨k4, k5, none⟩ (.int .i64 1) fun M6 =>
K v M6) :
    leaveL Tryz.prog 135 [.pointer (some ⟨c1, 0, none⟩), .pointer (some ⟨c2, 0, none⟩)] K Kp v (.panicking [{ v := .iface 227 (.agg #[]), recovered := false }, { v := .iface 227 (.agg #[]), recovered := true }]) M :=
  acallsD_vc (C := Cx) good (args := [.pointer (some ⟨c1, 0, none⟩), .pointer (some ⟨c2, 0, none⟩)]) (d := 6) (x := .iface 227 (.agg #[])) (u' := .panicking [{ v := .iface 227 (.agg #[]), recovered := true }, { v := .iface 227 (.agg #[]), recovered := true }]) [(10, .reg [0, 0, 0, 3, 11, 31, 63] (.step 0 (.step 1 (.step 3 (.prom 2 (.step 4 (.step 5 (.step 6 .done))))))))] Tryz.func135 rfl rfl (by kernel_rfl) rfl (by kernel_rfl) h
theorem gleave_Unlike {c1 c2 : Nat} {at_ kind n k x : Int} {v : Value} {M : Mem} {K : Value → Mem → Prop} {Kp : List PanicEntry → Mem → Prop} (h :
nwc M (.cells #[(.int .i64 0), (.int .i64 0), (.int .i64 0), (.int .i64 0), (.int .u64 0)] 155 (0, 0)) fun k1 M2 =>
stc M2 ⟨k1, 0, none⟩ (.int .i64 at_) fun M3 =>
stc M3 ⟨k1, (0 + 1), none⟩ (.int .i64 kind) fun M4 =>
stc M4 ⟨k1, (0 + 2), none⟩ (.int .i64 n) fun M5 =>
stc M5 ⟨k1, (0 + 3), none⟩ (.int .i64 k) fun M6 =>
stc M6 ⟨k1, (0 + 4), none⟩ (.int .u64 x) fun M7 =>
exP (Mem.ld M7 ⟨c1, 0, none⟩) fun A8 =>
exP (Mem.ld M7 ⟨c2, 0, none⟩) fun A9 =>
nilc A8 fun k10 k11 =>
exI (Mem.ld M7 ⟨k1, 0, none⟩) .i64 fun n12 =>
exI (Mem.ld M7 ⟨k1, (0 + 1), none⟩) .i64 fun n13 =>
exI (Mem.ld M7 ⟨k1, (0 + 2), none⟩) .i64 fun n14 =>
exI (Mem.ld M7 ⟨k1, (0 + 3), none⟩) .i64 fun n15 =>
exI (Mem.ld M7 ⟨k1, (0 + 4), none⟩) .u64 fun n16 =>
stc M7 ⟨k10, k11, none⟩ (.int .i64 2) fun M17 =>
((Mem.lds M17 ⟨k1, 0, none⟩ 0 5) = some [(.int .i64 n12), (.int .i64 n13), (.int .i64 n14), (.int .i64 n15), (.int .u64 n16)]) ∧
nilc A9 fun k18 k19 =>
stc M17 ⟨k18, k19, none⟩ (.int .i64 n12) fun M20 =>
stc M20 ⟨k18, (k19 + 1), none⟩ (.int .i64 n13) fun M21 =>
stc M21 ⟨k18, (k19 + 2), none⟩ (.int .i64 n14) fun M22 =>
stc M22 ⟨k18, (k19 + 3), none⟩ (.int .i64 n15) fun M23 =>
stc M23 ⟨k18, (k19 + 4), none⟩ (.int .u64 n16) fun M24 =>
((Mem.lds M24 ⟨k1, 0, none⟩ 0 5) = some [(.int .i64 n12), (.int .i64 n13), (.int .i64 n14), (.int .i64 n15), (.int .u64 n16)]) ∧
K v M24) :
    leaveL Tryz.prog 135 [.pointer (some ⟨c1, 0, none⟩), .pointer (some ⟨c2, 0, none⟩)] K Kp v (.panicking [{ v := .iface 155 (.agg #[.int .i64 at_, .int .i64 kind, .int .i64 n, .int .i64 k, .int .u64 x]), recovered := false }]) M :=
  acallsD_vc (C := Cx) good (args := [.pointer (some ⟨c1, 0, none⟩), .pointer (some ⟨c2, 0, none⟩)]) (d := 6) (x := .iface 155 (.agg #[.int .i64 at_, .int .i64 kind, .int .i64 n, .int .i64 k, .int .u64 x])) (u' := .panicking [{ v := .iface 155 (.agg #[.int .i64 at_, .int .i64 kind, .int .i64 n, .int .i64 k, .int .u64 x]), recovered := true }]) [(10, .reg [0, 0, 0, 3, 11, 31, 63] (.step 0 (.step 1 (.step 3 (.prom 2 (.step 4 (.step 5 (.step 6 .done))))))))] Tryz.func135 rfl rfl (by kernel_rfl) rfl (by kernel_rfl) h
theorem gleave_Unlike2 {c1 c2 : Nat} {at_ kind n k x : Int} {v : Value} {M : Mem} {K : Value → Mem → Prop} {Kp : List PanicEntry → Mem → Prop} (h :
nwc M (.cells #[(.int .i64 0), (.int .i64 0), (.int .i64 0), (.int .i64 0), (.int .u64 0)] 155 (0, 0)) fun k1 M2 =>
stc M2 ⟨k1, 0, none⟩ (.int .i64 at_) fun M3 =>
stc M3 ⟨k1, (0 + 1), none⟩ (.int .i64 kind) fun M4 =>
stc M4 ⟨k1, (0 + 2), none⟩ (.int .i64 n) fun M5 =>
stc M5 ⟨k1, (0 + 3), none⟩ (.int .i64 k) fun M6 =>
stc M6 ⟨k1, (0 + 4), none⟩ (.int .u64 x) fun M7 =>
exP (Mem.ld M7 ⟨c1, 0, none⟩) fun A8 =>
exP (Mem.ld M7 ⟨c2, 0, none⟩) fun A9 =>
nilc A8 fun k10 k11 =>
exI (Mem.ld M7 ⟨k1, 0, none⟩) .i64 fun n12 =>
exI (Mem.ld M7 ⟨k1, (0 + 1), none⟩) .i64 fun n13 =>
exI (Mem.ld M7 ⟨k1, (0 + 2), none⟩) .i64 fun n14 =>
exI (Mem.ld M7 ⟨k1, (0 + 3), none⟩) .i64 fun n15 =>
exI (Mem.ld M7 ⟨k1, (0 + 4), none⟩) .u64 fun n16 =>
stc M7 ⟨k10, k11, none⟩ (.int .i64 2) fun M17 =>
((Mem.lds M17 ⟨k1, 0, none⟩ 0 5) = some [(.int .i64 n12), (.int .i64 n13), (.int .i64 n14), (.int .i64 n15), (.int .u64 n16)]) ∧
nilc A9 fun k18 k19 =>
stc M17 ⟨k18, k19, none⟩ (.int .i64 n12) fun M20 =>
stc M20 ⟨k18, (k19 + 1), none⟩ (.int .i64 n13) fun M21 =>
stc M21 ⟨k18, (k19 + 2), none⟩ (.int .i64 n14) fun M22 =>
stc M22 ⟨k18, (k19 + 3), none⟩ (.int .i64 n15) fun M23 =>
stc M23 ⟨k18, (k19 + 4), none⟩ (.int .u64 n16) fun M24 =>
((Mem.lds M24 ⟨k1, 0, none⟩ 0 5) = some [(.int .i64 n12), (.int .i64 n13), (.int .i64 n14), (.int .i64 n15), (.int .u64 n16)]) ∧
K v M24) :
    leaveL Tryz.prog 135 [.pointer (some ⟨c1, 0, none⟩), .pointer (some ⟨c2, 0, none⟩)] K Kp v (.panicking [{ v := .iface 155 (.agg #[.int .i64 at_, .int .i64 kind, .int .i64 n, .int .i64 k, .int .u64 x]), recovered := false }, { v := .iface 155 (.agg #[.int .i64 at_, .int .i64 kind, .int .i64 n, .int .i64 k, .int .u64 x]), recovered := true }]) M :=
  acallsD_vc (C := Cx) good (args := [.pointer (some ⟨c1, 0, none⟩), .pointer (some ⟨c2, 0, none⟩)]) (d := 6) (x := .iface 155 (.agg #[.int .i64 at_, .int .i64 kind, .int .i64 n, .int .i64 k, .int .u64 x])) (u' := .panicking [{ v := .iface 155 (.agg #[.int .i64 at_, .int .i64 kind, .int .i64 n, .int .i64 k, .int .u64 x]), recovered := true }, { v := .iface 155 (.agg #[.int .i64 at_, .int .i64 kind, .int .i64 n, .int .i64 k, .int .u64 x]), recovered := true }]) [(10, .reg [0, 0, 0, 3, 11, 31, 63] (.step 0 (.step 1 (.step 3 (.prom 2 (.step 4 (.step 5 (.step 6 .done))))))))] Tryz.func135 rfl rfl (by kernel_rfl) rfl (by kernel_rfl) h
end Go.Proofs
