/- A part of proofs about functions of one program: a condition over a partial memory that is enough for a call, and what calls answer by it. No condition of its own. -/
import Derived.Scope
import Derived.Test.YtfjgcljdnhkmaaaGreatProg
import Derived.WalkKit
import Derived.Test.YtfjgcljdnhkmaaaGreatZSchedStealsBase
import Derived.Test.YtfjgcljdnhkmaaaGreatZSchedStealsOps
import Derived.Test.YtfjgcljdnhkmaaaGreatZSchedStealsOpsB
import Derived.Test.YtfjgcljdnhkmaaaGreatZSchedStealsOpC
import Derived.Test.YtfjgcljdnhkmaaaGreatZSchedStealsFrame
import Derived.Test.YtfjgcljdnhkmaaaGreatZSchedStealsReg
import Derived.Test.YtfjgcljdnhkmaaaGreatZSchedStealsRegB
import Derived.Test.YtfjgcljdnhkmaaaGreatZSchedStealsRegL
import Derived.Test.YtfjgcljdnhkmaaaGreatZSchedStealsRegC
import Derived.Test.YtfjgcljdnhkmaaaGreatZSchedStealsExec
import Derived.Test.YtfjgcljdnhkmaaaGreatZSchedStealsSound
import Derived.Test.YtfjgcljdnhkmaaaGreatZSchedStealsSoundB
import Derived.Test.YtfjgcljdnhkmaaaGreatZSchedStealsLib
import Derived.Test.YtfjgcljdnhkmaaaGreatZSchedStealsHp
import Derived.Test.YtfjgcljdnhkmaaaGreatZSchedStealsRow
import Derived.Test.YtfjgcljdnhkmaaaGreatZSchedStealsMod

namespace Go.Proofs
open Go.AF
noncomputable def Cx : Ctx := ⟨Tryz.prog, 228⟩
theorem good : Cx.Good := by
  refine ⟨?_, by kernel_rfl⟩
  have h : (List.range 226).all (fun g => callable Tryz.prog (g + 2)) = true := by kernel_rfl
  intro g hg
  have h1 : g < 228 := hg.2
  have := List.all_eq_true.1 h (g - 2) (List.mem_range.2 (by omega))
  have e : g - 2 + 2 = g := by omega
  simp only [e] at this
  exact this
end Go.Proofs

namespace Go.Proofs
open Go.AF
set_option linter.unusedVariables false
set_option maxRecDepth 100000
theorem vc_chans_New {x0 : Int} {M : Mem} {K : Value → Mem → Prop} {Kp : List PanicEntry → Mem → Prop} (h :
nwc M (.cells #[(.int .i64 (if (16 : Int) < (if (0 : Int) > x0 then 0 else x0) then 16 else (if (0 : Int) > x0 then 0 else x0))), (.slice none 0 0), (.slice none 0 0), (.slice none 0 0), (.bool false)] 236 (0, 0)) fun k1 M2 =>
K (.pointer (some ⟨k1, 0, none⟩)) M2) :
  ACalls Tryz.prog 72 ([.int .i64 x0] : List Value).toArray M K Kp :=
  acalls_vc (C := Cx) good [] Tryz.func72 (by kernel_rfl) (by kernel_rfl) h

theorem vc_chans_Chan_WaitRecv {b0 o0 : Nat} {x1_0 : Int} {x1_1 : Int} {x1_2 : Int} {M : Mem} {K : Value → Mem → Prop} {Kp : List PanicEntry → Mem → Prop} (h :
nwc M (.cells #[(.int .i64 x1_0), (.int .i64 x1_1), (.int .i64 x1_2)] 298 (0, 0)) fun k1 M2 =>
exSl (Mem.ld M2 ⟨b0, (o0 + 3), none⟩) fun A3 k4 k5 =>
exI (Mem.ld M2 ⟨k1, 0, none⟩) .i64 fun n6 =>
exI (Mem.ld M2 ⟨k1, (0 + 1), none⟩) .i64 fun n7 =>
exI (Mem.ld M2 ⟨k1, (0 + 2), none⟩) .i64 fun n8 =>
nwc M2 (.cells #[(.int .i64 n6), (.int .i64 n7), (.int .i64 n8)] 298 (0, 0)) fun k9 M10 =>
semK Tryz.prog (Go.Builtin.append_ #[199, 199] 199 #[(.slice A3 k4 k5), (.slice (some ⟨k9, 0, none⟩) 1 1)]) M10 (fun v11 M12 =>
exSl (some v11) fun A13 k14 k15 =>
stc M12 ⟨b0, (o0 + 3), none⟩ (.slice A13 k14 k15) fun M16 =>
K (.tuple #[]) M16) Kp) :
  ACalls Tryz.prog 205 ([.pointer (some ⟨b0, o0, none⟩), .agg #[.int .i64 x1_0, .int .i64 x1_1, .int .i64 x1_2]] : List Value).toArray M K Kp :=
  acalls_vc (C := Cx) good [(1, .reg [0, 0, 2, 6, 14, 0, 32, 126, 255, 511, 1023] (.step 0 (.step 1 (.step 2 (.step 3 (.step 4 (.step 5 (.step 6 (.step 7 (.step 8 (.step 9 (.step 10 .done))))))))))))] Tryz.func205 (by kernel_rfl) (by kernel_rfl) h

theorem vc_chans_Chan_WaitSend {b0 o0 : Nat} {x1_0 : Int} {x1_1 : Int} {x1_2 : Int} {M : Mem} {K : Value → Mem → Prop} {Kp : List PanicEntry → Mem → Prop} (h :
nwc M (.cells #[(.int .i64 x1_0), (.int .i64 x1_1), (.int .i64 x1_2)] 298 (0, 0)) fun k1 M2 =>
exSl (Mem.ld M2 ⟨b0, (o0 + 2), none⟩) fun A3 k4 k5 =>
exI (Mem.ld M2 ⟨k1, 0, none⟩) .i64 fun n6 =>
exI (Mem.ld M2 ⟨k1, (0 + 1), none⟩) .i64 fun n7 =>
exI (Mem.ld M2 ⟨k1, (0 + 2), none⟩) .i64 fun n8 =>
nwc M2 (.cells #[(.int .i64 n6), (.int .i64 n7), (.int .i64 n8)] 298 (0, 0)) fun k9 M10 =>
semK Tryz.prog (Go.Builtin.append_ #[199, 199] 199 #[(.slice A3 k4 k5), (.slice (some ⟨k9, 0, none⟩) 1 1)]) M10 (fun v11 M12 =>
exSl (some v11) fun A13 k14 k15 =>
stc M12 ⟨b0, (o0 + 2), none⟩ (.slice A13 k14 k15) fun M16 =>
K (.tuple #[]) M16) Kp) :
  ACalls Tryz.prog 206 ([.pointer (some ⟨b0, o0, none⟩), .agg #[.int .i64 x1_0, .int .i64 x1_1, .int .i64 x1_2]] : List Value).toArray M K Kp :=
  acalls_vc (C := Cx) good [(1, .reg [0, 0, 2, 6, 14, 0, 32, 126, 255, 511, 1023] (.step 0 (.step 1 (.step 2 (.step 3 (.step 4 (.step 5 (.step 6 (.step 7 (.step 8 (.step 9 (.step 10 .done))))))))))))] Tryz.func206 (by kernel_rfl) (by kernel_rfl) h

theorem vc_chans_Chan_Send {b0 o0 : Nat} {x1 : Int} {M : Mem} {K : Value → Mem → Prop} {Kp : List PanicEntry → Mem → Prop} (h :
nwc M (.cells #[(.int .i64 0), (.int .i64 0), (.int .i64 0)] 298 (0, 0)) fun k1 M2 =>
exB (Mem.ld M2 ⟨b0, (o0 + 4), none⟩) fun t3 =>
bsp t3
 (stc M2 ⟨k1, 0, none⟩ (.int .i64 0) fun M4 =>
  stc M4 ⟨k1, (0 + 1), none⟩ (.int .i64 0) fun M5 =>
  stc M5 ⟨k1, (0 + 2), none⟩ (.int .i64 0) fun M6 =>
  exI (Mem.ld M6 ⟨k1, 0, none⟩) .i64 fun n7 =>
  exI (Mem.ld M6 ⟨k1, (0 + 1), none⟩) .i64 fun n8 =>
  exI (Mem.ld M6 ⟨k1, (0 + 2), none⟩) .i64 fun n9 =>
  K (.tuple #[(.agg #[(.int .i64 n7), (.int .i64 n8), (.int .i64 n9)]), (.bool false), (.int .i64 10)]) M6)
 (exSl (Mem.ld M2 ⟨b0, (o0 + 3), none⟩) fun A10 k11 k12 =>
  bsp (decide ((((k11 : Nat) : Int) : Int) > 0))
   (nwc M2 (.cells #[(.int .i64 0), (.int .i64 0), (.int .i64 0)] 298 (0, 0)) fun k13 M14 =>
    exSl (Mem.ld M14 ⟨b0, (o0 + 3), none⟩) fun A15 k16 k17 =>
    ACalls Tryz.prog 222 #[(.slice A15 k16 k17)] M14 (fun v18 M19 =>
    ∃ n20 : Int, ∃ n21 : Int, ∃ n22 : Int, ∃ A23 : Option Addr, ∃ k24 : Nat, ∃ k25 : Nat, (v18 = (.tuple #[(.agg #[(.int .i64 n20), (.int .i64 n21), (.int .i64 n22)]), (.slice A23 k24 k25)])) ∧
    stc M19 ⟨k13, 0, none⟩ (.int .i64 n20) fun M26 =>
    stc M26 ⟨k13, (0 + 1), none⟩ (.int .i64 n21) fun M27 =>
    stc M27 ⟨k13, (0 + 2), none⟩ (.int .i64 n22) fun M28 =>
    stc M28 ⟨b0, (o0 + 3), none⟩ (.slice A23 k24 k25) fun M29 =>
    stc M29 ⟨k13, (0 + 2), none⟩ (.int .i64 x1) fun M30 =>
    exI (Mem.ld M30 ⟨k13, 0, none⟩) .i64 fun n31 =>
    exI (Mem.ld M30 ⟨k13, (0 + 1), none⟩) .i64 fun n32 =>
    exI (Mem.ld M30 ⟨k13, (0 + 2), none⟩) .i64 fun n33 =>
    stc M30 ⟨k1, 0, none⟩ (.int .i64 n31) fun M34 =>
    stc M34 ⟨k1, (0 + 1), none⟩ (.int .i64 n32) fun M35 =>
    stc M35 ⟨k1, (0 + 2), none⟩ (.int .i64 n33) fun M36 =>
    exI (Mem.ld M36 ⟨k1, 0, none⟩) .i64 fun n37 =>
    exI (Mem.ld M36 ⟨k1, (0 + 1), none⟩) .i64 fun n38 =>
    exI (Mem.ld M36 ⟨k1, (0 + 2), none⟩) .i64 fun n39 =>
    K (.tuple #[(.agg #[(.int .i64 n37), (.int .i64 n38), (.int .i64 n39)]), (.bool true), (.int .i64 0)]) M36) Kp)
   (exSl (Mem.ld M2 ⟨b0, (o0 + 1), none⟩) fun A40 k41 k42 =>
    exI (Mem.ld M2 ⟨b0, o0, none⟩) .i64 fun n43 =>
    bsp (decide ((((k41 : Nat) : Int) : Int) < n43))
     (exSl (Mem.ld M2 ⟨b0, (o0 + 1), none⟩) fun A44 k45 k46 =>
      nwc M2 (.cells #[(.int .i64 x1)] 2 (0, 0)) fun k47 M48 =>
      semK Tryz.prog (Go.Builtin.append_ #[59, 59] 59 #[(.slice A44 k45 k46), (.slice (some ⟨k47, 0, none⟩) 1 1)]) M48 (fun v49 M50 =>
      exSl (some v49) fun A51 k52 k53 =>
      stc M50 ⟨b0, (o0 + 1), none⟩ (.slice A51 k52 k53) fun M54 =>
      stc M54 ⟨k1, 0, none⟩ (.int .i64 0) fun M55 =>
      stc M55 ⟨k1, (0 + 1), none⟩ (.int .i64 0) fun M56 =>
      stc M56 ⟨k1, (0 + 2), none⟩ (.int .i64 0) fun M57 =>
      exI (Mem.ld M57 ⟨k1, 0, none⟩) .i64 fun n58 =>
      exI (Mem.ld M57 ⟨k1, (0 + 1), none⟩) .i64 fun n59 =>
      exI (Mem.ld M57 ⟨k1, (0 + 2), none⟩) .i64 fun n60 =>
      K (.tuple #[(.agg #[(.int .i64 n58), (.int .i64 n59), (.int .i64 n60)]), (.bool false), (.int .i64 0)]) M57) Kp)
     (stc M2 ⟨k1, 0, none⟩ (.int .i64 0) fun M61 =>
      stc M61 ⟨k1, (0 + 1), none⟩ (.int .i64 0) fun M62 =>
      stc M62 ⟨k1, (0 + 2), none⟩ (.int .i64 0) fun M63 =>
      exI (Mem.ld M63 ⟨k1, 0, none⟩) .i64 fun n64 =>
      exI (Mem.ld M63 ⟨k1, (0 + 1), none⟩) .i64 fun n65 =>
      exI (Mem.ld M63 ⟨k1, (0 + 2), none⟩) .i64 fun n66 =>
      K (.tuple #[(.agg #[(.int .i64 n64), (.int .i64 n65), (.int .i64 n66)]), (.bool false), (.int .i64 6)]) M63)))) :
  ACalls Tryz.prog 207 ([.pointer (some ⟨b0, o0, none⟩), .int .i64 x1] : List Value).toArray M K Kp :=
  acalls_vc (C := Cx) good [(8, .reg [0, 1, 3, 7, 15, 0, 32, 96, 224, 511, 1023] (.step 0 (.step 1 (.step 2 (.step 5 (.step 6 (.step 7 (.step 3 (.step 4 (.step 8 (.step 9 (.step 10 .done))))))))))))] Tryz.func207 (by kernel_rfl) (by kernel_rfl) h

theorem vc_chans_Chan_Recv {b0 o0 : Nat} {M : Mem} {K : Value → Mem → Prop} {Kp : List PanicEntry → Mem → Prop} (h :
nwc M (.cells #[(.int .i64 0), (.bool false), (.int .i64 0), (.int .i64 0), (.int .i64 0), (.bool false)] 335 (0, 0)) fun k1 M2 =>
nwc M2 (.cells #[(.int .i64 0), (.bool false), (.int .i64 0), (.int .i64 0), (.int .i64 0), (.bool false)] 335 (0, 0)) fun k3 M4 =>
exSl (Mem.ld M4 ⟨b0, (o0 + 2), none⟩) fun A5 k6 k7 =>
∃ J8 : List Value → Mem → Prop, (bsp (decide ((((k6 : Nat) : Int) : Int) > 0))
  (exSl (Mem.ld M4 ⟨b0, (o0 + 2), none⟩) fun A9 k10 k11 =>
   ACalls Tryz.prog 222 #[(.slice A9 k10 k11)] M4 (fun v12 M13 =>
   ∃ n14 : Int, ∃ n15 : Int, ∃ n16 : Int, ∃ A17 : Option Addr, ∃ k18 : Nat, ∃ k19 : Nat, (v12 = (.tuple #[(.agg #[(.int .i64 n14), (.int .i64 n15), (.int .i64 n16)]), (.slice A17 k18 k19)])) ∧
   stc M13 ⟨k3, (0 + 2), none⟩ (.int .i64 n14) fun M20 =>
   stc M20 ⟨k3, ((0 + 2) + 1), none⟩ (.int .i64 n15) fun M21 =>
   stc M21 ⟨k3, ((0 + 2) + 2), none⟩ (.int .i64 n16) fun M22 =>
   stc M22 ⟨b0, (o0 + 2), none⟩ (.slice A17 k18 k19) fun M23 =>
   stc M23 ⟨k3, (0 + 5), none⟩ (.bool true) fun M24 =>
   exSl (Mem.ld M24 ⟨b0, (o0 + 1), none⟩) fun A25 k26 k27 =>
   exI (Mem.ld M24 ⟨k3, ((0 + 2) + 2), none⟩) .i64 fun n28 =>
   nwc M24 (.cells #[(.int .i64 n28)] 2 (0, 0)) fun k29 M30 =>
   semK Tryz.prog (Go.Builtin.append_ #[59, 59] 59 #[(.slice A25 k26 k27), (.slice (some ⟨k29, 0, none⟩) 1 1)]) M30 (fun v31 M32 =>
   exSl (some v31) fun A33 k34 k35 =>
   stc M32 ⟨b0, (o0 + 1), none⟩ (.slice A33 k34 k35) fun M36 =>
   J8 [] M36) Kp) Kp)
  (J8 [] M4)) ∧
∀ junk37 : Nat → Value, ∀ M38 : Mem, (J8 [] M38) → exSl (Mem.ld M38 ⟨b0, (o0 + 1), none⟩) fun A39 k40 k41 =>
bsp (decide ((((k40 : Nat) : Int) : Int) > 0))
 (exSl (Mem.ld M38 ⟨b0, (o0 + 1), none⟩) fun A42 k43 k44 =>
  ((0 : Int) ≤ 0) ∧
  ((0 : Int) < ((k43 : Nat) : Int)) ∧
  nilc A42 fun k45 k46 =>
  exI (Mem.ld M38 ⟨k45, (k46 + 0), none⟩) .i64 fun n47 =>
  stc M38 ⟨k3, 0, none⟩ (.int .i64 n47) fun M48 =>
  stc M48 ⟨k3, (0 + 1), none⟩ (.bool true) fun M49 =>
  nwc M49 (.cells #[] 2 (0, 0)) fun k50 M51 =>
  exSl (Mem.ld M51 ⟨b0, (o0 + 1), none⟩) fun A52 k53 k54 =>
  ((0 : Int) ≤ ((k54 : Nat) : Int)) ∧
  ((((k54 : Nat) : Int) : Int) ≤ ((k54 : Nat) : Int)) ∧
  ((0 : Int) ≤ ((k53 : Nat) : Int)) ∧
  ((((k53 : Nat) : Int) : Int) ≤ ((k54 : Nat) : Int)) ∧
  ((0 : Int) ≤ 1) ∧
  ((1 : Int) ≤ ((k53 : Nat) : Int)) ∧
  semK Tryz.prog (Go.Builtin.append_ #[59, 59] 59 #[(.slice (some ⟨k50, 0, none⟩) 0 0), (.slice (slA A52 1 (Int.toNat ((k54 : Nat) : Int)) 1) ((Int.toNat ((k53 : Nat) : Int)) - 1) ((Int.toNat ((k54 : Nat) : Int)) - 1))]) M51 (fun v55 M56 =>
  exSl (some v55) fun A57 k58 k59 =>
  stc M56 ⟨b0, (o0 + 1), none⟩ (.slice A57 k58 k59) fun M60 =>
  exI (Mem.ld M60 ⟨k3, 0, none⟩) .i64 fun n61 =>
  exB (Mem.ld M60 ⟨k3, (0 + 1), none⟩) fun t62 =>
  exI (Mem.ld M60 ⟨k3, (0 + 2), none⟩) .i64 fun n63 =>
  exI (Mem.ld M60 ⟨k3, (0 + 3), none⟩) .i64 fun n64 =>
  exI (Mem.ld M60 ⟨k3, (0 + 4), none⟩) .i64 fun n65 =>
  exB (Mem.ld M60 ⟨k3, (0 + 5), none⟩) fun t66 =>
  stc M60 ⟨k1, 0, none⟩ (.int .i64 n61) fun M67 =>
  stc M67 ⟨k1, (0 + 1), none⟩ (.bool t62) fun M68 =>
  stc M68 ⟨k1, (0 + 2), none⟩ (.int .i64 n63) fun M69 =>
  stc M69 ⟨k1, (0 + 3), none⟩ (.int .i64 n64) fun M70 =>
  stc M70 ⟨k1, (0 + 4), none⟩ (.int .i64 n65) fun M71 =>
  stc M71 ⟨k1, (0 + 5), none⟩ (.bool t66) fun M72 =>
  exI (Mem.ld M72 ⟨k1, 0, none⟩) .i64 fun n73 =>
  exB (Mem.ld M72 ⟨k1, (0 + 1), none⟩) fun t74 =>
  exI (Mem.ld M72 ⟨k1, (0 + 2), none⟩) .i64 fun n75 =>
  exI (Mem.ld M72 ⟨k1, (0 + 3), none⟩) .i64 fun n76 =>
  exI (Mem.ld M72 ⟨k1, (0 + 4), none⟩) .i64 fun n77 =>
  exB (Mem.ld M72 ⟨k1, (0 + 5), none⟩) fun t78 =>
  K (.tuple #[(.agg #[(.int .i64 n73), (.bool t74), (.int .i64 n75), (.int .i64 n76), (.int .i64 n77), (.bool t78)]), (.int .i64 0)]) M72) Kp)
 (exB (Mem.ld M38 ⟨b0, (o0 + 4), none⟩) fun t79 =>
  bsp t79
   (exI (Mem.ld M38 ⟨k3, 0, none⟩) .i64 fun n80 =>
    exB (Mem.ld M38 ⟨k3, (0 + 1), none⟩) fun t81 =>
    exI (Mem.ld M38 ⟨k3, (0 + 2), none⟩) .i64 fun n82 =>
    exI (Mem.ld M38 ⟨k3, (0 + 3), none⟩) .i64 fun n83 =>
    exI (Mem.ld M38 ⟨k3, (0 + 4), none⟩) .i64 fun n84 =>
    exB (Mem.ld M38 ⟨k3, (0 + 5), none⟩) fun t85 =>
    stc M38 ⟨k1, 0, none⟩ (.int .i64 n80) fun M86 =>
    stc M86 ⟨k1, (0 + 1), none⟩ (.bool t81) fun M87 =>
    stc M87 ⟨k1, (0 + 2), none⟩ (.int .i64 n82) fun M88 =>
    stc M88 ⟨k1, (0 + 3), none⟩ (.int .i64 n83) fun M89 =>
    stc M89 ⟨k1, (0 + 4), none⟩ (.int .i64 n84) fun M90 =>
    stc M90 ⟨k1, (0 + 5), none⟩ (.bool t85) fun M91 =>
    exI (Mem.ld M91 ⟨k1, 0, none⟩) .i64 fun n92 =>
    exB (Mem.ld M91 ⟨k1, (0 + 1), none⟩) fun t93 =>
    exI (Mem.ld M91 ⟨k1, (0 + 2), none⟩) .i64 fun n94 =>
    exI (Mem.ld M91 ⟨k1, (0 + 3), none⟩) .i64 fun n95 =>
    exI (Mem.ld M91 ⟨k1, (0 + 4), none⟩) .i64 fun n96 =>
    exB (Mem.ld M91 ⟨k1, (0 + 5), none⟩) fun t97 =>
    K (.tuple #[(.agg #[(.int .i64 n92), (.bool t93), (.int .i64 n94), (.int .i64 n95), (.int .i64 n96), (.bool t97)]), (.int .i64 0)]) M91)
   (exI (Mem.ld M38 ⟨k3, 0, none⟩) .i64 fun n98 =>
    exB (Mem.ld M38 ⟨k3, (0 + 1), none⟩) fun t99 =>
    exI (Mem.ld M38 ⟨k3, (0 + 2), none⟩) .i64 fun n100 =>
    exI (Mem.ld M38 ⟨k3, (0 + 3), none⟩) .i64 fun n101 =>
    exI (Mem.ld M38 ⟨k3, (0 + 4), none⟩) .i64 fun n102 =>
    exB (Mem.ld M38 ⟨k3, (0 + 5), none⟩) fun t103 =>
    stc M38 ⟨k1, 0, none⟩ (.int .i64 n98) fun M104 =>
    stc M104 ⟨k1, (0 + 1), none⟩ (.bool t99) fun M105 =>
    stc M105 ⟨k1, (0 + 2), none⟩ (.int .i64 n100) fun M106 =>
    stc M106 ⟨k1, (0 + 3), none⟩ (.int .i64 n101) fun M107 =>
    stc M107 ⟨k1, (0 + 4), none⟩ (.int .i64 n102) fun M108 =>
    stc M108 ⟨k1, (0 + 5), none⟩ (.bool t103) fun M109 =>
    exI (Mem.ld M109 ⟨k1, 0, none⟩) .i64 fun n110 =>
    exB (Mem.ld M109 ⟨k1, (0 + 1), none⟩) fun t111 =>
    exI (Mem.ld M109 ⟨k1, (0 + 2), none⟩) .i64 fun n112 =>
    exI (Mem.ld M109 ⟨k1, (0 + 3), none⟩) .i64 fun n113 =>
    exI (Mem.ld M109 ⟨k1, (0 + 4), none⟩) .i64 fun n114 =>
    exB (Mem.ld M109 ⟨k1, (0 + 5), none⟩) fun t115 =>
    K (.tuple #[(.agg #[(.int .i64 n110), (.bool t111), (.int .i64 n112), (.int .i64 n113), (.int .i64 n114), (.bool t115)]), (.int .i64 5)]) M109))) :
  ACalls Tryz.prog 209 ([.pointer (some ⟨b0, o0, none⟩)] : List Value).toArray M K Kp :=
  acalls_vc (C := Cx) good [(3000010, .cut []), (5, .reg [0, 0, 2, 6, 14, 0, 32, 96, 224, 510, 1023, 2047, 4095] (.step 0 (.step 1 (.step 2 (.step 3 (.step 5 (.step 6 (.step 4 (.step 7 (.step 8 (.step 9 (.step 10 (.step 11 (.step 12 .done))))))))))))))] Tryz.func209 (by kernel_rfl) (by kernel_rfl) h

theorem vc_chans_Chan_Close {b0 o0 : Nat} {M : Mem} {K : Value → Mem → Prop} {Kp : List PanicEntry → Mem → Prop} (h :
exB (Mem.ld M ⟨b0, (o0 + 4), none⟩) fun t1 =>
bsp t1
 (K (.tuple #[(.slice none 0 0), (.slice none 0 0), (.int .i64 10)]) M)
 (exSl (Mem.ld M ⟨b0, (o0 + 3), none⟩) fun A2 k3 k4 =>
  exSl (Mem.ld M ⟨b0, (o0 + 2), none⟩) fun A5 k6 k7 =>
  stc M ⟨b0, (o0 + 4), none⟩ (.bool true) fun M8 =>
  stc M8 ⟨b0, (o0 + 3), none⟩ (.slice none 0 0) fun M9 =>
  stc M9 ⟨b0, (o0 + 2), none⟩ (.slice none 0 0) fun M10 =>
  K (.tuple #[(.slice A2 k3 k4), (.slice A5 k6 k7), (.int .i64 0)]) M10)) :
  ACalls Tryz.prog 213 ([.pointer (some ⟨b0, o0, none⟩)] : List Value).toArray M K Kp :=
  acalls_vc (C := Cx) good [(3, .reg [0, 1, 3, 7, 0, 16, 48, 112, 15, 511] (.step 0 (.step 1 (.step 2 (.step 4 (.step 5 (.step 6 (.step 3 (.step 8 (.step 7 (.step 9 .done)))))))))))] Tryz.func213 (by kernel_rfl) (by kernel_rfl) h

theorem vc_chans_Chan_CanRecv {b0 o0 : Nat} {M : Mem} {K : Value → Mem → Prop} {Kp : List PanicEntry → Mem → Prop} (h :
exB (Mem.ld M ⟨b0, (o0 + 4), none⟩) fun t1 =>
bsp t1
 (K (.bool true) M)
 (exSl (Mem.ld M ⟨b0, (o0 + 2), none⟩) fun A2 k3 k4 =>
  bsp (decide ((((k3 : Nat) : Int) : Int) > 0))
   (K (.bool true) M)
   (exSl (Mem.ld M ⟨b0, (o0 + 1), none⟩) fun A5 k6 k7 =>
    K (.bool (decide ((((k6 : Nat) : Int) : Int) > 0))) M))) :
  ACalls Tryz.prog 220 ([.pointer (some ⟨b0, o0, none⟩)] : List Value).toArray M K Kp :=
  acalls_vc (C := Cx) good [] Tryz.func220 (by kernel_rfl) (by kernel_rfl) h

theorem vc_chans_Chan_CanSend {b0 o0 : Nat} {M : Mem} {K : Value → Mem → Prop} {Kp : List PanicEntry → Mem → Prop} (h :
exB (Mem.ld M ⟨b0, (o0 + 4), none⟩) fun t1 =>
bsp t1
 (K (.bool true) M)
 (exSl (Mem.ld M ⟨b0, (o0 + 3), none⟩) fun A2 k3 k4 =>
  bsp (decide ((((k3 : Nat) : Int) : Int) > 0))
   (K (.bool true) M)
   (exSl (Mem.ld M ⟨b0, (o0 + 1), none⟩) fun A5 k6 k7 =>
    exI (Mem.ld M ⟨b0, o0, none⟩) .i64 fun n8 =>
    K (.bool (decide ((((k6 : Nat) : Int) : Int) < n8))) M))) :
  ACalls Tryz.prog 221 ([.pointer (some ⟨b0, o0, none⟩)] : List Value).toArray M K Kp :=
  acalls_vc (C := Cx) good [(1, .reg [0, 1, 3, 7, 15, 31, 63, 127, 255, 511, 1023, 2047, 4095, 8191, 16383, 32767, 65535, 131071, 8191, 270335, 794623, 1843199, 4194303, 8388607, 16777215] (.step 0 (.step 1 (.step 2 (.step 3 (.step 4 (.step 5 (.step 6 (.step 7 (.step 8 (.step 9 (.step 10 (.step 11 (.step 12 (.step 13 (.step 14 (.step 15 (.step 18 (.step 19 (.step 20 (.step 16 (.step 17 (.step 21 (.step 22 (.step 23 (.step 24 .done))))))))))))))))))))))))))] Tryz.func221 (by kernel_rfl) (by kernel_rfl) h

theorem vc_chans_first {B0 : Option Addr} {m0 c0 : Nat} {M : Mem} {K : Value → Mem → Prop} {Kp : List PanicEntry → Mem → Prop} (h :
nwc M (.cells #[(.int .i64 0), (.int .i64 0), (.int .i64 0)] 298 (0, 0)) fun k1 M2 =>
((0 : Int) ≤ 0) ∧
((0 : Int) < ((m0 : Nat) : Int)) ∧
nilc B0 fun k3 k4 =>
((0 : Int) ≤ ((c0 : Nat) : Int)) ∧
((((c0 : Nat) : Int) : Int) ≤ ((c0 : Nat) : Int)) ∧
((0 : Int) ≤ ((m0 : Nat) : Int)) ∧
((((m0 : Nat) : Int) : Int) ≤ ((c0 : Nat) : Int)) ∧
((0 : Int) ≤ 1) ∧
((1 : Int) ≤ ((m0 : Nat) : Int)) ∧
exI (Mem.ld M2 ⟨k3, (k4 + 0), none⟩) .i64 fun n5 =>
exI (Mem.ld M2 ⟨k3, ((k4 + 0) + 1), none⟩) .i64 fun n6 =>
exI (Mem.ld M2 ⟨k3, ((k4 + 0) + 2), none⟩) .i64 fun n7 =>
nwc M2 (.cells #[] 298 (0, 0)) fun k8 M9 =>
semK Tryz.prog (Go.Builtin.append_ #[199, 199] 199 #[(.slice (some ⟨k8, 0, none⟩) 0 0), (.slice (slA B0 1 (Int.toNat ((c0 : Nat) : Int)) 3) ((Int.toNat ((m0 : Nat) : Int)) - 1) ((Int.toNat ((c0 : Nat) : Int)) - 1))]) M9 (fun v10 M11 =>
exSl (some v10) fun A12 k13 k14 =>
((Mem.lds M11 ⟨k3, (k4 + 0), none⟩ 0 3) = some [(.int .i64 n5), (.int .i64 n6), (.int .i64 n7)]) ∧
stc M11 ⟨k1, 0, none⟩ (.int .i64 n5) fun M15 =>
stc M15 ⟨k1, (0 + 1), none⟩ (.int .i64 n6) fun M16 =>
stc M16 ⟨k1, (0 + 2), none⟩ (.int .i64 n7) fun M17 =>
((Mem.lds M17 ⟨k3, (k4 + 0), none⟩ 0 3) = some [(.int .i64 n5), (.int .i64 n6), (.int .i64 n7)]) ∧
exI (Mem.ld M17 ⟨k1, 0, none⟩) .i64 fun n18 =>
exI (Mem.ld M17 ⟨k1, (0 + 1), none⟩) .i64 fun n19 =>
exI (Mem.ld M17 ⟨k1, (0 + 2), none⟩) .i64 fun n20 =>
K (.tuple #[(.agg #[(.int .i64 n18), (.int .i64 n19), (.int .i64 n20)]), (.slice A12 k13 k14)]) M17) Kp) :
  ACalls Tryz.prog 222 ([.slice B0 m0 c0] : List Value).toArray M K Kp :=
  acalls_vc (C := Cx) good [(1, .reg [0, 1, 3, 0, 0, 16, 56, 127, 255] (.step 0 (.step 1 (.step 4 (.step 5 (.prom 2 (.step 3 (.step 6 (.step 7 (.step 8 .done))))))))))] Tryz.func222 (by kernel_rfl) (by kernel_rfl) h

theorem vc_chans_Chan_Drop {b0 o0 : Nat} {x1 : Int} {M : Mem} {K : Value → Mem → Prop} {Kp : List PanicEntry → Mem → Prop} (h :
exSl (Mem.ld M ⟨b0, (o0 + 2), none⟩) fun A1 k2 k3 =>
(ACalls Tryz.prog 227 #[(.slice A1 k2 k3), (.int .i64 x1)] M (fun v4 M5 =>
 exSl (some v4) fun A6 k7 k8 =>
 exSl (Mem.ld M5 ⟨b0, (o0 + 3), none⟩) fun A9 k10 k11 =>
 ACalls Tryz.prog 227 #[(.slice A9 k10 k11), (.int .i64 x1)] M5 (fun v12 M13 =>
 exSl (some v12) fun A14 k15 k16 =>
 stc M13 ⟨b0, (o0 + 2), none⟩ (.slice A6 k7 k8) fun M17 =>
 stc M17 ⟨b0, (o0 + 3), none⟩ (.slice A14 k15 k16) fun M18 =>
 K (.tuple #[]) M18) Kp) Kp) ∧
(exSl (Mem.ld M ⟨b0, (o0 + 3), none⟩) fun A19 k20 k21 =>
 ACalls Tryz.prog 227 #[(.slice A1 k2 k3), (.int .i64 x1)] M (fun v22 M23 =>
 exSl (some v22) fun A24 k25 k26 =>
 ACalls Tryz.prog 227 #[(.slice A19 k20 k21), (.int .i64 x1)] M23 (fun v27 M28 =>
 exSl (some v27) fun A29 k30 k31 =>
 stc M28 ⟨b0, (o0 + 2), none⟩ (.slice A24 k25 k26) fun M32 =>
 stc M32 ⟨b0, (o0 + 3), none⟩ (.slice A29 k30 k31) fun M33 =>
 K (.tuple #[]) M33) Kp) Kp) ∧
True) :
  ACalls Tryz.prog 226 ([.pointer (some ⟨b0, o0, none⟩), .int .i64 x1] : List Value).toArray M K Kp :=
  acalls_vc (C := Cx) good [(0, .reg [0, 0, 0, 4, 12, 28, 0, 124, 0, 256, 768, 1792, 0, 8188, 16381, 32765, 65533, 131071, 262143, 524287] (.step 0 (.step 1 (.step 2 (.step 3 (.step 4 (.step 6 (.step 8 (.step 9 (.step 10 (.step 12 (.step 5 (.fork 7 (.step 11 (.step 13 (.step 14 (.step 15 (.step 16 (.step 17 (.step 18 (.step 19 .done)))))))) (.fork 11 (.step 7 (.step 13 (.step 14 (.step 15 (.step 16 (.step 17 (.step 18 (.step 19 .done)))))))) .dead))))))))))))))] Tryz.func226 (by kernel_rfl) (by kernel_rfl) h

theorem vc_chans_without {B0 : Option Addr} {m0 c0 : Nat} {x1 : Int} {M : Mem} {K : Value → Mem → Prop} {Kp : List PanicEntry → Mem → Prop} (h :
∃ I1 : Nat → List Value → Mem → Prop, (∃ k2 : Nat, I1 k2 [(.slice none 0 0), (.int .i64 0)] M) ∧
∀ k3 : Nat, ∀ junk4 : Nat → Value, ∀ A5 : Option Addr, ∀ k6 : Nat, ∀ k7 : Nat, ∀ n8 : Int, ∀ M9 : Mem, (I1 k3 [(.slice A5 k6 k7), (.int .i64 n8)] M9) → bsp (decide ((n8 : Int) < ((m0 : Nat) : Int)))
 (((0 : Int) ≤ n8) ∧
  ((n8 : Int) < ((m0 : Nat) : Int)) ∧
  nilc B0 fun k10 k11 =>
  exI (Mem.ld M9 ⟨k10, (k11 + ((Int.toNat n8) * 3)), none⟩) .i64 fun n12 =>
  exI (Mem.ld M9 ⟨k10, ((k11 + ((Int.toNat n8) * 3)) + 1), none⟩) .i64 fun n13 =>
  exI (Mem.ld M9 ⟨k10, ((k11 + ((Int.toNat n8) * 3)) + 2), none⟩) .i64 fun n14 =>
  nwc M9 (.cells #[(.int .i64 0), (.int .i64 0), (.int .i64 0)] 298 (0, 0)) fun k15 M16 =>
  stc M16 ⟨k15, 0, none⟩ (.int .i64 n12) fun M17 =>
  stc M17 ⟨k15, (0 + 1), none⟩ (.int .i64 n13) fun M18 =>
  stc M18 ⟨k15, (0 + 2), none⟩ (.int .i64 n14) fun M19 =>
  exI (Mem.ld M19 ⟨k15, 0, none⟩) .i64 fun n20 =>
  bsp (n20 != x1)
   (exI (Mem.ld M19 ⟨k15, 0, none⟩) .i64 fun n21 =>
    exI (Mem.ld M19 ⟨k15, (0 + 1), none⟩) .i64 fun n22 =>
    exI (Mem.ld M19 ⟨k15, (0 + 2), none⟩) .i64 fun n23 =>
    nwc M19 (.cells #[(.int .i64 n21), (.int .i64 n22), (.int .i64 n23)] 298 (0, 0)) fun k24 M25 =>
    semK Tryz.prog (Go.Builtin.append_ #[199, 199] 199 #[(.slice A5 k6 k7), (.slice (some ⟨k24, 0, none⟩) 1 1)]) M25 (fun v26 M27 =>
    exSl (some v26) fun A28 k29 k30 =>
    ∃ k31 : Nat, (k31 < k3) ∧
    I1 k31 [(.slice A28 k29 k30), (.int .i64 (IntKind.wrap .i64 (n8 + 1)))] M27) Kp)
   (∃ k32 : Nat, (k32 < k3) ∧
    I1 k32 [(.slice A5 k6 k7), (.int .i64 (IntKind.wrap .i64 (n8 + 1)))] M19))
 (K (.slice A5 k6 k7) M9)) :
  ACalls Tryz.prog 227 ([.slice B0 m0 c0, .int .i64 x1] : List Value).toArray M K Kp :=
  acalls_vc (C := Cx) good [(2000000, .loop [(5, .c .sl), (10, .c (.int .i64))])] Tryz.func227 (by kernel_rfl) (by kernel_rfl) h

end Go.Proofs

namespace Go.Proofs
open Go.AF
set_option linter.unusedVariables false
set_option maxRecDepth 100000
set_option maxHeartbeats 1000000
attribute [local irreducible] exI exB exS exP exSl exV nilc stc nwc semK semU bsp

theorem el_i64 : ElemOk Tryz.prog 59 2 1 8 [.int .i64 0] := ElemOk.mk' (zv := .int .i64 0) (by kernel_rfl) (by kernel_rfl) rfl (by omega)
theorem el_wait : ElemOk Tryz.prog 199 298 3 24 [.int .i64 0, .int .i64 0, .int .i64 0] := ElemOk.mk' (zv := .agg #[.int .i64 0, .int .i64 0, .int .i64 0]) (by kernel_rfl) (by kernel_rfl) rfl (by omega)
abbrev rowB (A : Option Addr) (c : Nat) (l : List Int) : HP := rowP intE 2 A c l
abbrev rowW (A : Option Addr) (c : Nat) (l : List Wt) : HP := rowP waitE 298 A c l
abbrev chanCells (c : Chan) (Ab : Option Addr) (cb : Nat) (As : Option Addr) (cs : Nat) (Ar : Option Addr) (cr : Nat) : List Value :=
  [.int .i64 (c.room : Int), .slice Ab c.buf.length cb, .slice As c.snd.length cs, .slice Ar c.rcv.length cr, .bool c.closed]

/-- A channel stands at b. -/
def chanR : Rep Chan := ⟨fun b c => exs fun Ab : Option Addr => exs fun cb : Nat => exs fun As : Option Addr => exs fun cs : Nat => exs fun Ar : Option Addr => exs fun cr : Nat =>
  sep [pt b (chanCells c Ab cb As cs Ar cr) 236, rowB Ab cb c.buf, rowW As cs c.snd, rowW Ar cr c.rcv]⟩

section
variable {R : Mem} {L L' : List HP} {M : Mem} {K : Value → Mem → Prop} {Kp : List PanicEntry → Mem → Prop} {b : Nat} {c : Chan}

theorem chan_open (h : Hp R L M) [o : ObjAt chanR b L c L'] : ∃ Ab cb As cs Ar cr, Hp R (pt b (chanCells c Ab cb As cs Ar cr) 236 :: rowB Ab cb c.buf :: rowW As cs c.snd :: rowW Ar cr c.rcv :: L') M := by
  have := h.obj chanR b
  simpa only [chanR, Hp.ex_iff, Hp.sep_iff, List.cons_append, List.nil_append] using this
theorem chan_mk {Ab As Ar : Option Addr} {cb cs cr : Nat} (h : Hp R (pt b (chanCells c Ab cb As cs Ar cr) 236 :: rowB Ab cb c.buf :: rowW As cs c.snd :: rowW Ar cr c.rcv :: L) M) : Hp R (objP chanR b c :: L) M := by
  refine Hp.objI ?_
  simp only [chanR, Hp.ex_iff, Hp.sep_iff, List.cons_append, List.nil_append]
  exact ⟨_, _, _, _, _, _, h⟩
theorem chan_close {Ab As Ar : Option Addr} {nb cb ns cs nr cr room : Nat} {closed : Bool} {buf : List Int} {snd rcv : List Wt} {L1 L2 L3 L4 : List HP} (h : Hp R L M) (b : Nat)
    [p : PtAt b L [.int .i64 (room : Int), .slice Ab nb cb, .slice As ns cs, .slice Ar nr cr, .bool closed] 236 L1] [p1 : RowAt Ab L1 Int intE 2 cb buf L2] [p2 : RowAt As L2 Wt waitE 298 cs snd L3] [p3 : RowAt Ar L3 Wt waitE 298 cr rcv L4]
    (e1 : nb = buf.length := by first | rfl | simp) (e2 : ns = snd.length := by first | rfl | simp) (e3 : nr = rcv.length := by first | rfl | simp) : Hp R (objP chanR b ⟨room, buf, snd, rcv, closed⟩ :: L4) M := by
  subst e1; subst e2; subst e3
  exact chan_mk (h.sub (.cons p.pick (.cons p1.pick (.cons p2.pick (.cons p3.pick .refl)))))

theorem chans_New {room : Int} (h : Hp R L M) (k : ∀ b M', Hp R (objP chanR b (.new room) :: L) M' → K (.pointer (some ⟨b, 0, none⟩)) M') :
    ACalls Tryz.prog 72 #[.int .i64 room] M K Kp := by
  refine vc_chans_New ?_
  rw [capOf_eq]
  refine s_nwc h fun b M' h => k b M' (chan_mk ((((h.row_nil waitE _).row_nil waitE _).row_nil intE _).sub (by repeat (first | exact .refl | refine .cons (by repeat (first | exact .here | apply Pick.there)) ?_ | apply Sub.drop))))

theorem chans_first {B : Option Addr} {m c : Nat} {w : Wt} {r : List Wt} (h : Hp R L M) (hB : Src R L B (waitE.cells (w :: r))) (hm : m = r.length + 1) (hc : m ≤ c) (hn : m ≤ 1000000000)
    (k : ∀ A' c' M', Hp R (rowW A' c' r :: L) M' → K (.tuple #[.agg #[.int .i64 w.g, .int .i64 w.cs, .int .i64 w.v], .slice A' r.length c']) M') :
    ACalls Tryz.prog 222 #[.slice B m c] M K Kp := by
  refine vc_chans_first ?_
  obtain ⟨b, o, rfl⟩ := hB.someE h (by simp) (by decide)
  repeat (first | (refine s_nwc h ?_; clear h; intro kb M h) | (refine s_stc h ?_; clear h; intro M h) | refine t_exI h ?_ | refine t_exB h ?_ | refine t_exS h ?_ | refine t_exP h ?_ | refine t_exSl h ?_ | refine t_exV h ?_ | refine u_exI ?_ | refine u_exB ?_ | refine u_exS ?_ | refine u_exP ?_ | refine u_exSl ?_ | refine u_exV ?_ | refine u_nilc ?_ | (apply Exists.intro; (repeat apply Exists.intro); refine And.intro rfl ?_) | (refine And.intro ?_ ?_; first | exact trivial | exact rfl | exact t_ld h | (refine lds_s (t_ld h) ?_; (repeat (refine lds_s (t_ld h) ?_)); exact lds_nil) | omega) | refine u_bspT ?_ | refine u_bspF ?_)
  refine v_exI (hB.cons.at h (i := 0) (j := 0) rfl rfl (by omega)) ?_
  refine v_exI (hB.cons.at h (i := 0) (j := 1) rfl rfl (by omega)) ?_
  refine v_exI (hB.cons.at h (i := 0) (j := 2) rfl rfl (by omega)) ?_
  repeat (first | (refine s_nwc h ?_; clear h; intro kb M h) | (refine s_stc h ?_; clear h; intro M h) | refine t_exI h ?_ | refine t_exB h ?_ | refine t_exS h ?_ | refine t_exP h ?_ | refine t_exSl h ?_ | refine t_exV h ?_ | refine u_exI ?_ | refine u_exB ?_ | refine u_exS ?_ | refine u_exP ?_ | refine u_exSl ?_ | refine u_exV ?_ | refine u_nilc ?_ | (apply Exists.intro; (repeat apply Exists.intro); refine And.intro rfl ?_) | (refine And.intro ?_ ?_; first | exact trivial | exact rfl | exact t_ld h | (refine lds_s (t_ld h) ?_; (repeat (refine lds_s (t_ld h) ?_)); exact lds_nil) | omega) | refine u_bspT ?_ | refine u_bspF ?_)
  have s2 := hB.drop (m := 1) (c := c) (by simp; omega)
  simp only [Int.toNat_natCast]
  refine h.rowCopy waitE el_wait r s2.cons.cons (by omega) (by omega) ?_
  clear h
  intro A' c' M h
  repeat (first | (refine s_nwc h ?_; clear h; intro kb M h) | (refine s_stc h ?_; clear h; intro M h) | refine t_exI h ?_ | refine t_exB h ?_ | refine t_exS h ?_ | refine t_exP h ?_ | refine t_exSl h ?_ | refine t_exV h ?_ | refine u_exI ?_ | refine u_exB ?_ | refine u_exS ?_ | refine u_exP ?_ | refine u_exSl ?_ | refine u_exV ?_ | refine u_nilc ?_ | (apply Exists.intro; (repeat apply Exists.intro); refine And.intro rfl ?_) | (refine And.intro ?_ ?_; first | exact trivial | exact rfl | exact t_ld h | (refine lds_s (t_ld h) ?_; (repeat (refine lds_s (t_ld h) ?_)); exact lds_nil) | omega) | refine u_bspT ?_ | refine u_bspF ?_)
  refine ⟨hB.cons.cons.lds h (i := 0) rfl (by omega), ?_⟩
  repeat (first | (refine s_nwc h ?_; clear h; intro kb M h) | (refine s_stc h ?_; clear h; intro M h) | refine t_exI h ?_ | refine t_exB h ?_ | refine t_exS h ?_ | refine t_exP h ?_ | refine t_exSl h ?_ | refine t_exV h ?_ | refine u_exI ?_ | refine u_exB ?_ | refine u_exS ?_ | refine u_exP ?_ | refine u_exSl ?_ | refine u_exV ?_ | refine u_nilc ?_ | (apply Exists.intro; (repeat apply Exists.intro); refine And.intro rfl ?_) | (refine And.intro ?_ ?_; first | exact trivial | exact rfl | exact t_ld h | (refine lds_s (t_ld h) ?_; (repeat (refine lds_s (t_ld h) ?_)); exact lds_nil) | omega) | refine u_bspT ?_ | refine u_bspF ?_)
  refine ⟨hB.cons.cons.lds h (i := 0) rfl (by omega), ?_⟩
  repeat (first | (refine s_nwc h ?_; clear h; intro kb M h) | (refine s_stc h ?_; clear h; intro M h) | refine t_exI h ?_ | refine t_exB h ?_ | refine t_exS h ?_ | refine t_exP h ?_ | refine t_exSl h ?_ | refine t_exV h ?_ | refine u_exI ?_ | refine u_exB ?_ | refine u_exS ?_ | refine u_exP ?_ | refine u_exSl ?_ | refine u_exV ?_ | refine u_nilc ?_ | (apply Exists.intro; (repeat apply Exists.intro); refine And.intro rfl ?_) | (refine And.intro ?_ ?_; first | exact trivial | exact rfl | exact t_ld h | (refine lds_s (t_ld h) ?_; (repeat (refine lds_s (t_ld h) ?_)); exact lds_nil) | omega) | refine u_bspT ?_ | refine u_bspF ?_)
  exact k _ _ _ h.fin0

theorem chans_CanSend (h : Hp R L M) [o : ObjAt chanR b L c L'] (k : K (.bool c.canSend) M) : ACalls Tryz.prog 221 #[.pointer (some ⟨b, 0, none⟩)] M K Kp := by
  refine vc_chans_Chan_CanSend ?_
  have h' := chan_open h (b := b)
  clear h
  obtain ⟨Ab, cb, As, cs, Ar, cr, h⟩ := h'
  repeat (first | (refine s_nwc h ?_; clear h; intro kb M h) | (refine s_stc h ?_; clear h; intro M h) | refine t_exI h ?_ | refine t_exB h ?_ | refine t_exS h ?_ | refine t_exP h ?_ | refine t_exSl h ?_ | refine t_exV h ?_ | refine u_exI ?_ | refine u_exB ?_ | refine u_exS ?_ | refine u_exP ?_ | refine u_exSl ?_ | refine u_exV ?_ | refine u_nilc ?_ | (apply Exists.intro; (repeat apply Exists.intro); refine And.intro rfl ?_) | (refine And.intro ?_ ?_; first | exact trivial | exact rfl | exact t_ld h | (refine lds_s (t_ld h) ?_; (repeat (refine lds_s (t_ld h) ?_)); exact lds_nil) | omega) | refine u_bspT ?_ | refine u_bspF ?_)
  refine bsp_iff.2 ⟨fun hc => ?_, fun hc => ?_⟩
  · rwa [Chan.canSend, hc] at k
  · repeat (first | (refine s_nwc h ?_; clear h; intro kb M h) | (refine s_stc h ?_; clear h; intro M h) | refine t_exI h ?_ | refine t_exB h ?_ | refine t_exS h ?_ | refine t_exP h ?_ | refine t_exSl h ?_ | refine t_exV h ?_ | refine u_exI ?_ | refine u_exB ?_ | refine u_exS ?_ | refine u_exP ?_ | refine u_exSl ?_ | refine u_exV ?_ | refine u_nilc ?_ | (apply Exists.intro; (repeat apply Exists.intro); refine And.intro rfl ?_) | (refine And.intro ?_ ?_; first | exact trivial | exact rfl | exact t_ld h | (refine lds_s (t_ld h) ?_; (repeat (refine lds_s (t_ld h) ?_)); exact lds_nil) | omega) | refine u_bspT ?_ | refine u_bspF ?_)
    refine bsp_dec.2 ⟨fun hr => ?_, fun hr => ?_⟩
    · have : c.rcv.isEmpty = false := by cases hc : c.rcv <;> simp_all
      rwa [Chan.canSend, hc, this] at k
    · repeat (first | (refine s_nwc h ?_; clear h; intro kb M h) | (refine s_stc h ?_; clear h; intro M h) | refine t_exI h ?_ | refine t_exB h ?_ | refine t_exS h ?_ | refine t_exP h ?_ | refine t_exSl h ?_ | refine t_exV h ?_ | refine u_exI ?_ | refine u_exB ?_ | refine u_exS ?_ | refine u_exP ?_ | refine u_exSl ?_ | refine u_exV ?_ | refine u_nilc ?_ | (apply Exists.intro; (repeat apply Exists.intro); refine And.intro rfl ?_) | (refine And.intro ?_ ?_; first | exact trivial | exact rfl | exact t_ld h | (refine lds_s (t_ld h) ?_; (repeat (refine lds_s (t_ld h) ?_)); exact lds_nil) | omega) | refine u_bspT ?_ | refine u_bspF ?_)
      have : c.rcv.isEmpty = true := by cases hc : c.rcv <;> simp_all
      rw [Chan.canSend, hc, this] at k
      simpa using k

theorem chans_CanRecv (h : Hp R L M) [o : ObjAt chanR b L c L'] (k : K (.bool c.canRecv) M) : ACalls Tryz.prog 220 #[.pointer (some ⟨b, 0, none⟩)] M K Kp := by
  refine vc_chans_Chan_CanRecv ?_
  have h' := chan_open h (b := b)
  clear h
  obtain ⟨Ab, cb, As, cs, Ar, cr, h⟩ := h'
  repeat (first | (refine s_nwc h ?_; clear h; intro kb M h) | (refine s_stc h ?_; clear h; intro M h) | refine t_exI h ?_ | refine t_exB h ?_ | refine t_exS h ?_ | refine t_exP h ?_ | refine t_exSl h ?_ | refine t_exV h ?_ | refine u_exI ?_ | refine u_exB ?_ | refine u_exS ?_ | refine u_exP ?_ | refine u_exSl ?_ | refine u_exV ?_ | refine u_nilc ?_ | (apply Exists.intro; (repeat apply Exists.intro); refine And.intro rfl ?_) | (refine And.intro ?_ ?_; first | exact trivial | exact rfl | exact t_ld h | (refine lds_s (t_ld h) ?_; (repeat (refine lds_s (t_ld h) ?_)); exact lds_nil) | omega) | refine u_bspT ?_ | refine u_bspF ?_)
  refine bsp_iff.2 ⟨fun hc => ?_, fun hc => ?_⟩
  · rwa [Chan.canRecv, hc] at k
  · repeat (first | (refine s_nwc h ?_; clear h; intro kb M h) | (refine s_stc h ?_; clear h; intro M h) | refine t_exI h ?_ | refine t_exB h ?_ | refine t_exS h ?_ | refine t_exP h ?_ | refine t_exSl h ?_ | refine t_exV h ?_ | refine u_exI ?_ | refine u_exB ?_ | refine u_exS ?_ | refine u_exP ?_ | refine u_exSl ?_ | refine u_exV ?_ | refine u_nilc ?_ | (apply Exists.intro; (repeat apply Exists.intro); refine And.intro rfl ?_) | (refine And.intro ?_ ?_; first | exact trivial | exact rfl | exact t_ld h | (refine lds_s (t_ld h) ?_; (repeat (refine lds_s (t_ld h) ?_)); exact lds_nil) | omega) | refine u_bspT ?_ | refine u_bspF ?_)
    refine bsp_dec.2 ⟨fun hr => ?_, fun hr => ?_⟩
    · have : c.snd.isEmpty = false := by cases hc : c.snd <;> simp_all
      rwa [Chan.canRecv, hc, this] at k
    · repeat (first | (refine s_nwc h ?_; clear h; intro kb M h) | (refine s_stc h ?_; clear h; intro M h) | refine t_exI h ?_ | refine t_exB h ?_ | refine t_exS h ?_ | refine t_exP h ?_ | refine t_exSl h ?_ | refine t_exV h ?_ | refine u_exI ?_ | refine u_exB ?_ | refine u_exS ?_ | refine u_exP ?_ | refine u_exSl ?_ | refine u_exV ?_ | refine u_nilc ?_ | (apply Exists.intro; (repeat apply Exists.intro); refine And.intro rfl ?_) | (refine And.intro ?_ ?_; first | exact trivial | exact rfl | exact t_ld h | (refine lds_s (t_ld h) ?_; (repeat (refine lds_s (t_ld h) ?_)); exact lds_nil) | omega) | refine u_bspT ?_ | refine u_bspF ?_)
      have : c.snd.isEmpty = true := by cases hc : c.snd <;> simp_all
      rw [Chan.canRecv, hc, this] at k
      have e : (!c.buf.isEmpty) = decide ((c.buf.length : Int) > 0) := by cases c.buf <;> simp
      rw [← e]; simpa using k

theorem chans_WaitSend {w : Wt} (h : Hp R L M) [o : ObjAt chanR b L c L'] (hs : c.Small 1000000000) (k : ∀ M', Hp R (objP chanR b { c with snd := c.snd ++ [w] } :: L') M' → K (.tuple #[]) M') :
    ACalls Tryz.prog 206 #[.pointer (some ⟨b, 0, none⟩), .agg #[.int .i64 w.g, .int .i64 w.cs, .int .i64 w.v]] M K Kp := by
  refine vc_chans_Chan_WaitSend ?_
  have h' := chan_open h (b := b)
  clear h
  obtain ⟨Ab, cb, As, cs, Ar, cr, h⟩ := h'
  obtain ⟨h1, h2, h3⟩ := hs
  repeat (first | (refine s_nwc h ?_; clear h; intro kb M h) | (refine s_stc h ?_; clear h; intro M h) | refine t_exI h ?_ | refine t_exB h ?_ | refine t_exS h ?_ | refine t_exP h ?_ | refine t_exSl h ?_ | refine t_exV h ?_ | refine u_exI ?_ | refine u_exB ?_ | refine u_exS ?_ | refine u_exP ?_ | refine u_exSl ?_ | refine u_exV ?_ | refine u_nilc ?_ | (apply Exists.intro; (repeat apply Exists.intro); refine And.intro rfl ?_) | (refine And.intro ?_ ?_; first | exact trivial | exact rfl | exact t_ld h | (refine lds_s (t_ld h) ?_; (repeat (refine lds_s (t_ld h) ?_)); exact lds_nil) | omega) | refine u_bspT ?_ | refine u_bspF ?_)
  refine h.rowAppend1 el_wait [w] rfl rfl (by simp; omega) ?_
  clear h
  intro A' c' M h
  repeat (first | (refine s_nwc h ?_; clear h; intro kb M h) | (refine s_stc h ?_; clear h; intro M h) | refine t_exI h ?_ | refine t_exB h ?_ | refine t_exS h ?_ | refine t_exP h ?_ | refine t_exSl h ?_ | refine t_exV h ?_ | refine u_exI ?_ | refine u_exB ?_ | refine u_exS ?_ | refine u_exP ?_ | refine u_exSl ?_ | refine u_exV ?_ | refine u_nilc ?_ | (apply Exists.intro; (repeat apply Exists.intro); refine And.intro rfl ?_) | (refine And.intro ?_ ?_; first | exact trivial | exact rfl | exact t_ld h | (refine lds_s (t_ld h) ?_; (repeat (refine lds_s (t_ld h) ?_)); exact lds_nil) | omega) | refine u_bspT ?_ | refine u_bspF ?_)
  exact k _ (chan_close h b).fin1

theorem chans_WaitRecv {w : Wt} (h : Hp R L M) [o : ObjAt chanR b L c L'] (hs : c.Small 1000000000) (k : ∀ M', Hp R (objP chanR b { c with rcv := c.rcv ++ [w] } :: L') M' → K (.tuple #[]) M') :
    ACalls Tryz.prog 205 #[.pointer (some ⟨b, 0, none⟩), .agg #[.int .i64 w.g, .int .i64 w.cs, .int .i64 w.v]] M K Kp := by
  refine vc_chans_Chan_WaitRecv ?_
  have h' := chan_open h (b := b)
  clear h
  obtain ⟨Ab, cb, As, cs, Ar, cr, h⟩ := h'
  obtain ⟨h1, h2, h3⟩ := hs
  repeat (first | (refine s_nwc h ?_; clear h; intro kb M h) | (refine s_stc h ?_; clear h; intro M h) | refine t_exI h ?_ | refine t_exB h ?_ | refine t_exS h ?_ | refine t_exP h ?_ | refine t_exSl h ?_ | refine t_exV h ?_ | refine u_exI ?_ | refine u_exB ?_ | refine u_exS ?_ | refine u_exP ?_ | refine u_exSl ?_ | refine u_exV ?_ | refine u_nilc ?_ | (apply Exists.intro; (repeat apply Exists.intro); refine And.intro rfl ?_) | (refine And.intro ?_ ?_; first | exact trivial | exact rfl | exact t_ld h | (refine lds_s (t_ld h) ?_; (repeat (refine lds_s (t_ld h) ?_)); exact lds_nil) | omega) | refine u_bspT ?_ | refine u_bspF ?_)
  refine h.rowAppend1 el_wait [w] rfl rfl (by simp; omega) ?_
  clear h
  intro A' c' M h
  repeat (first | (refine s_nwc h ?_; clear h; intro kb M h) | (refine s_stc h ?_; clear h; intro M h) | refine t_exI h ?_ | refine t_exB h ?_ | refine t_exS h ?_ | refine t_exP h ?_ | refine t_exSl h ?_ | refine t_exV h ?_ | refine u_exI ?_ | refine u_exB ?_ | refine u_exS ?_ | refine u_exP ?_ | refine u_exSl ?_ | refine u_exV ?_ | refine u_nilc ?_ | (apply Exists.intro; (repeat apply Exists.intro); refine And.intro rfl ?_) | (refine And.intro ?_ ?_; first | exact trivial | exact rfl | exact t_ld h | (refine lds_s (t_ld h) ?_; (repeat (refine lds_s (t_ld h) ?_)); exact lds_nil) | omega) | refine u_bspT ?_ | refine u_bspF ?_)
  exact k _ (chan_close h b).fin1

/-- What Send answers. -/
def sendV (x : Wt × Bool × Int) : Value := .tuple #[.agg #[.int .i64 x.1.g, .int .i64 x.1.cs, .int .i64 x.1.v], .bool x.2.1, .int .i64 x.2.2]

theorem chans_Send {v : Int} (h : Hp R L M) [o : ObjAt chanR b L c L'] (hs : c.Small 1000000000) (k : ∀ M', Hp R (objP chanR b (c.send v).1 :: L') M' → K (sendV (c.send v).2) M') :
    ACalls Tryz.prog 207 #[.pointer (some ⟨b, 0, none⟩), .int .i64 v] M K Kp := by
  refine vc_chans_Chan_Send ?_
  obtain ⟨room, buf, snd, rcv, closed⟩ := c
  obtain ⟨h1, h2, h3⟩ := hs
  have h' := chan_open h (b := b)
  clear h
  obtain ⟨Ab, cb, As, cs, Ar, cr, h⟩ := h'
  dsimp only [chanCells] at h1 h2 h3 h
  repeat (first | (refine s_nwc h ?_; clear h; intro kb M h) | (refine s_stc h ?_; clear h; intro M h) | refine t_exI h ?_ | refine t_exB h ?_ | refine t_exS h ?_ | refine t_exP h ?_ | refine t_exSl h ?_ | refine t_exV h ?_ | refine u_exI ?_ | refine u_exB ?_ | refine u_exS ?_ | refine u_exP ?_ | refine u_exSl ?_ | refine u_exV ?_ | refine u_nilc ?_ | (apply Exists.intro; (repeat apply Exists.intro); refine And.intro rfl ?_) | (refine And.intro ?_ ?_; first | exact trivial | exact rfl | exact t_ld h | (refine lds_s (t_ld h) ?_; (repeat (refine lds_s (t_ld h) ?_)); exact lds_nil) | omega) | refine u_bspT ?_ | refine u_bspF ?_)
  refine bsp_iff.2 ⟨fun hc => ?_, fun hc => ?_⟩
  · subst hc
    repeat (first | (refine s_nwc h ?_; clear h; intro kb M h) | (refine s_stc h ?_; clear h; intro M h) | refine t_exI h ?_ | refine t_exB h ?_ | refine t_exS h ?_ | refine t_exP h ?_ | refine t_exSl h ?_ | refine t_exV h ?_ | refine u_exI ?_ | refine u_exB ?_ | refine u_exS ?_ | refine u_exP ?_ | refine u_exSl ?_ | refine u_exV ?_ | refine u_nilc ?_ | (apply Exists.intro; (repeat apply Exists.intro); refine And.intro rfl ?_) | (refine And.intro ?_ ?_; first | exact trivial | exact rfl | exact t_ld h | (refine lds_s (t_ld h) ?_; (repeat (refine lds_s (t_ld h) ?_)); exact lds_nil) | omega) | refine u_bspT ?_ | refine u_bspF ?_)
    exact k _ (chan_close h b).fin1
  subst hc
  repeat (first | (refine s_nwc h ?_; clear h; intro kb M h) | (refine s_stc h ?_; clear h; intro M h) | refine t_exI h ?_ | refine t_exB h ?_ | refine t_exS h ?_ | refine t_exP h ?_ | refine t_exSl h ?_ | refine t_exV h ?_ | refine u_exI ?_ | refine u_exB ?_ | refine u_exS ?_ | refine u_exP ?_ | refine u_exSl ?_ | refine u_exV ?_ | refine u_nilc ?_ | (apply Exists.intro; (repeat apply Exists.intro); refine And.intro rfl ?_) | (refine And.intro ?_ ?_; first | exact trivial | exact rfl | exact t_ld h | (refine lds_s (t_ld h) ?_; (repeat (refine lds_s (t_ld h) ?_)); exact lds_nil) | omega) | refine u_bspT ?_ | refine u_bspF ?_)
  refine bsp_dec.2 ⟨fun hr => ?_, fun hr => ?_⟩
  · cases rcv with
    | nil => simp at hr
    | cons w r =>
      repeat (first | (refine s_nwc h ?_; clear h; intro kb M h) | (refine s_stc h ?_; clear h; intro M h) | refine t_exI h ?_ | refine t_exB h ?_ | refine t_exS h ?_ | refine t_exP h ?_ | refine t_exSl h ?_ | refine t_exV h ?_ | refine u_exI ?_ | refine u_exB ?_ | refine u_exS ?_ | refine u_exP ?_ | refine u_exSl ?_ | refine u_exV ?_ | refine u_nilc ?_ | (apply Exists.intro; (repeat apply Exists.intro); refine And.intro rfl ?_) | (refine And.intro ?_ ?_; first | exact trivial | exact rfl | exact t_ld h | (refine lds_s (t_ld h) ?_; (repeat (refine lds_s (t_ld h) ?_)); exact lds_nil) | omega) | refine u_bspT ?_ | refine u_bspF ?_)
      refine chans_first h (h.src (A := Ar)) rfl (h.row_le Ar) (by simpa using h3) ?_
      clear h
      intro A' c' M h
      repeat (first | (refine s_nwc h ?_; clear h; intro kb M h) | (refine s_stc h ?_; clear h; intro M h) | refine t_exI h ?_ | refine t_exB h ?_ | refine t_exS h ?_ | refine t_exP h ?_ | refine t_exSl h ?_ | refine t_exV h ?_ | refine u_exI ?_ | refine u_exB ?_ | refine u_exS ?_ | refine u_exP ?_ | refine u_exSl ?_ | refine u_exV ?_ | refine u_nilc ?_ | (apply Exists.intro; (repeat apply Exists.intro); refine And.intro rfl ?_) | (refine And.intro ?_ ?_; first | exact trivial | exact rfl | exact t_ld h | (refine lds_s (t_ld h) ?_; (repeat (refine lds_s (t_ld h) ?_)); exact lds_nil) | omega) | refine u_bspT ?_ | refine u_bspF ?_)
      exact k _ (chan_close h b).fin1
  cases rcv with
  | cons w r => simp at hr
  | nil =>
  simp only [Chan.send, Bool.false_eq_true, if_false] at k
  repeat (first | (refine s_nwc h ?_; clear h; intro kb M h) | (refine s_stc h ?_; clear h; intro M h) | refine t_exI h ?_ | refine t_exB h ?_ | refine t_exS h ?_ | refine t_exP h ?_ | refine t_exSl h ?_ | refine t_exV h ?_ | refine u_exI ?_ | refine u_exB ?_ | refine u_exS ?_ | refine u_exP ?_ | refine u_exSl ?_ | refine u_exV ?_ | refine u_nilc ?_ | (apply Exists.intro; (repeat apply Exists.intro); refine And.intro rfl ?_) | (refine And.intro ?_ ?_; first | exact trivial | exact rfl | exact t_ld h | (refine lds_s (t_ld h) ?_; (repeat (refine lds_s (t_ld h) ?_)); exact lds_nil) | omega) | refine u_bspT ?_ | refine u_bspF ?_)
  refine bsp_dec.2 ⟨fun hl => ?_, fun hl => ?_⟩
  · rw [if_pos (by omega)] at k
    repeat (first | (refine s_nwc h ?_; clear h; intro kb M h) | (refine s_stc h ?_; clear h; intro M h) | refine t_exI h ?_ | refine t_exB h ?_ | refine t_exS h ?_ | refine t_exP h ?_ | refine t_exSl h ?_ | refine t_exV h ?_ | refine u_exI ?_ | refine u_exB ?_ | refine u_exS ?_ | refine u_exP ?_ | refine u_exSl ?_ | refine u_exV ?_ | refine u_nilc ?_ | (apply Exists.intro; (repeat apply Exists.intro); refine And.intro rfl ?_) | (refine And.intro ?_ ?_; first | exact trivial | exact rfl | exact t_ld h | (refine lds_s (t_ld h) ?_; (repeat (refine lds_s (t_ld h) ?_)); exact lds_nil) | omega) | refine u_bspT ?_ | refine u_bspF ?_)
    refine h.rowAppend1 el_i64 [v] rfl rfl (by simp; omega) ?_
    clear h
    intro A' c' M h
    repeat (first | (refine s_nwc h ?_; clear h; intro kb M h) | (refine s_stc h ?_; clear h; intro M h) | refine t_exI h ?_ | refine t_exB h ?_ | refine t_exS h ?_ | refine t_exP h ?_ | refine t_exSl h ?_ | refine t_exV h ?_ | refine u_exI ?_ | refine u_exB ?_ | refine u_exS ?_ | refine u_exP ?_ | refine u_exSl ?_ | refine u_exV ?_ | refine u_nilc ?_ | (apply Exists.intro; (repeat apply Exists.intro); refine And.intro rfl ?_) | (refine And.intro ?_ ?_; first | exact trivial | exact rfl | exact t_ld h | (refine lds_s (t_ld h) ?_; (repeat (refine lds_s (t_ld h) ?_)); exact lds_nil) | omega) | refine u_bspT ?_ | refine u_bspF ?_)
    exact k _ (chan_close h b).fin1
  · rw [if_neg (by omega)] at k
    repeat (first | (refine s_nwc h ?_; clear h; intro kb M h) | (refine s_stc h ?_; clear h; intro M h) | refine t_exI h ?_ | refine t_exB h ?_ | refine t_exS h ?_ | refine t_exP h ?_ | refine t_exSl h ?_ | refine t_exV h ?_ | refine u_exI ?_ | refine u_exB ?_ | refine u_exS ?_ | refine u_exP ?_ | refine u_exSl ?_ | refine u_exV ?_ | refine u_nilc ?_ | (apply Exists.intro; (repeat apply Exists.intro); refine And.intro rfl ?_) | (refine And.intro ?_ ?_; first | exact trivial | exact rfl | exact t_ld h | (refine lds_s (t_ld h) ?_; (repeat (refine lds_s (t_ld h) ?_)); exact lds_nil) | omega) | refine u_bspT ?_ | refine u_bspF ?_)
    exact k _ (chan_close h b).fin1

/-- What Recv answers. -/
def recvV (x : Int × Bool × Wt × Bool × Int) : Value := .tuple #[.agg #[.int .i64 x.1, .bool x.2.1, .int .i64 x.2.2.1.g, .int .i64 x.2.2.1.cs, .int .i64 x.2.2.1.v, .bool x.2.2.2.1], .int .i64 x.2.2.2.2]

theorem chans_Recv (h : Hp R L M) [o : ObjAt chanR b L c L'] (hs : c.Small 1000000000) (k : ∀ M', Hp R (objP chanR b c.recv.1 :: L') M' → K (recvV c.recv.2) M') :
    ACalls Tryz.prog 209 #[.pointer (some ⟨b, 0, none⟩)] M K Kp := by
  refine vc_chans_Chan_Recv ?_
  obtain ⟨room, buf, snd, rcv, closed⟩ := c
  obtain ⟨h1, h2, h3⟩ := hs
  have h' := chan_open h (b := b)
  clear h
  obtain ⟨Ab, cb, As, cs, Ar, cr, h⟩ := h'
  dsimp only [chanCells] at h1 h2 h3 h
  refine s_nwc h ?_
  clear h
  intro kr M h
  refine s_nwc h ?_
  clear h
  intro kg M h
  repeat (first | (refine s_nwc h ?_; clear h; intro kb M h) | (refine s_stc h ?_; clear h; intro M h) | refine t_exI h ?_ | refine t_exB h ?_ | refine t_exS h ?_ | refine t_exP h ?_ | refine t_exSl h ?_ | refine t_exV h ?_ | refine u_exI ?_ | refine u_exB ?_ | refine u_exS ?_ | refine u_exP ?_ | refine u_exSl ?_ | refine u_exV ?_ | refine u_nilc ?_ | (apply Exists.intro; (repeat apply Exists.intro); refine And.intro rfl ?_) | (refine And.intro ?_ ?_; first | exact trivial | exact rfl | exact t_ld h | (refine lds_s (t_ld h) ?_; (repeat (refine lds_s (t_ld h) ?_)); exact lds_nil) | omega) | refine u_bspT ?_ | refine u_bspF ?_)
  -- behind the first condition: what is in it, who sent
  refine ⟨fun vs M => vs = [] ∧ ∃ Ab cb As cs, Hp R (pt kr [.int .i64 0, .bool false, .int .i64 0, .int .i64 0, .int .i64 0, .bool false] 335 ::
    pt kg [.int .i64 0, .bool false, .int .i64 (snd.headD .zero).g, .int .i64 (snd.headD .zero).cs, .int .i64 (snd.headD .zero).v, .bool (!snd.isEmpty)] 335 ::
    pt b (chanCells ⟨room, Chan.all ⟨room, buf, snd, rcv, closed⟩, snd.tail, rcv, closed⟩ Ab cb As cs Ar cr) 236 :: rowB Ab cb (Chan.all ⟨room, buf, snd, rcv, closed⟩) :: rowW As cs snd.tail :: rowW Ar cr rcv :: L') M, ?_, ?_⟩
  · refine bsp_dec.2 ⟨fun hr => ?_, fun hr => ?_⟩
    · cases snd with
      | nil => simp at hr
      | cons w r =>
        repeat (first | (refine s_nwc h ?_; clear h; intro kb M h) | (refine s_stc h ?_; clear h; intro M h) | refine t_exI h ?_ | refine t_exB h ?_ | refine t_exS h ?_ | refine t_exP h ?_ | refine t_exSl h ?_ | refine t_exV h ?_ | refine u_exI ?_ | refine u_exB ?_ | refine u_exS ?_ | refine u_exP ?_ | refine u_exSl ?_ | refine u_exV ?_ | refine u_nilc ?_ | (apply Exists.intro; (repeat apply Exists.intro); refine And.intro rfl ?_) | (refine And.intro ?_ ?_; first | exact trivial | exact rfl | exact t_ld h | (refine lds_s (t_ld h) ?_; (repeat (refine lds_s (t_ld h) ?_)); exact lds_nil) | omega) | refine u_bspT ?_ | refine u_bspF ?_)
        refine chans_first h (h.src (A := As)) rfl (h.row_le As) (by simpa using h2) ?_
        clear h
        intro A' c' M h
        repeat (first | (refine s_nwc h ?_; clear h; intro kb M h) | (refine s_stc h ?_; clear h; intro M h) | refine t_exI h ?_ | refine t_exB h ?_ | refine t_exS h ?_ | refine t_exP h ?_ | refine t_exSl h ?_ | refine t_exV h ?_ | refine u_exI ?_ | refine u_exB ?_ | refine u_exS ?_ | refine u_exP ?_ | refine u_exSl ?_ | refine u_exV ?_ | refine u_nilc ?_ | (apply Exists.intro; (repeat apply Exists.intro); refine And.intro rfl ?_) | (refine And.intro ?_ ?_; first | exact trivial | exact rfl | exact t_ld h | (refine lds_s (t_ld h) ?_; (repeat (refine lds_s (t_ld h) ?_)); exact lds_nil) | omega) | refine u_bspT ?_ | refine u_bspF ?_)
        refine h.rowAppend1 el_i64 [w.v] rfl rfl (by simp; omega) ?_
        clear h
        intro A2 c2 M h
        repeat (first | (refine s_nwc h ?_; clear h; intro kb M h) | (refine s_stc h ?_; clear h; intro M h) | refine t_exI h ?_ | refine t_exB h ?_ | refine t_exS h ?_ | refine t_exP h ?_ | refine t_exSl h ?_ | refine t_exV h ?_ | refine u_exI ?_ | refine u_exB ?_ | refine u_exS ?_ | refine u_exP ?_ | refine u_exSl ?_ | refine u_exV ?_ | refine u_nilc ?_ | (apply Exists.intro; (repeat apply Exists.intro); refine And.intro rfl ?_) | (refine And.intro ?_ ?_; first | exact trivial | exact rfl | exact t_ld h | (refine lds_s (t_ld h) ?_; (repeat (refine lds_s (t_ld h) ?_)); exact lds_nil) | omega) | refine u_bspT ?_ | refine u_bspF ?_)
        exact ⟨A2, c2, A', c', h.sub (by repeat (first | exact .refl | refine .cons (by repeat (first | exact .here | apply Pick.there)) ?_ | apply Sub.drop))⟩
    · cases snd with
      | cons w r => simp at hr
      | nil => exact ⟨rfl, Ab, cb, As, cs, h.sub (by repeat (first | exact .refl | refine .cons (by repeat (first | exact .here | apply Pick.there)) ?_ | apply Sub.drop))⟩
  clear h
  rintro _ M ⟨_, Ab, cb, As, cs, h⟩
  unfold Chan.recv at k
  dsimp only at k
  have hall : (Chan.all ⟨room, buf, snd, rcv, closed⟩).length ≤ 1000000001 := by unfold Chan.all; split <;> simp <;> omega
  have hnil : Chan.all ⟨room, buf, snd, rcv, closed⟩ = [] → snd = [] ∧ buf = [] := by unfold Chan.all; dsimp only; cases snd <;> simp
  generalize Chan.all ⟨room, buf, snd, rcv, closed⟩ = all at h k hall hnil
  dsimp only [chanCells] at h
  repeat (first | (refine s_nwc h ?_; clear h; intro kb M h) | (refine s_stc h ?_; clear h; intro M h) | refine t_exI h ?_ | refine t_exB h ?_ | refine t_exS h ?_ | refine t_exP h ?_ | refine t_exSl h ?_ | refine t_exV h ?_ | refine u_exI ?_ | refine u_exB ?_ | refine u_exS ?_ | refine u_exP ?_ | refine u_exSl ?_ | refine u_exV ?_ | refine u_nilc ?_ | (apply Exists.intro; (repeat apply Exists.intro); refine And.intro rfl ?_) | (refine And.intro ?_ ?_; first | exact trivial | exact rfl | exact t_ld h | (refine lds_s (t_ld h) ?_; (repeat (refine lds_s (t_ld h) ?_)); exact lds_nil) | omega) | refine u_bspT ?_ | refine u_bspF ?_)
  refine bsp_dec.2 ⟨fun hr => ?_, fun hr => ?_⟩
  · cases all with
    | nil => simp at hr
    | cons v l =>
      dsimp only at k
      repeat (first | (refine s_nwc h ?_; clear h; intro kb M h) | (refine s_stc h ?_; clear h; intro M h) | refine t_exI h ?_ | refine t_exB h ?_ | refine t_exS h ?_ | refine t_exP h ?_ | refine t_exSl h ?_ | refine t_exV h ?_ | refine u_exI ?_ | refine u_exB ?_ | refine u_exS ?_ | refine u_exP ?_ | refine u_exSl ?_ | refine u_exV ?_ | refine u_nilc ?_ | (apply Exists.intro; (repeat apply Exists.intro); refine And.intro rfl ?_) | (refine And.intro ?_ ?_; first | exact trivial | exact rfl | exact t_ld h | (refine lds_s (t_ld h) ?_; (repeat (refine lds_s (t_ld h) ?_)); exact lds_nil) | omega) | refine u_bspT ?_ | refine u_bspF ?_)
      obtain ⟨x, rfl⟩ := h.row_some (A := Ab) (by simp) (by decide)
      repeat (first | (refine s_nwc h ?_; clear h; intro kb M h) | (refine s_stc h ?_; clear h; intro M h) | refine t_exI h ?_ | refine t_exB h ?_ | refine t_exS h ?_ | refine t_exP h ?_ | refine t_exSl h ?_ | refine t_exV h ?_ | refine u_exI ?_ | refine u_exB ?_ | refine u_exS ?_ | refine u_exP ?_ | refine u_exSl ?_ | refine u_exV ?_ | refine u_nilc ?_ | (apply Exists.intro; (repeat apply Exists.intro); refine And.intro rfl ?_) | (refine And.intro ?_ ?_; first | exact trivial | exact rfl | exact t_ld h | (refine lds_s (t_ld h) ?_; (repeat (refine lds_s (t_ld h) ?_)); exact lds_nil) | omega) | refine u_bspT ?_ | refine u_bspF ?_)
      refine v_exI ((h.src (A := some ⟨x, 0, none⟩)).at h (i := 0) (j := 0) rfl rfl (by omega)) ?_
      have hcap := h.row_le (some ⟨x, 0, none⟩)
      have hlen : l.length + 1 ≤ 1000000001 := by simpa using hall
      repeat (first | (refine s_nwc h ?_; clear h; intro kb M h) | (refine s_stc h ?_; clear h; intro M h) | refine t_exI h ?_ | refine t_exB h ?_ | refine t_exS h ?_ | refine t_exP h ?_ | refine t_exSl h ?_ | refine t_exV h ?_ | refine u_exI ?_ | refine u_exB ?_ | refine u_exS ?_ | refine u_exP ?_ | refine u_exSl ?_ | refine u_exV ?_ | refine u_nilc ?_ | (apply Exists.intro; (repeat apply Exists.intro); refine And.intro rfl ?_) | (refine And.intro ?_ ?_; first | exact trivial | exact rfl | exact t_ld h | (refine lds_s (t_ld h) ?_; (repeat (refine lds_s (t_ld h) ?_)); exact lds_nil) | omega) | refine u_bspT ?_ | refine u_bspF ?_)
      simp only [Int.toNat_natCast]
      refine h.rowCopy intE el_i64 l ((h.src (A := some ⟨x, 0, none⟩)).drop (m := 1) hcap) (by simp) (by omega) ?_
      clear h
      intro A' c' M h
      repeat (first | (refine s_nwc h ?_; clear h; intro kb M h) | (refine s_stc h ?_; clear h; intro M h) | refine t_exI h ?_ | refine t_exB h ?_ | refine t_exS h ?_ | refine t_exP h ?_ | refine t_exSl h ?_ | refine t_exV h ?_ | refine u_exI ?_ | refine u_exB ?_ | refine u_exS ?_ | refine u_exP ?_ | refine u_exSl ?_ | refine u_exV ?_ | refine u_nilc ?_ | (apply Exists.intro; (repeat apply Exists.intro); refine And.intro rfl ?_) | (refine And.intro ?_ ?_; first | exact trivial | exact rfl | exact t_ld h | (refine lds_s (t_ld h) ?_; (repeat (refine lds_s (t_ld h) ?_)); exact lds_nil) | omega) | refine u_bspT ?_ | refine u_bspF ?_)
      exact k _ (chan_close h b).fin1
  · cases all with
    | cons v l => simp at hr
    | nil =>
    obtain ⟨rfl, rfl⟩ := hnil rfl
    repeat (first | (refine s_nwc h ?_; clear h; intro kb M h) | (refine s_stc h ?_; clear h; intro M h) | refine t_exI h ?_ | refine t_exB h ?_ | refine t_exS h ?_ | refine t_exP h ?_ | refine t_exSl h ?_ | refine t_exV h ?_ | refine u_exI ?_ | refine u_exB ?_ | refine u_exS ?_ | refine u_exP ?_ | refine u_exSl ?_ | refine u_exV ?_ | refine u_nilc ?_ | (apply Exists.intro; (repeat apply Exists.intro); refine And.intro rfl ?_) | (refine And.intro ?_ ?_; first | exact trivial | exact rfl | exact t_ld h | (refine lds_s (t_ld h) ?_; (repeat (refine lds_s (t_ld h) ?_)); exact lds_nil) | omega) | refine u_bspT ?_ | refine u_bspF ?_)
    refine bsp_iff.2 ⟨fun hc => ?_, fun hc => ?_⟩
    · subst hc
      repeat (first | (refine s_nwc h ?_; clear h; intro kb M h) | (refine s_stc h ?_; clear h; intro M h) | refine t_exI h ?_ | refine t_exB h ?_ | refine t_exS h ?_ | refine t_exP h ?_ | refine t_exSl h ?_ | refine t_exV h ?_ | refine u_exI ?_ | refine u_exB ?_ | refine u_exS ?_ | refine u_exP ?_ | refine u_exSl ?_ | refine u_exV ?_ | refine u_nilc ?_ | (apply Exists.intro; (repeat apply Exists.intro); refine And.intro rfl ?_) | (refine And.intro ?_ ?_; first | exact trivial | exact rfl | exact t_ld h | (refine lds_s (t_ld h) ?_; (repeat (refine lds_s (t_ld h) ?_)); exact lds_nil) | omega) | refine u_bspT ?_ | refine u_bspF ?_)
      exact k _ (chan_close h b).fin1
    · subst hc
      repeat (first | (refine s_nwc h ?_; clear h; intro kb M h) | (refine s_stc h ?_; clear h; intro M h) | refine t_exI h ?_ | refine t_exB h ?_ | refine t_exS h ?_ | refine t_exP h ?_ | refine t_exSl h ?_ | refine t_exV h ?_ | refine u_exI ?_ | refine u_exB ?_ | refine u_exS ?_ | refine u_exP ?_ | refine u_exSl ?_ | refine u_exV ?_ | refine u_nilc ?_ | (apply Exists.intro; (repeat apply Exists.intro); refine And.intro rfl ?_) | (refine And.intro ?_ ?_; first | exact trivial | exact rfl | exact t_ld h | (refine lds_s (t_ld h) ?_; (repeat (refine lds_s (t_ld h) ?_)); exact lds_nil) | omega) | refine u_bspT ?_ | refine u_bspF ?_)
      exact k _ (chan_close h b).fin1

theorem chans_Close (h : Hp R L M) [o : ObjAt chanR b L c L']
    (k : ∀ A ca B cb M', Hp R (objP chanR b c.close.1 :: rowW B cb c.close.2.2.1 :: rowW A ca c.close.2.1 :: L') M' → K (.tuple #[.slice A c.close.2.1.length ca, .slice B c.close.2.2.1.length cb, .int .i64 c.close.2.2.2]) M') :
    ACalls Tryz.prog 213 #[.pointer (some ⟨b, 0, none⟩)] M K Kp := by
  refine vc_chans_Chan_Close ?_
  obtain ⟨room, buf, snd, rcv, closed⟩ := c
  have h' := chan_open h (b := b)
  clear h
  obtain ⟨Ab, cb, As, cs, Ar, cr, h⟩ := h'
  dsimp only [chanCells] at h
  repeat (first | (refine s_nwc h ?_; clear h; intro kb M h) | (refine s_stc h ?_; clear h; intro M h) | refine t_exI h ?_ | refine t_exB h ?_ | refine t_exS h ?_ | refine t_exP h ?_ | refine t_exSl h ?_ | refine t_exV h ?_ | refine u_exI ?_ | refine u_exB ?_ | refine u_exS ?_ | refine u_exP ?_ | refine u_exSl ?_ | refine u_exV ?_ | refine u_nilc ?_ | (apply Exists.intro; (repeat apply Exists.intro); refine And.intro rfl ?_) | (refine And.intro ?_ ?_; first | exact trivial | exact rfl | exact t_ld h | (refine lds_s (t_ld h) ?_; (repeat (refine lds_s (t_ld h) ?_)); exact lds_nil) | omega) | refine u_bspT ?_ | refine u_bspF ?_)
  refine bsp_iff.2 ⟨fun hc => ?_, fun hc => ?_⟩
  · subst hc
    have h := chan_close ((h.row_nil waitE 298).row_nil waitE 298) b
    exact k none 0 none 0 _ h
  · subst hc
    repeat (first | (refine s_nwc h ?_; clear h; intro kb M h) | (refine s_stc h ?_; clear h; intro M h) | refine t_exI h ?_ | refine t_exB h ?_ | refine t_exS h ?_ | refine t_exP h ?_ | refine t_exSl h ?_ | refine t_exV h ?_ | refine u_exI ?_ | refine u_exB ?_ | refine u_exS ?_ | refine u_exP ?_ | refine u_exSl ?_ | refine u_exV ?_ | refine u_nilc ?_ | (apply Exists.intro; (repeat apply Exists.intro); refine And.intro rfl ?_) | (refine And.intro ?_ ?_; first | exact trivial | exact rfl | exact t_ld h | (refine lds_s (t_ld h) ?_; (repeat (refine lds_s (t_ld h) ?_)); exact lds_nil) | omega) | refine u_bspT ?_ | refine u_bspF ?_)
    have h := (h.row_nil waitE 298).row_nil waitE 298
    exact k _ _ _ _ _ ((chan_close h b).sub (by repeat (first | exact .refl | refine .cons (by repeat (first | exact .here | apply Pick.there)) ?_ | apply Sub.drop)))


theorem chans_without {B : Option Addr} {n cc : Nat} {g : Int} {l : List Wt} (h : Hp R L M) (hB : Src R L B (waitE.cells l)) (hn : n = l.length) (hs : l.length ≤ 1000000000)
    (k : ∀ A' c' M', Hp R (rowW A' c' (wo g l) :: L) M' → K (.slice A' (wo g l).length c') M') :
    ACalls Tryz.prog 227 #[.slice B n cc, .int .i64 g] M K Kp := by
  subst hn
  refine vc_chans_without ⟨fun d vs M => ∃ i A c, vs = [.slice A (wo g (l.take i)).length c, .int .i64 (i : Int)] ∧ d = l.length - i ∧ i ≤ l.length ∧ Hp R (rowW A c (wo g (l.take i)) :: L) M,
    ⟨_, 0, none, 0, rfl, rfl, by omega, h.row_nil _ _⟩, ?_⟩
  clear h
  rintro d _ A n c' ii M ⟨i, _, _, he, hd, hi, h⟩
  simp only [List.cons.injEq, Value.slice.injEq, Value.int.injEq, and_true, true_and] at he
  obtain ⟨⟨rfl, rfl, rfl⟩, rfl⟩ := he
  refine bsp_dec.2 ⟨fun hlt => ?_, fun hge => ?_⟩
  · obtain ⟨w, hw⟩ := idx_ex (l := l) (i := i) (by omega)
    obtain ⟨b, o, rfl⟩ := hB.cons.someE h (by omega) (by decide)
    have e1 : IntKind.wrap .i64 ((i : Int) + 1) = ((i + 1 : Nat) : Int) := wrap_succ (by omega)
    have hl := wo_len g (l.take i)
    have hl2 := List.length_take_le i l
    rw [e1]
    repeat (first | (refine s_nwc h ?_; clear h; intro kb M h) | (refine s_stc h ?_; clear h; intro M h) | refine t_exI h ?_ | refine t_exB h ?_ | refine t_exS h ?_ | refine t_exP h ?_ | refine t_exSl h ?_ | refine t_exV h ?_ | refine u_exI ?_ | refine u_exB ?_ | refine u_exS ?_ | refine u_exP ?_ | refine u_exSl ?_ | refine u_exV ?_ | refine u_nilc ?_ | (apply Exists.intro; (repeat apply Exists.intro); refine And.intro rfl ?_) | (refine And.intro ?_ ?_; first | exact trivial | exact rfl | exact t_ld h | (refine lds_s (t_ld h) ?_; (repeat (refine lds_s (t_ld h) ?_)); exact lds_nil) | omega) | refine u_bspT ?_ | refine u_bspF ?_)
    refine v_exI (hB.cons.at h (j := 0) hw rfl (by simp [waitE])) ?_
    refine v_exI (hB.cons.at h (j := 1) hw rfl (by simp [waitE]; omega)) ?_
    refine v_exI (hB.cons.at h (j := 2) hw rfl (by simp [waitE]; omega)) ?_
    repeat (first | (refine s_nwc h ?_; clear h; intro kb M h) | (refine s_stc h ?_; clear h; intro M h) | refine t_exI h ?_ | refine t_exB h ?_ | refine t_exS h ?_ | refine t_exP h ?_ | refine t_exSl h ?_ | refine t_exV h ?_ | refine u_exI ?_ | refine u_exB ?_ | refine u_exS ?_ | refine u_exP ?_ | refine u_exSl ?_ | refine u_exV ?_ | refine u_nilc ?_ | (apply Exists.intro; (repeat apply Exists.intro); refine And.intro rfl ?_) | (refine And.intro ?_ ?_; first | exact trivial | exact rfl | exact t_ld h | (refine lds_s (t_ld h) ?_; (repeat (refine lds_s (t_ld h) ?_)); exact lds_nil) | omega) | refine u_bspT ?_ | refine u_bspF ?_)
    refine bsp_ne.2 ⟨fun hne => ?_, fun heq => ?_⟩
    · have e2 : wo g (l.take (i + 1)) = wo g (l.take i) ++ [w] := by rw [take_snoc hw, wo_app]; simp [wo, hne]
      repeat (first | (refine s_nwc h ?_; clear h; intro kb M h) | (refine s_stc h ?_; clear h; intro M h) | refine t_exI h ?_ | refine t_exB h ?_ | refine t_exS h ?_ | refine t_exP h ?_ | refine t_exSl h ?_ | refine t_exV h ?_ | refine u_exI ?_ | refine u_exB ?_ | refine u_exS ?_ | refine u_exP ?_ | refine u_exSl ?_ | refine u_exV ?_ | refine u_nilc ?_ | (apply Exists.intro; (repeat apply Exists.intro); refine And.intro rfl ?_) | (refine And.intro ?_ ?_; first | exact trivial | exact rfl | exact t_ld h | (refine lds_s (t_ld h) ?_; (repeat (refine lds_s (t_ld h) ?_)); exact lds_nil) | omega) | refine u_bspT ?_ | refine u_bspF ?_)
      refine h.rowAppend1 el_wait [w] rfl rfl (by simp; omega) ?_
      clear h
      intro A' c' M h
      repeat (first | (refine s_nwc h ?_; clear h; intro kb M h) | (refine s_stc h ?_; clear h; intro M h) | refine t_exI h ?_ | refine t_exB h ?_ | refine t_exS h ?_ | refine t_exP h ?_ | refine t_exSl h ?_ | refine t_exV h ?_ | refine u_exI ?_ | refine u_exB ?_ | refine u_exS ?_ | refine u_exP ?_ | refine u_exSl ?_ | refine u_exV ?_ | refine u_nilc ?_ | (apply Exists.intro; (repeat apply Exists.intro); refine And.intro rfl ?_) | (refine And.intro ?_ ?_; first | exact trivial | exact rfl | exact t_ld h | (refine lds_s (t_ld h) ?_; (repeat (refine lds_s (t_ld h) ?_)); exact lds_nil) | omega) | refine u_bspT ?_ | refine u_bspF ?_)
      exact ⟨l.length - (i + 1), by omega, i + 1, A', c', by rw [e2], rfl, by omega, by rw [e2]; exact h.fin1⟩
    · have e2 : wo g (l.take (i + 1)) = wo g (l.take i) := by rw [take_snoc hw, wo_app]; simp [wo, heq]
      exact ⟨l.length - (i + 1), by omega, i + 1, A, c', by rw [e2], rfl, by omega, by rw [e2]; exact h.fin0⟩
  · have : i = l.length := by omega
    subst this
    rw [List.take_length] at h ⊢
    exact k _ _ _ h

theorem chans_Drop {g : Int} (h : Hp R L M) [o : ObjAt chanR b L c L'] (hs : c.Small 1000000000) (k : ∀ M', Hp R (objP chanR b (c.drop g) :: L') M' → K (.tuple #[]) M') :
    ACalls Tryz.prog 226 #[.pointer (some ⟨b, 0, none⟩), .int .i64 g] M K Kp := by
  refine vc_chans_Chan_Drop ?_
  have h' := chan_open h (b := b)
  clear h
  obtain ⟨Ab, cb, As, cs, Ar, cr, h⟩ := h'
  obtain ⟨h1, h2, h3⟩ := hs
  repeat (first | (refine s_nwc h ?_; clear h; intro kb M h) | (refine s_stc h ?_; clear h; intro M h) | refine t_exI h ?_ | refine t_exB h ?_ | refine t_exS h ?_ | refine t_exP h ?_ | refine t_exSl h ?_ | refine t_exV h ?_ | refine u_exI ?_ | refine u_exB ?_ | refine u_exS ?_ | refine u_exP ?_ | refine u_exSl ?_ | refine u_exV ?_ | refine u_nilc ?_ | (apply Exists.intro; (repeat apply Exists.intro); refine And.intro rfl ?_) | (refine And.intro ?_ ?_; first | exact trivial | exact rfl | exact t_ld h | (refine lds_s (t_ld h) ?_; (repeat (refine lds_s (t_ld h) ?_)); exact lds_nil) | omega) | refine u_bspT ?_ | refine u_bspF ?_)
  refine ⟨?_, ?_, trivial⟩
  · refine chans_without h (h.src (A := As)) rfl h2 ?_
    clear h
    intro A' c' M h
    repeat (first | (refine s_nwc h ?_; clear h; intro kb M h) | (refine s_stc h ?_; clear h; intro M h) | refine t_exI h ?_ | refine t_exB h ?_ | refine t_exS h ?_ | refine t_exP h ?_ | refine t_exSl h ?_ | refine t_exV h ?_ | refine u_exI ?_ | refine u_exB ?_ | refine u_exS ?_ | refine u_exP ?_ | refine u_exSl ?_ | refine u_exV ?_ | refine u_nilc ?_ | (apply Exists.intro; (repeat apply Exists.intro); refine And.intro rfl ?_) | (refine And.intro ?_ ?_; first | exact trivial | exact rfl | exact t_ld h | (refine lds_s (t_ld h) ?_; (repeat (refine lds_s (t_ld h) ?_)); exact lds_nil) | omega) | refine u_bspT ?_ | refine u_bspF ?_)
    refine chans_without h (h.src (A := Ar)) rfl h3 ?_
    clear h
    intro B' d' M h
    repeat (first | (refine s_nwc h ?_; clear h; intro kb M h) | (refine s_stc h ?_; clear h; intro M h) | refine t_exI h ?_ | refine t_exB h ?_ | refine t_exS h ?_ | refine t_exP h ?_ | refine t_exSl h ?_ | refine t_exV h ?_ | refine u_exI ?_ | refine u_exB ?_ | refine u_exS ?_ | refine u_exP ?_ | refine u_exSl ?_ | refine u_exV ?_ | refine u_nilc ?_ | (apply Exists.intro; (repeat apply Exists.intro); refine And.intro rfl ?_) | (refine And.intro ?_ ?_; first | exact trivial | exact rfl | exact t_ld h | (refine lds_s (t_ld h) ?_; (repeat (refine lds_s (t_ld h) ?_)); exact lds_nil) | omega) | refine u_bspT ?_ | refine u_bspF ?_)
    exact k _ (chan_close h b).fin1
  · repeat (first | (refine s_nwc h ?_; clear h; intro kb M h) | (refine s_stc h ?_; clear h; intro M h) | refine t_exI h ?_ | refine t_exB h ?_ | refine t_exS h ?_ | refine t_exP h ?_ | refine t_exSl h ?_ | refine t_exV h ?_ | refine u_exI ?_ | refine u_exB ?_ | refine u_exS ?_ | refine u_exP ?_ | refine u_exSl ?_ | refine u_exV ?_ | refine u_nilc ?_ | (apply Exists.intro; (repeat apply Exists.intro); refine And.intro rfl ?_) | (refine And.intro ?_ ?_; first | exact trivial | exact rfl | exact t_ld h | (refine lds_s (t_ld h) ?_; (repeat (refine lds_s (t_ld h) ?_)); exact lds_nil) | omega) | refine u_bspT ?_ | refine u_bspF ?_)
    refine chans_without h (h.src (A := As)) rfl h2 ?_
    clear h
    intro A' c' M h
    repeat (first | (refine s_nwc h ?_; clear h; intro kb M h) | (refine s_stc h ?_; clear h; intro M h) | refine t_exI h ?_ | refine t_exB h ?_ | refine t_exS h ?_ | refine t_exP h ?_ | refine t_exSl h ?_ | refine t_exV h ?_ | refine u_exI ?_ | refine u_exB ?_ | refine u_exS ?_ | refine u_exP ?_ | refine u_exSl ?_ | refine u_exV ?_ | refine u_nilc ?_ | (apply Exists.intro; (repeat apply Exists.intro); refine And.intro rfl ?_) | (refine And.intro ?_ ?_; first | exact trivial | exact rfl | exact t_ld h | (refine lds_s (t_ld h) ?_; (repeat (refine lds_s (t_ld h) ?_)); exact lds_nil) | omega) | refine u_bspT ?_ | refine u_bspF ?_)
    refine chans_without h (h.src (A := Ar)) rfl h3 ?_
    clear h
    intro B' d' M h
    repeat (first | (refine s_nwc h ?_; clear h; intro kb M h) | (refine s_stc h ?_; clear h; intro M h) | refine t_exI h ?_ | refine t_exB h ?_ | refine t_exS h ?_ | refine t_exP h ?_ | refine t_exSl h ?_ | refine t_exV h ?_ | refine u_exI ?_ | refine u_exB ?_ | refine u_exS ?_ | refine u_exP ?_ | refine u_exSl ?_ | refine u_exV ?_ | refine u_nilc ?_ | (apply Exists.intro; (repeat apply Exists.intro); refine And.intro rfl ?_) | (refine And.intro ?_ ?_; first | exact trivial | exact rfl | exact t_ld h | (refine lds_s (t_ld h) ?_; (repeat (refine lds_s (t_ld h) ?_)); exact lds_nil) | omega) | refine u_bspT ?_ | refine u_bspF ?_)
    exact k _ (chan_close h b).fin1

end
end Go.Proofs

set_option linter.unusedVariables false
namespace Go.AF
theorem zip_set {α β γ : Type} {f : α → β → γ} : ∀ {l : List α} {m : List β} {i : Nat} {a : α} {b : β}, l[i]? = some a → (List.zipWith f l m).set i (f a b) = List.zipWith f l (m.set i b)
  | [], _, _, _, _, h => by simp at h
  | x :: l, [], i, a, b, h => by simp
  | x :: l, y :: m, 0, a, b, h => by simp at h; subst h; rfl
  | x :: l, y :: m, i + 1, a, b, h => by
    have := zip_set (f := f) (m := m) (b := b) (show l[i]? = some a from by simpa using h)
    simp [this]
theorem zip_at {α β γ : Type} {f : α → β → γ} : ∀ {l : List α} {m : List β} {i : Nat} {a : α} {b : β}, l[i]? = some a → m[i]? = some b → (List.zipWith f l m)[i]? = some (f a b)
  | [], _, _, _, _, h, _ => by simp at h
  | x :: l, [], i, a, b, h, g => by simp at g
  | x :: l, y :: m, 0, a, b, h, g => by simp at h g; subst h; subst g; rfl
  | x :: l, y :: m, i + 1, a, b, h, g => by simpa using zip_at (f := f) (show l[i]? = some a from by simpa using h) (show m[i]? = some b from by simpa using g)
theorem Pick.past {P : HP} {L : List HP} : ∀ (l : List HP), Pick (l ++ P :: L) P (l ++ L)
  | [] => .here
  | Q :: l => .there (Pick.past l)
section
variable {α : Type} {r : Rep α} {R : Mem} {L L' L'' : List HP} {M : Mem} {bs : List Nat} {cs : List α} {b i : Nat} {c : α}
/-- Objects stand at these places. -/
def objsP (r : Rep α) (bs : List Nat) (cs : List α) : HP := sep (List.zipWith (objP r) bs cs)
/-- All but one. -/
def objsX (r : Rep α) (bs : List Nat) (cs : List α) (i : Nat) : HP := sep ((List.zipWith (objP r) bs cs).eraseIdx i)
class ObjsAt (r : Rep α) (L : List HP) (bs : outParam (List Nat)) (cs : outParam (List α)) (L' : outParam (List HP)) : Prop where
  pick : Pick L (objsP r bs cs) L'
instance ObjsAt.here : ObjsAt r (objsP r bs cs :: L) bs cs L := ⟨.here⟩
instance (priority := low) ObjsAt.there {P : HP} [h : ObjsAt r L bs cs L'] : ObjsAt r (P :: L) bs cs (P :: L') := ⟨.there h.pick⟩
class ObjsX (r : Rep α) (L : List HP) (bs : outParam (List Nat)) (cs : outParam (List α)) (i : outParam Nat) (L' : outParam (List HP)) : Prop where
  pick : Pick L (objsX r bs cs i) L'
instance ObjsX.here : ObjsX r (objsX r bs cs i :: L) bs cs i L := ⟨.here⟩
instance (priority := low) ObjsX.there {P : HP} [h : ObjsX r L bs cs i L'] : ObjsX r (P :: L) bs cs i (P :: L') := ⟨.there h.pick⟩
theorem Hp.objs_front (h : Hp R L M) (r : Rep α) {bs : List Nat} {cs : List α} [o : ObjsAt r L bs cs L'] : Hp R (objsP r bs cs :: L') M := h.pick o.pick
theorem Hp.objs_nil (h : Hp R L M) (r : Rep α) : Hp R (objsP r [] [] :: L) M := Hp.sep_iff.2 h
/-- One comes to the front. -/
theorem Hp.objs_out (h : Hp R L M) (r : Rep α) {bs : List Nat} {cs : List α} [o : ObjsAt r L bs cs L'] (hb : bs[i]? = some b) (hc : cs[i]? = some c) : Hp R (objP r b c :: objsX r bs cs i :: L') M :=
  (h.pick o.pick).focus (zip_at hb hc)
/-- It goes back. -/
theorem Hp.objs_in (h : Hp R L M) (r : Rep α) (b : Nat) {bs : List Nat} {cs : List α} {i : Nat} {c : α} [o : ObjAt r b L c L'] [x : ObjsX r L' bs cs i L''] (hb : bs[i]? = some b) (hc : i < cs.length) : Hp R (objsP r bs (cs.set i c) :: L'') M := by
  have h1 : Hp R (objP r b c :: objsX r bs cs i :: L'') M := (h.pick o.pick).map fun _ hs => hs.tail (fun _ => Star.pick x.pick)
  have h2 := Hp.unfocus (ls := List.zipWith (objP r) bs cs) h1 (by rw [List.length_zipWith]; have := (List.getElem?_eq_some_iff.1 hb).1; omega)
  rw [zip_set hb] at h2
  exact h2
theorem Hp.objs_same (h : Hp R L M) (r : Rep α) (b : Nat) {bs : List Nat} {cs : List α} {i : Nat} {c : α} [o : ObjAt r b L c L'] [x : ObjsX r L' bs cs i L''] (hb : bs[i]? = some b) (hc : cs[i]? = some c) : Hp R (objsP r bs cs :: L'') M := by
  have := h.objs_in r b hb (List.getElem?_eq_some_iff.1 hc).1
  obtain ⟨hi, rfl⟩ := List.getElem?_eq_some_iff.1 hc
  rwa [List.set_getElem_self] at this
theorem Hp.objs_snoc (h : Hp R L M) (r : Rep α) (b : Nat) {bs : List Nat} {cs : List α} {c : α} [o : ObjAt r b L c L'] [x : ObjsAt r L' bs cs L''] (hl : bs.length = cs.length) : Hp R (objsP r (bs ++ [b]) (cs ++ [c]) :: L'') M := by
  have h1 : Hp R (objP r b c :: objsP r bs cs :: L'') M := (h.pick o.pick).map fun _ hs => hs.tail (fun _ => Star.pick x.pick)
  refine Hp.sep_iff.2 ?_
  rw [List.zipWith_append hl, List.append_assoc]
  refine Hp.unpick (P := objP r b c) ?_ (Pick.past _)
  exact h1.map fun _ hs => hs.tail fun _ hb => Star.sep_iff.1 hb
end
end Go.AF

namespace Go.Proofs
open Go.AF
set_option linter.unusedVariables false
set_option maxRecDepth 100000
theorem vc_picks_Enabled {B0 : Option Addr} {m0 c0 : Nat} {B1 : Option Addr} {m1 c1 : Nat} {M : Mem} {K : Value → Mem → Prop} {Kp : List PanicEntry → Mem → Prop} (h :
∃ I1 : Nat → List Value → Mem → Prop, (∃ k2 : Nat, I1 k2 [(.slice none 0 0), (.int .i64 0)] M) ∧
∀ k3 : Nat, ∀ junk4 : Nat → Value, ∀ A5 : Option Addr, ∀ k6 : Nat, ∀ k7 : Nat, ∀ n8 : Int, ∀ M9 : Mem, (I1 k3 [(.slice A5 k6 k7), (.int .i64 n8)] M9) → bsp (decide ((n8 : Int) < ((m0 : Nat) : Int)))
 (((0 : Int) ≤ n8) ∧
  ((n8 : Int) < ((m0 : Nat) : Int)) ∧
  nilc B0 fun k10 k11 =>
  exI (Mem.ld M9 ⟨k10, (k11 + ((Int.toNat n8) * 3)), none⟩) .i64 fun n12 =>
  exI (Mem.ld M9 ⟨k10, ((k11 + ((Int.toNat n8) * 3)) + 1), none⟩) .i64 fun n13 =>
  exI (Mem.ld M9 ⟨k10, ((k11 + ((Int.toNat n8) * 3)) + 2), none⟩) .i64 fun n14 =>
  nwc M9 (.cells #[(.int .i64 0), (.int .i64 0), (.int .i64 0)] 172 (0, 0)) fun k15 M16 =>
  stc M16 ⟨k15, 0, none⟩ (.int .i64 n12) fun M17 =>
  stc M17 ⟨k15, (0 + 1), none⟩ (.int .i64 n13) fun M18 =>
  stc M18 ⟨k15, (0 + 2), none⟩ (.int .i64 n14) fun M19 =>
  exI (Mem.ld M19 ⟨k15, 0, none⟩) .i64 fun n20 =>
  exI (Mem.ld M19 ⟨k15, (0 + 1), none⟩) .i64 fun n21 =>
  exI (Mem.ld M19 ⟨k15, (0 + 2), none⟩) .i64 fun n22 =>
  ACalls Tryz.prog 204 #[(.agg #[(.int .i64 n20), (.int .i64 n21), (.int .i64 n22)]), (.slice B1 m1 c1)] M19 (fun v23 M24 =>
  exB (some v23) fun t25 =>
  bsp t25
   (nwc M24 (.cells #[(.int .i64 n8)] 3 (0, 0)) fun k26 M27 =>
    semK Tryz.prog (Go.Builtin.append_ #[38, 38] 38 #[(.slice A5 k6 k7), (.slice (some ⟨k26, 0, none⟩) 1 1)]) M27 (fun v28 M29 =>
    exSl (some v28) fun A30 k31 k32 =>
    ∃ k33 : Nat, (k33 < k3) ∧
    I1 k33 [(.slice A30 k31 k32), (.int .i64 (IntKind.wrap .i64 (n8 + 1)))] M29) Kp)
   (∃ k34 : Nat, (k34 < k3) ∧
    I1 k34 [(.slice A5 k6 k7), (.int .i64 (IntKind.wrap .i64 (n8 + 1)))] M24)) Kp)
 (K (.slice A5 k6 k7) M9)) :
  ACalls Tryz.prog 155 ([.slice B0 m0 c0, .slice B1 m1 c1] : List Value).toArray M K Kp :=
  acalls_vc (C := Cx) good [(2000000, .loop [(5, .c .sl), (10, .c (.int .i64))])] Tryz.func155 (by kernel_rfl) (by kernel_rfl) h

theorem vc_picks_Else {B0 : Option Addr} {m0 c0 : Nat} {M : Mem} {K : Value → Mem → Prop} {Kp : List PanicEntry → Mem → Prop} (h :
∃ I1 : Nat → List Value → Mem → Prop, (∃ k2 : Nat, I1 k2 [(.int .i64 0)] M) ∧
∀ k3 : Nat, ∀ junk4 : Nat → Value, ∀ n5 : Int, ∀ M6 : Mem, (I1 k3 [(.int .i64 n5)] M6) → bsp (decide ((n5 : Int) < ((m0 : Nat) : Int)))
 (((0 : Int) ≤ n5) ∧
  ((n5 : Int) < ((m0 : Nat) : Int)) ∧
  nilc B0 fun k7 k8 =>
  exI (Mem.ld M6 ⟨k7, (k8 + ((Int.toNat n5) * 3)), none⟩) .i64 fun n9 =>
  exI (Mem.ld M6 ⟨k7, ((k8 + ((Int.toNat n5) * 3)) + 1), none⟩) .i64 fun n10 =>
  exI (Mem.ld M6 ⟨k7, ((k8 + ((Int.toNat n5) * 3)) + 2), none⟩) .i64 fun n11 =>
  nwc M6 (.cells #[(.int .i64 0), (.int .i64 0), (.int .i64 0)] 172 (0, 0)) fun k12 M13 =>
  stc M13 ⟨k12, 0, none⟩ (.int .i64 n9) fun M14 =>
  stc M14 ⟨k12, (0 + 1), none⟩ (.int .i64 n10) fun M15 =>
  stc M15 ⟨k12, (0 + 2), none⟩ (.int .i64 n11) fun M16 =>
  exI (Mem.ld M16 ⟨k12, 0, none⟩) .i64 fun n17 =>
  bsp (n17 == 2)
   (K (.tuple #[(.int .i64 n5), (.bool true)]) M16)
   (∃ k18 : Nat, (k18 < k3) ∧
    I1 k18 [(.int .i64 (IntKind.wrap .i64 (n5 + 1)))] M16))
 (K (.tuple #[(.int .i64 0), (.bool false)]) M6)) :
  ACalls Tryz.prog 156 ([.slice B0 m0 c0] : List Value).toArray M K Kp :=
  acalls_vc (C := Cx) good [(2000000, .loop [(8, .c (.int .i64))])] Tryz.func156 (by kernel_rfl) (by kernel_rfl) h

theorem vc_picks_Wait {x0 : Int} {B1 : Option Addr} {m1 c1 : Nat} {B2 : Option Addr} {m2 c2 : Nat} {B3 : Option Addr} {m3 c3 : Nat} {M : Mem} {K : Value → Mem → Prop} {Kp : List PanicEntry → Mem → Prop} (h :
∃ I1 : Nat → List Value → Mem → Prop, (∃ k2 : Nat, I1 k2 [(.int .i64 0)] M) ∧
∀ k3 : Nat, ∀ junk4 : Nat → Value, ∀ n5 : Int, ∀ M6 : Mem, (I1 k3 [(.int .i64 n5)] M6) → bsp (decide ((n5 : Int) < ((m1 : Nat) : Int)))
 (((0 : Int) ≤ n5) ∧
  ((n5 : Int) < ((m1 : Nat) : Int)) ∧
  nilc B1 fun k7 k8 =>
  exI (Mem.ld M6 ⟨k7, (k8 + ((Int.toNat n5) * 3)), none⟩) .i64 fun n9 =>
  exI (Mem.ld M6 ⟨k7, ((k8 + ((Int.toNat n5) * 3)) + 1), none⟩) .i64 fun n10 =>
  exI (Mem.ld M6 ⟨k7, ((k8 + ((Int.toNat n5) * 3)) + 2), none⟩) .i64 fun n11 =>
  nwc M6 (.cells #[(.int .i64 0), (.int .i64 0), (.int .i64 0)] 172 (0, 0)) fun k12 M13 =>
  stc M13 ⟨k12, 0, none⟩ (.int .i64 n9) fun M14 =>
  stc M14 ⟨k12, (0 + 1), none⟩ (.int .i64 n10) fun M15 =>
  stc M15 ⟨k12, (0 + 2), none⟩ (.int .i64 n11) fun M16 =>
  exI (Mem.ld M16 ⟨k12, 0, none⟩) .i64 fun n17 =>
  bsp (n17 == 0)
   (exI (Mem.ld M16 ⟨k12, (0 + 1), none⟩) .i64 fun n18 =>
    ((0 : Int) ≤ n18) ∧
    ((n18 : Int) < ((m3 : Nat) : Int)) ∧
    nilc B3 fun k19 k20 =>
    exP (Mem.ld M16 ⟨k19, (k20 + (Int.toNat n18)), none⟩) fun A21 =>
    ACalls Tryz.prog 205 #[(.pointer A21), (.agg #[(.int .i64 x0), (.int .i64 n5), (.int .i64 0)])] M16 (fun v22 M23 =>
    (v22 = (.tuple #[])) ∧
    ∃ k24 : Nat, (k24 < k3) ∧
    I1 k24 [(.int .i64 (IntKind.wrap .i64 (n5 + 1)))] M23) Kp)
   (bsp (n17 == 1)
     (exI (Mem.ld M16 ⟨k12, (0 + 1), none⟩) .i64 fun n25 =>
      ((0 : Int) ≤ n25) ∧
      ((n25 : Int) < ((m3 : Nat) : Int)) ∧
      nilc B3 fun k26 k27 =>
      exP (Mem.ld M16 ⟨k26, (k27 + (Int.toNat n25)), none⟩) fun A28 =>
      exI (Mem.ld M16 ⟨k12, (0 + 2), none⟩) .i64 fun n29 =>
      ((0 : Int) ≤ n29) ∧
      ((n29 : Int) < ((m2 : Nat) : Int)) ∧
      nilc B2 fun k30 k31 =>
      exI (Mem.ld M16 ⟨k30, (k31 + (Int.toNat n29)), none⟩) .i64 fun n32 =>
      ACalls Tryz.prog 206 #[(.pointer A28), (.agg #[(.int .i64 x0), (.int .i64 n5), (.int .i64 n32)])] M16 (fun v33 M34 =>
      (v33 = (.tuple #[])) ∧
      ∃ k35 : Nat, (k35 < k3) ∧
      I1 k35 [(.int .i64 (IntKind.wrap .i64 (n5 + 1)))] M34) Kp)
     (∃ k36 : Nat, (k36 < k3) ∧
      I1 k36 [(.int .i64 (IntKind.wrap .i64 (n5 + 1)))] M16)))
 (K (.tuple #[]) M6)) :
  ACalls Tryz.prog 157 ([.int .i64 x0, .slice B1 m1 c1, .slice B2 m2 c2, .slice B3 m3 c3] : List Value).toArray M K Kp :=
  acalls_vc (C := Cx) good [(2000000, .loop [(12, .c (.int .i64))]), (7, .reg [0, 0, 2, 7, 15, 0, 0, 0, 0, 256, 896, 1920, 4064, 8191] (.step 0 (.step 1 (.step 5 (.step 6 (.step 7 (.step 8 (.step 2 (.step 3 (.step 4 (.step 9 (.step 10 (.step 11 (.step 12 (.step 13 .done)))))))))))))))] Tryz.func157 (by kernel_rfl) (by kernel_rfl) h

theorem vc_picks_can {x0_0 : Int} {x0_1 : Int} {x0_2 : Int} {B1 : Option Addr} {m1 c1 : Nat} {M : Mem} {K : Value → Mem → Prop} {Kp : List PanicEntry → Mem → Prop} (h :
nwc M (.cells #[(.int .i64 x0_0), (.int .i64 x0_1), (.int .i64 x0_2)] 172 (0, 0)) fun k1 M2 =>
exI (Mem.ld M2 ⟨k1, 0, none⟩) .i64 fun n3 =>
bsp (n3 == 0)
 (exI (Mem.ld M2 ⟨k1, (0 + 1), none⟩) .i64 fun n4 =>
  ((0 : Int) ≤ n4) ∧
  ((n4 : Int) < ((m1 : Nat) : Int)) ∧
  nilc B1 fun k5 k6 =>
  exP (Mem.ld M2 ⟨k5, (k6 + (Int.toNat n4)), none⟩) fun A7 =>
  ACalls Tryz.prog 220 #[(.pointer A7)] M2 (fun v8 M9 =>
  exB (some v8) fun t10 =>
  K (.bool t10) M9) Kp)
 (bsp (n3 == 1)
   (exI (Mem.ld M2 ⟨k1, (0 + 1), none⟩) .i64 fun n11 =>
    ((0 : Int) ≤ n11) ∧
    ((n11 : Int) < ((m1 : Nat) : Int)) ∧
    nilc B1 fun k12 k13 =>
    exP (Mem.ld M2 ⟨k12, (k13 + (Int.toNat n11)), none⟩) fun A14 =>
    ACalls Tryz.prog 221 #[(.pointer A14)] M2 (fun v15 M16 =>
    exB (some v15) fun t17 =>
    K (.bool t17) M16) Kp)
   (K (.bool false) M2))) :
  ACalls Tryz.prog 204 ([.agg #[.int .i64 x0_0, .int .i64 x0_1, .int .i64 x0_2], .slice B1 m1 c1] : List Value).toArray M K Kp :=
  acalls_vc (C := Cx) good [] Tryz.func204 (by kernel_rfl) (by kernel_rfl) h

theorem vc_picks_Leave {x0 : Int} {B1 : Option Addr} {m1 c1 : Nat} {M : Mem} {K : Value → Mem → Prop} {Kp : List PanicEntry → Mem → Prop} (h :
∃ I1 : Nat → List Value → Mem → Prop, (∃ k2 : Nat, I1 k2 [(.int .i64 0)] M) ∧
∀ k3 : Nat, ∀ junk4 : Nat → Value, ∀ n5 : Int, ∀ M6 : Mem, (I1 k3 [(.int .i64 n5)] M6) → bsp (decide ((n5 : Int) < ((m1 : Nat) : Int)))
 (((0 : Int) ≤ n5) ∧
  ((n5 : Int) < ((m1 : Nat) : Int)) ∧
  nilc B1 fun k7 k8 =>
  exP (Mem.ld M6 ⟨k7, (k8 + (Int.toNat n5)), none⟩) fun A9 =>
  ACalls Tryz.prog 226 #[(.pointer A9), (.int .i64 x0)] M6 (fun v10 M11 =>
  (v10 = (.tuple #[])) ∧
  ∃ k12 : Nat, (k12 < k3) ∧
  I1 k12 [(.int .i64 (IntKind.wrap .i64 (n5 + 1)))] M11) Kp)
 (K (.tuple #[]) M6)) :
  ACalls Tryz.prog 225 ([.int .i64 x0, .slice B1 m1 c1] : List Value).toArray M K Kp :=
  acalls_vc (C := Cx) good [(2000000, .loop [(8, .c (.int .i64))])] Tryz.func225 (by kernel_rfl) (by kernel_rfl) h

end Go.Proofs

namespace Go.Proofs
open Go.AF
set_option linter.unusedVariables false
set_option maxRecDepth 100000
set_option maxHeartbeats 1000000
attribute [local irreducible] exI exB exS exP exSl exV nilc stc nwc semK semU bsp
structure Cas where
  way : Int
  ch : Int
  reg : Int
  deriving DecidableEq
def casE : Enc Cas := ⟨3, fun w => [.int .i64 w.way, .int .i64 w.ch, .int .i64 w.reg], fun _ => rfl, fun w v hv => by
  simp only [List.mem_cons, List.not_mem_nil, or_false] at hv; obtain rfl | rfl | rfl := hv <;> rfl⟩
/-- A case that may be, of n channels. -/
def Cas.Ok (n : Nat) (c : Cas) : Prop := 0 ≤ c.way ∧ c.way ≤ 2 ∧ (c.way ≠ 2 → 0 ≤ c.ch ∧ c.ch < n ∧ 0 ≤ c.reg ∧ c.reg < 8)
instance (n : Nat) (c : Cas) : Decidable (c.Ok n) := by unfold Cas.Ok; infer_instance
def chAt (cs : List Chan) (k : Int) : Chan := cs.getD k.toNat ⟨0, [], [], [], false⟩
def can (cs : List Chan) (c : Cas) : Bool := if c.way = 0 then (chAt cs c.ch).canRecv else if c.way = 1 then (chAt cs c.ch).canSend else false
def canAt (cases : List Cas) (cs : List Chan) (j : Nat) : Bool := match cases[j]? with
  | some c => can cs c
  | none => false
def enTo (cases : List Cas) (cs : List Chan) (i : Nat) : List Int := ((List.range i).filter (canAt cases cs)).map Int.ofNat
def enabled (cases : List Cas) (cs : List Chan) : List Int := enTo cases cs cases.length
theorem enTo_len (cases : List Cas) (cs : List Chan) (i : Nat) : (enTo cases cs i).length ≤ i := by
  unfold enTo; rw [List.length_map]; exact Nat.le_trans (List.length_filter_le ..) (by simp)
theorem enTo_succ {cases : List Cas} {cs : List Chan} {i : Nat} {c : Cas} (h : cases[i]? = some c) : enTo cases cs (i + 1) = enTo cases cs i ++ (if can cs c then [(i : Int)] else []) := by
  unfold enTo
  rw [List.range_succ, List.filter_append, List.map_append]
  simp only [List.filter_cons, canAt, h, List.filter_nil]
  split <;> simp_all
def els (cases : List Cas) : Option Nat := cases.findIdx? (fun c => c.way == 2)

/-- One waits at a case's channel. -/
def waitOne (g : Int) (regs : List Int) (i : Nat) (c : Cas) (cs : List Chan) : List Chan :=
  if c.way = 0 then cs.set c.ch.toNat { chAt cs c.ch with rcv := (chAt cs c.ch).rcv ++ [⟨g, i, 0⟩] }
  else if c.way = 1 then cs.set c.ch.toNat { chAt cs c.ch with snd := (chAt cs c.ch).snd ++ [⟨g, i, regs.getD c.reg.toNat 0⟩] } else cs
def waitTo (g : Int) (regs : List Int) (cases : List Cas) (cs : List Chan) : Nat → List Chan
  | 0 => cs
  | i + 1 => match cases[i]? with
    | some c => waitOne g regs i c (waitTo g regs cases cs i)
    | none => waitTo g regs cases cs i
theorem waitOne_len (g : Int) (regs : List Int) (i : Nat) (c : Cas) (cs : List Chan) : (waitOne g regs i c cs).length = cs.length := by
  unfold waitOne; split
  · simp
  · split <;> simp
theorem waitTo_len (g : Int) (regs : List Int) (cases : List Cas) (cs : List Chan) : ∀ i, (waitTo g regs cases cs i).length = cs.length
  | 0 => rfl
  | i + 1 => by
    unfold waitTo; split
    · rw [waitOne_len, waitTo_len _ _ _ _ i]
    · exact waitTo_len _ _ _ _ i
theorem mem_set {α : Type} {l : List α} {i : Nat} {x y : α} (h : y ∈ l.set i x) : y ∈ l ∨ y = x := by
  rcases List.mem_or_eq_of_mem_set h with h | h
  · exact .inl h
  · exact .inr h
theorem chAt_mem {cs : List Chan} {k : Int} (h0 : 0 ≤ k) (h : k < cs.length) : chAt cs k ∈ cs := by
  unfold chAt; rw [List.getD_eq_getElem?_getD, List.getElem?_eq_getElem (by omega)]; exact List.getElem_mem _
theorem waitOne_small {g : Int} {regs : List Int} {i : Nat} {c : Cas} {cs : List Chan} {N : Nat} (hs : ∀ x ∈ cs, x.Small N) (hc : c.Ok cs.length) : ∀ x ∈ waitOne g regs i c cs, x.Small (N + 1) := by
  obtain ⟨_, _, kk⟩ := hc
  intro x hm
  unfold waitOne at hm
  split at hm
  · rename_i hw
    have hx := hs _ (chAt_mem (kk (by omega)).1 (kk (by omega)).2.1)
    rcases mem_set hm with h | rfl
    · exact (hs x h).mono (by omega)
    · exact hx.wr _
  split at hm
  · rename_i hw
    have hx := hs _ (chAt_mem (kk (by omega)).1 (kk (by omega)).2.1)
    rcases mem_set hm with h | rfl
    · exact (hs x h).mono (by omega)
    · exact hx.ws _
  · exact (hs x hm).mono (by omega)
theorem waitTo_small {g : Int} {regs : List Int} {cases : List Cas} {cs : List Chan} {N : Nat} (hs : ∀ x ∈ cs, x.Small N) (hok : ∀ c ∈ cases, c.Ok cs.length) : ∀ i, ∀ x ∈ waitTo g regs cases cs i, x.Small (N + i)
  | 0 => hs
  | i + 1 => by
    unfold waitTo; split
    · rename_i c hc
      exact waitOne_small (waitTo_small hs hok i) (by rw [waitTo_len]; exact hok c (List.mem_of_getElem? hc))
    · exact fun x hx => (waitTo_small hs hok i x hx).mono (by omega)

section
variable {R : Mem} {L L' : List HP} {M : Mem} {K : Value → Mem → Prop} {Kp : List PanicEntry → Mem → Prop} {bs : List Nat} {cs : List Chan}

theorem el_int : ElemOk Tryz.prog 38 3 1 8 [.int .i64 0] := ElemOk.mk' (zv := .int .i64 0) (by kernel_rfl) (by kernel_rfl) rfl (by omega)
theorem els_some {cases : List Cas} {i : Nat} {c : Cas} (hc : cases[i]? = some c) (hw : c.way = 2) (hp : ∀ j c, j < i → cases[j]? = some c → c.way ≠ 2) : els cases = some i := by
  obtain ⟨hi, e⟩ := List.getElem?_eq_some_iff.1 hc
  refine List.findIdx?_eq_some_iff_getElem.2 ⟨hi, by rw [e]; simpa using hw, fun j hj => ?_⟩
  have := hp j _ hj (List.getElem?_eq_getElem (by omega))
  simpa using this
theorem els_none {cases : List Cas} (hp : ∀ j c, j < cases.length → cases[j]? = some c → c.way ≠ 2) : els cases = none := by
  refine List.findIdx?_eq_none_iff.2 fun c hc => ?_
  obtain ⟨j, hj, e⟩ := List.getElem_of_mem hc
  have := hp j c hj (by rw [← e]; exact List.getElem?_eq_getElem hj)
  simpa using this

theorem picks_Else {B : Option Addr} {m cc : Nat} {cases : List Cas} (h : Hp R L M) (hB : Src R L B (casE.cells cases)) (hm : m = cases.length) (hb : cases.length ≤ 1000000000)
    (k : ∀ M', Hp R L M' → K (.tuple #[.int .i64 (match els cases with | some i => (i : Int) | none => 0), .bool (els cases).isSome]) M') :
    ACalls Tryz.prog 156 #[.slice B m cc] M K Kp := by
  subst hm
  refine vc_picks_Else ⟨fun d ws M => ∃ i : Nat, ws = [.int .i64 (i : Int)] ∧ d = cases.length - i ∧ i ≤ cases.length ∧ (∀ j c, j < i → cases[j]? = some c → c.way ≠ 2) ∧ Hp R L M, ⟨_, 0, rfl, rfl, by omega, fun j c hj => by omega, h⟩, ?_⟩
  clear h
  rintro d _ ii M ⟨i, he, hd, hi, hp, h⟩
  simp only [List.cons.injEq, Value.int.injEq, and_true, true_and] at he
  subst he
  refine bsp_dec.2 ⟨fun hlt => ?_, fun hge => ?_⟩
  · obtain ⟨c, hc⟩ := idx_ex (l := cases) (i := i) (by omega)
    obtain ⟨b, o, rfl⟩ := hB.someE h (by omega) (by decide)
    repeat (first | (refine s_nwc h ?_; clear h; intro kb M h) | (refine s_stc h ?_; clear h; intro M h) | refine t_exI h ?_ | refine t_exB h ?_ | refine t_exS h ?_ | refine t_exP h ?_ | refine t_exSl h ?_ | refine t_exV h ?_ | refine u_exI ?_ | refine u_exB ?_ | refine u_exS ?_ | refine u_exP ?_ | refine u_exSl ?_ | refine u_exV ?_ | refine u_nilc ?_ | (apply Exists.intro; (repeat apply Exists.intro); refine And.intro rfl ?_) | (refine And.intro ?_ ?_; first | exact trivial | exact rfl | exact t_ld h | (refine lds_s (t_ld h) ?_; (repeat (refine lds_s (t_ld h) ?_)); exact lds_nil) | omega) | refine u_bspT ?_ | refine u_bspF ?_)
    simp only [Int.toNat_natCast]
    refine v_exI (hB.at h (i := i) (j := 0) hc rfl rfl) ?_
    refine v_exI (hB.at h (i := i) (j := 1) hc rfl rfl) ?_
    refine v_exI (hB.at h (i := i) (j := 2) hc rfl rfl) ?_
    repeat (first | (refine s_nwc h ?_; clear h; intro kb M h) | (refine s_stc h ?_; clear h; intro M h) | refine t_exI h ?_ | refine t_exB h ?_ | refine t_exS h ?_ | refine t_exP h ?_ | refine t_exSl h ?_ | refine t_exV h ?_ | refine u_exI ?_ | refine u_exB ?_ | refine u_exS ?_ | refine u_exP ?_ | refine u_exSl ?_ | refine u_exV ?_ | refine u_nilc ?_ | (apply Exists.intro; (repeat apply Exists.intro); refine And.intro rfl ?_) | (refine And.intro ?_ ?_; first | exact trivial | exact rfl | exact t_ld h | (refine lds_s (t_ld h) ?_; (repeat (refine lds_s (t_ld h) ?_)); exact lds_nil) | omega) | refine u_bspT ?_ | refine u_bspF ?_)
    refine bsp_eq.2 ⟨fun e => ?_, fun e => ?_⟩
    · have := els_some hc e hp
      rw [this] at k
      exact k _ h.fin0
    · rw [wrap_succ (by omega)]
      refine ⟨cases.length - (i + 1), by omega, i + 1, rfl, rfl, by omega, fun j c' hj hc' => ?_, h.fin0⟩
      rcases Nat.lt_or_ge j i with hji | hji
      · exact hp j c' hji hc'
      · obtain rfl : j = i := by omega
        rw [hc] at hc'; cases hc'; exact e
  · obtain rfl : i = cases.length := by omega
    rw [els_none hp] at k
    exact k _ h

theorem picks_can {c : Cas} {B : Option Addr} {m cc : Nat} (h : Hp R L M) [o : ObjsAt chanR L bs cs L'] (hB : Src R L' B (ptrE.cells bs)) (hm : m = bs.length) (hl : bs.length = cs.length) (hc : c.way ≠ 2 → 0 ≤ c.ch ∧ c.ch < cs.length) (hw2 : 0 ≤ c.way ∧ c.way ≤ 2)
    (k : ∀ M', Hp R (objsP chanR bs cs :: L') M' → K (.bool (can cs c)) M') : ACalls Tryz.prog 204 #[.agg #[.int .i64 c.way, .int .i64 c.ch, .int .i64 c.reg], .slice B m cc] M K Kp := by
  subst hm
  replace h := h.objs_front chanR
  obtain ⟨way, ch, reg⟩ := c
  dsimp only at *
  by_cases hwe : way = 2
  · subst hwe
    refine vc_picks_can ?_
    repeat (first | (refine s_nwc h ?_; clear h; intro kb M h) | (refine s_stc h ?_; clear h; intro M h) | refine t_exI h ?_ | refine t_exB h ?_ | refine t_exS h ?_ | refine t_exP h ?_ | refine t_exSl h ?_ | refine t_exV h ?_ | refine u_exI ?_ | refine u_exB ?_ | refine u_exS ?_ | refine u_exP ?_ | refine u_exSl ?_ | refine u_exV ?_ | refine u_nilc ?_ | (apply Exists.intro; (repeat apply Exists.intro); refine And.intro rfl ?_) | (refine And.intro ?_ ?_; first | exact trivial | exact rfl | exact t_ld h | (refine lds_s (t_ld h) ?_; (repeat (refine lds_s (t_ld h) ?_)); exact lds_nil) | omega) | refine u_bspT ?_ | refine u_bspF ?_)
    exact k _ h.fin0
  replace hc := hc hwe
  obtain ⟨q, rfl⟩ := Int.eq_ofNat_of_zero_le hc.1
  obtain ⟨x, hx⟩ := idx_ex (l := cs) (i := q) (by omega)
  obtain ⟨b, hb⟩ := idx_ex (l := bs) (i := q) (by omega)
  have hxx : chAt cs (q : Int) = x := by simp [chAt, hx]
  obtain ⟨b0, o0, rfl⟩ := hB.cons.someE h (by omega) (by decide)
  simp only [can, hxx] at k
  refine vc_picks_can ?_
  repeat (first | (refine s_nwc h ?_; clear h; intro kb M h) | (refine s_stc h ?_; clear h; intro M h) | refine t_exI h ?_ | refine t_exB h ?_ | refine t_exS h ?_ | refine t_exP h ?_ | refine t_exSl h ?_ | refine t_exV h ?_ | refine u_exI ?_ | refine u_exB ?_ | refine u_exS ?_ | refine u_exP ?_ | refine u_exSl ?_ | refine u_exV ?_ | refine u_nilc ?_ | (apply Exists.intro; (repeat apply Exists.intro); refine And.intro rfl ?_) | (refine And.intro ?_ ?_; first | exact trivial | exact rfl | exact t_ld h | (refine lds_s (t_ld h) ?_; (repeat (refine lds_s (t_ld h) ?_)); exact lds_nil) | omega) | refine u_bspT ?_ | refine u_bspF ?_)
  refine bsp_eq.2 ⟨fun e => ?_, fun e => ?_⟩
  · rw [if_pos e] at k
    repeat (first | (refine s_nwc h ?_; clear h; intro kb M h) | (refine s_stc h ?_; clear h; intro M h) | refine t_exI h ?_ | refine t_exB h ?_ | refine t_exS h ?_ | refine t_exP h ?_ | refine t_exSl h ?_ | refine t_exV h ?_ | refine u_exI ?_ | refine u_exB ?_ | refine u_exS ?_ | refine u_exP ?_ | refine u_exSl ?_ | refine u_exV ?_ | refine u_nilc ?_ | (apply Exists.intro; (repeat apply Exists.intro); refine And.intro rfl ?_) | (refine And.intro ?_ ?_; first | exact trivial | exact rfl | exact t_ld h | (refine lds_s (t_ld h) ?_; (repeat (refine lds_s (t_ld h) ?_)); exact lds_nil) | omega) | refine u_bspT ?_ | refine u_bspF ?_)
    refine v_exP (hB.cons.cons.at h (i := q) (j := 0) hb rfl (by simp [ptrE])) ?_
    replace h := h.objs_out chanR hb hx
    refine chans_CanRecv h ?_
    repeat (first | (refine s_nwc h ?_; clear h; intro kb M h) | (refine s_stc h ?_; clear h; intro M h) | refine t_exI h ?_ | refine t_exB h ?_ | refine t_exS h ?_ | refine t_exP h ?_ | refine t_exSl h ?_ | refine t_exV h ?_ | refine u_exI ?_ | refine u_exB ?_ | refine u_exS ?_ | refine u_exP ?_ | refine u_exSl ?_ | refine u_exV ?_ | refine u_nilc ?_ | (apply Exists.intro; (repeat apply Exists.intro); refine And.intro rfl ?_) | (refine And.intro ?_ ?_; first | exact trivial | exact rfl | exact t_ld h | (refine lds_s (t_ld h) ?_; (repeat (refine lds_s (t_ld h) ?_)); exact lds_nil) | omega) | refine u_bspT ?_ | refine u_bspF ?_)
    exact k _ (h.objs_same chanR b hb hx).fin1
  rw [if_neg e] at k
  refine bsp_eq.2 ⟨fun e => ?_, fun e => ?_⟩
  · rw [if_pos e] at k
    repeat (first | (refine s_nwc h ?_; clear h; intro kb M h) | (refine s_stc h ?_; clear h; intro M h) | refine t_exI h ?_ | refine t_exB h ?_ | refine t_exS h ?_ | refine t_exP h ?_ | refine t_exSl h ?_ | refine t_exV h ?_ | refine u_exI ?_ | refine u_exB ?_ | refine u_exS ?_ | refine u_exP ?_ | refine u_exSl ?_ | refine u_exV ?_ | refine u_nilc ?_ | (apply Exists.intro; (repeat apply Exists.intro); refine And.intro rfl ?_) | (refine And.intro ?_ ?_; first | exact trivial | exact rfl | exact t_ld h | (refine lds_s (t_ld h) ?_; (repeat (refine lds_s (t_ld h) ?_)); exact lds_nil) | omega) | refine u_bspT ?_ | refine u_bspF ?_)
    refine v_exP (hB.cons.cons.at h (i := q) (j := 0) hb rfl (by simp [ptrE])) ?_
    replace h := h.objs_out chanR hb hx
    refine chans_CanSend h ?_
    repeat (first | (refine s_nwc h ?_; clear h; intro kb M h) | (refine s_stc h ?_; clear h; intro M h) | refine t_exI h ?_ | refine t_exB h ?_ | refine t_exS h ?_ | refine t_exP h ?_ | refine t_exSl h ?_ | refine t_exV h ?_ | refine u_exI ?_ | refine u_exB ?_ | refine u_exS ?_ | refine u_exP ?_ | refine u_exSl ?_ | refine u_exV ?_ | refine u_nilc ?_ | (apply Exists.intro; (repeat apply Exists.intro); refine And.intro rfl ?_) | (refine And.intro ?_ ?_; first | exact trivial | exact rfl | exact t_ld h | (refine lds_s (t_ld h) ?_; (repeat (refine lds_s (t_ld h) ?_)); exact lds_nil) | omega) | refine u_bspT ?_ | refine u_bspF ?_)
    exact k _ (h.objs_same chanR b hb hx).fin1
  · rw [if_neg e] at k
    exact k _ h.fin0

theorem picks_Enabled {B A : Option Addr} {m cc n ca : Nat} {cases : List Cas} (h : Hp R L M) [o : ObjsAt chanR L bs cs L'] (hB : Src R L' B (casE.cells cases)) (hA : Src R L' A (ptrE.cells bs)) (hm : m = cases.length) (hn : n = bs.length)
    (hb : cases.length ≤ 1000000000) (hl : bs.length = cs.length) (hok : ∀ c ∈ cases, c.Ok cs.length)
    (k : ∀ A' c' M', Hp R (rowP intE 3 A' c' (enabled cases cs) :: objsP chanR bs cs :: L') M' → K (.slice A' (enabled cases cs).length c') M') :
    ACalls Tryz.prog 155 #[.slice B m cc, .slice A n ca] M K Kp := by
  subst hm
  replace h := h.objs_front chanR
  refine vc_picks_Enabled ⟨fun d ws M => ∃ (i : Nat) (X : Option Addr) (cx : Nat), ws = [.slice X (enTo cases cs i).length cx, .int .i64 (i : Int)] ∧ d = cases.length - i ∧ i ≤ cases.length ∧ Hp R (rowP intE 3 X cx (enTo cases cs i) :: objsP chanR bs cs :: L') M, ⟨_, 0, none, 0, rfl, rfl, by omega, h.row_nil intE _⟩, ?_⟩
  clear h
  rintro d _ X n1 cx ii M ⟨i, _, _, he, hd, hi, h⟩
  simp only [List.cons.injEq, Value.int.injEq, Value.slice.injEq, and_true, true_and] at he
  obtain ⟨⟨rfl, rfl, rfl⟩, rfl⟩ := he
  refine bsp_dec.2 ⟨fun hlt => ?_, fun hge => ?_⟩
  · obtain ⟨c, hc⟩ := idx_ex (l := cases) (i := i) (by omega)
    obtain ⟨b, o, rfl⟩ := hB.cons.cons.someE h (by omega) (by decide)
    repeat (first | (refine s_nwc h ?_; clear h; intro kb M h) | (refine s_stc h ?_; clear h; intro M h) | refine t_exI h ?_ | refine t_exB h ?_ | refine t_exS h ?_ | refine t_exP h ?_ | refine t_exSl h ?_ | refine t_exV h ?_ | refine u_exI ?_ | refine u_exB ?_ | refine u_exS ?_ | refine u_exP ?_ | refine u_exSl ?_ | refine u_exV ?_ | refine u_nilc ?_ | (apply Exists.intro; (repeat apply Exists.intro); refine And.intro rfl ?_) | (refine And.intro ?_ ?_; first | exact trivial | exact rfl | exact t_ld h | (refine lds_s (t_ld h) ?_; (repeat (refine lds_s (t_ld h) ?_)); exact lds_nil) | omega) | refine u_bspT ?_ | refine u_bspF ?_)
    simp only [Int.toNat_natCast]
    refine v_exI (hB.cons.cons.at h (i := i) (j := 0) hc rfl rfl) ?_
    refine v_exI (hB.cons.cons.at h (i := i) (j := 1) hc rfl rfl) ?_
    refine v_exI (hB.cons.cons.at h (i := i) (j := 2) hc rfl rfl) ?_
    repeat (first | (refine s_nwc h ?_; clear h; intro kb M h) | (refine s_stc h ?_; clear h; intro M h) | refine t_exI h ?_ | refine t_exB h ?_ | refine t_exS h ?_ | refine t_exP h ?_ | refine t_exSl h ?_ | refine t_exV h ?_ | refine u_exI ?_ | refine u_exB ?_ | refine u_exS ?_ | refine u_exP ?_ | refine u_exSl ?_ | refine u_exV ?_ | refine u_nilc ?_ | (apply Exists.intro; (repeat apply Exists.intro); refine And.intro rfl ?_) | (refine And.intro ?_ ?_; first | exact trivial | exact rfl | exact t_ld h | (refine lds_s (t_ld h) ?_; (repeat (refine lds_s (t_ld h) ?_)); exact lds_nil) | omega) | refine u_bspT ?_ | refine u_bspF ?_)
    have hco := hok c (List.mem_of_getElem? hc)
    obtain ⟨w1, w2, k1⟩ := hco
    refine picks_can (c := c) h hA.cons.cons hn hl (fun e => ⟨(k1 e).1, (k1 e).2.1⟩) ⟨w1, w2⟩ ?_
    clear h
    intro M h
    repeat (first | (refine s_nwc h ?_; clear h; intro kb M h) | (refine s_stc h ?_; clear h; intro M h) | refine t_exI h ?_ | refine t_exB h ?_ | refine t_exS h ?_ | refine t_exP h ?_ | refine t_exSl h ?_ | refine t_exV h ?_ | refine u_exI ?_ | refine u_exB ?_ | refine u_exS ?_ | refine u_exP ?_ | refine u_exSl ?_ | refine u_exV ?_ | refine u_nilc ?_ | (apply Exists.intro; (repeat apply Exists.intro); refine And.intro rfl ?_) | (refine And.intro ?_ ?_; first | exact trivial | exact rfl | exact t_ld h | (refine lds_s (t_ld h) ?_; (repeat (refine lds_s (t_ld h) ?_)); exact lds_nil) | omega) | refine u_bspT ?_ | refine u_bspF ?_)
    have hlen := enTo_len cases cs i
    refine bsp_iff.2 ⟨fun hb => ?_, fun hb => ?_⟩
    · have e := enTo_succ (cs := cs) hc
      rw [if_pos hb] at e
      repeat (first | (refine s_nwc h ?_; clear h; intro kb M h) | (refine s_stc h ?_; clear h; intro M h) | refine t_exI h ?_ | refine t_exB h ?_ | refine t_exS h ?_ | refine t_exP h ?_ | refine t_exSl h ?_ | refine t_exV h ?_ | refine u_exI ?_ | refine u_exB ?_ | refine u_exS ?_ | refine u_exP ?_ | refine u_exSl ?_ | refine u_exV ?_ | refine u_nilc ?_ | (apply Exists.intro; (repeat apply Exists.intro); refine And.intro rfl ?_) | (refine And.intro ?_ ?_; first | exact trivial | exact rfl | exact t_ld h | (refine lds_s (t_ld h) ?_; (repeat (refine lds_s (t_ld h) ?_)); exact lds_nil) | omega) | refine u_bspT ?_ | refine u_bspF ?_)
      refine h.rowAppend1 el_int [(i : Int)] rfl rfl (by simp; omega) ?_
      clear h
      intro A' c' M h
      repeat (first | (refine s_nwc h ?_; clear h; intro kb M h) | (refine s_stc h ?_; clear h; intro M h) | refine t_exI h ?_ | refine t_exB h ?_ | refine t_exS h ?_ | refine t_exP h ?_ | refine t_exSl h ?_ | refine t_exV h ?_ | refine u_exI ?_ | refine u_exB ?_ | refine u_exS ?_ | refine u_exP ?_ | refine u_exSl ?_ | refine u_exV ?_ | refine u_nilc ?_ | (apply Exists.intro; (repeat apply Exists.intro); refine And.intro rfl ?_) | (refine And.intro ?_ ?_; first | exact trivial | exact rfl | exact t_ld h | (refine lds_s (t_ld h) ?_; (repeat (refine lds_s (t_ld h) ?_)); exact lds_nil) | omega) | refine u_bspT ?_ | refine u_bspF ?_)
      rw [wrap_succ (by omega)]
      rw [← e] at h
      refine ⟨cases.length - (i + 1), by omega, i + 1, A', c', ?_, rfl, by omega, h.fin1⟩
      rw [e]
    · have e := enTo_succ (cs := cs) hc
      rw [if_neg (by simp [hb]), List.append_nil] at e
      rw [wrap_succ (by omega)]
      refine ⟨cases.length - (i + 1), by omega, i + 1, X, cx, by rw [e], rfl, by omega, ?_⟩
      rw [e]; exact h.sub (by repeat (first | exact .refl | refine .cons (by repeat (first | exact .here | apply Pick.there)) ?_ | apply Sub.drop))
  · obtain rfl : i = cases.length := by omega
    exact k _ _ _ h

theorem picks_Leave {g : Int} {A : Option Addr} {n ca : Nat} (h : Hp R L M) [o : ObjsAt chanR L bs cs L'] (hA : Src R L' A (ptrE.cells bs)) (hn : n = bs.length) (hb : bs.length ≤ 1000000000) (hl : bs.length = cs.length) (hs : ∀ c ∈ cs, c.Small 1000000000)
    (k : ∀ M', Hp R (objsP chanR bs (cs.map (·.drop g)) :: L') M' → K (.tuple #[]) M') :
    ACalls Tryz.prog 225 #[.int .i64 g, .slice A n ca] M K Kp := by
  subst hn
  replace h := h.objs_front chanR
  refine vc_picks_Leave ⟨fun d ws M => ∃ (i : Nat), ws = [.int .i64 (i : Int)] ∧ d = bs.length - i ∧ i ≤ bs.length ∧ Hp R (objsP chanR bs ((cs.take i).map (·.drop g) ++ cs.drop i) :: L') M, ⟨_, 0, rfl, rfl, by omega, h⟩, ?_⟩
  clear h
  rintro d _ ii M ⟨i, he, hd, hi, h⟩
  simp only [List.cons.injEq, Value.int.injEq, and_true, true_and] at he
  subst he
  refine bsp_dec.2 ⟨fun hlt => ?_, fun hge => ?_⟩
  · obtain ⟨c, hc⟩ := idx_ex (l := cs) (i := i) (by omega)
    obtain ⟨b, hb1⟩ := idx_ex (l := bs) (i := i) (by omega)
    obtain ⟨b0, o0, rfl⟩ := hA.cons.someE h (by omega) (by decide)
    have hc2 : ((cs.take i).map (·.drop g) ++ cs.drop i)[i]? = some c := by
      rw [List.getElem?_append_right (by simp; omega)]; simp [List.length_take, Nat.min_eq_left (show i ≤ cs.length by omega), hc]
    repeat (first | (refine s_nwc h ?_; clear h; intro kb M h) | (refine s_stc h ?_; clear h; intro M h) | refine t_exI h ?_ | refine t_exB h ?_ | refine t_exS h ?_ | refine t_exP h ?_ | refine t_exSl h ?_ | refine t_exV h ?_ | refine u_exI ?_ | refine u_exB ?_ | refine u_exS ?_ | refine u_exP ?_ | refine u_exSl ?_ | refine u_exV ?_ | refine u_nilc ?_ | (apply Exists.intro; (repeat apply Exists.intro); refine And.intro rfl ?_) | (refine And.intro ?_ ?_; first | exact trivial | exact rfl | exact t_ld h | (refine lds_s (t_ld h) ?_; (repeat (refine lds_s (t_ld h) ?_)); exact lds_nil) | omega) | refine u_bspT ?_ | refine u_bspF ?_)
    refine v_exP (hA.cons.at h (i := i) (j := 0) hb1 rfl (by simp [ptrE])) ?_
    replace h := h.objs_out chanR hb1 hc2
    refine chans_Drop h (hs c (List.mem_of_getElem? hc)) ?_
    clear h
    intro M h
    repeat (first | (refine s_nwc h ?_; clear h; intro kb M h) | (refine s_stc h ?_; clear h; intro M h) | refine t_exI h ?_ | refine t_exB h ?_ | refine t_exS h ?_ | refine t_exP h ?_ | refine t_exSl h ?_ | refine t_exV h ?_ | refine u_exI ?_ | refine u_exB ?_ | refine u_exS ?_ | refine u_exP ?_ | refine u_exSl ?_ | refine u_exV ?_ | refine u_nilc ?_ | (apply Exists.intro; (repeat apply Exists.intro); refine And.intro rfl ?_) | (refine And.intro ?_ ?_; first | exact trivial | exact rfl | exact t_ld h | (refine lds_s (t_ld h) ?_; (repeat (refine lds_s (t_ld h) ?_)); exact lds_nil) | omega) | refine u_bspT ?_ | refine u_bspF ?_)
    rw [wrap_succ (by omega)]
    refine ⟨bs.length - (i + 1), by omega, i + 1, rfl, rfl, by omega, ?_⟩
    have := (h.objs_in chanR b hb1 (by simp; omega)).fin1 (T := L')
    rw [List.set_append_right _ _ (by simp; omega)] at this
    rw [take_snoc hc, List.map_append, List.append_assoc]
    have e : (cs.drop i).set (i - ((cs.take i).map (·.drop g)).length) (c.drop g) = [c.drop g] ++ cs.drop (i + 1) := by
      rw [show i - ((cs.take i).map (·.drop g)).length = 0 from by simp; omega]
      obtain ⟨hi', e'⟩ := List.getElem?_eq_some_iff.1 hc
      rw [List.drop_eq_getElem_cons hi']; rfl
    rw [e] at this
    exact this
  · obtain rfl : i = bs.length := by omega
    rw [hl, List.take_length, List.drop_length, List.append_nil] at h
    exact k _ h
theorem picks_Wait {g : Int} {B A D : Option Addr} {m cc n ca r cr : Nat} {cases : List Cas} {regs : List Int} (h : Hp R L M) [o : ObjsAt chanR L bs cs L'] (hB : Src R L' B (casE.cells cases)) (hA : Src R L' A (ptrE.cells bs)) (hD : Src R L' D (intE.cells regs))
    (hm : m = cases.length) (hn : n = bs.length) (hr : r = 8) (hr8 : regs.length = 8) (hb : cases.length ≤ 1000000) (hl : bs.length = cs.length) (hok : ∀ c ∈ cases, c.Ok cs.length) (hs : ∀ c ∈ cs, c.Small 1000000)
    (k : ∀ M', Hp R (objsP chanR bs (waitTo g regs cases cs cases.length) :: L') M' → K (.tuple #[]) M') :
    ACalls Tryz.prog 157 #[.int .i64 g, .slice B m cc, .slice D r cr, .slice A n ca] M K Kp := by
  subst hm
  subst hn
  subst hr
  replace h := h.objs_front chanR
  refine vc_picks_Wait ⟨fun d ws M => ∃ (i : Nat), ws = [.int .i64 (i : Int)] ∧ d = cases.length - i ∧ i ≤ cases.length ∧ Hp R (objsP chanR bs (waitTo g regs cases cs i) :: L') M, ⟨_, 0, rfl, rfl, by omega, h⟩, ?_⟩
  clear h
  rintro d _ ii M ⟨i, he, hd, hi, h⟩
  simp only [List.cons.injEq, Value.int.injEq, and_true, true_and] at he
  subst he
  refine bsp_dec.2 ⟨fun hlt => ?_, fun hge => ?_⟩
  · obtain ⟨c, hc⟩ := idx_ex (l := cases) (i := i) (by omega)
    obtain ⟨w1, w2, kk⟩ := hok c (List.mem_of_getElem? hc)
    obtain ⟨b, o, rfl⟩ := hB.cons.someE h (by omega) (by decide)
    by_cases hwe : c.way = 2
    · have e : waitTo g regs cases cs (i + 1) = waitTo g regs cases cs i := by
        rw [waitTo, hc]; dsimp only; unfold waitOne; rw [if_neg (by omega), if_neg (by omega)]
      repeat (first | (refine s_nwc h ?_; clear h; intro kb M h) | (refine s_stc h ?_; clear h; intro M h) | refine t_exI h ?_ | refine t_exB h ?_ | refine t_exS h ?_ | refine t_exP h ?_ | refine t_exSl h ?_ | refine t_exV h ?_ | refine u_exI ?_ | refine u_exB ?_ | refine u_exS ?_ | refine u_exP ?_ | refine u_exSl ?_ | refine u_exV ?_ | refine u_nilc ?_ | (apply Exists.intro; (repeat apply Exists.intro); refine And.intro rfl ?_) | (refine And.intro ?_ ?_; first | exact trivial | exact rfl | exact t_ld h | (refine lds_s (t_ld h) ?_; (repeat (refine lds_s (t_ld h) ?_)); exact lds_nil) | omega) | refine u_bspT ?_ | refine u_bspF ?_)
      simp only [Int.toNat_natCast]
      refine v_exI (hB.cons.at h (i := i) (j := 0) hc rfl rfl) ?_
      refine v_exI (hB.cons.at h (i := i) (j := 1) hc rfl rfl) ?_
      refine v_exI (hB.cons.at h (i := i) (j := 2) hc rfl rfl) ?_
      repeat (first | (refine s_nwc h ?_; clear h; intro kb M h) | (refine s_stc h ?_; clear h; intro M h) | refine t_exI h ?_ | refine t_exB h ?_ | refine t_exS h ?_ | refine t_exP h ?_ | refine t_exSl h ?_ | refine t_exV h ?_ | refine u_exI ?_ | refine u_exB ?_ | refine u_exS ?_ | refine u_exP ?_ | refine u_exSl ?_ | refine u_exV ?_ | refine u_nilc ?_ | (apply Exists.intro; (repeat apply Exists.intro); refine And.intro rfl ?_) | (refine And.intro ?_ ?_; first | exact trivial | exact rfl | exact t_ld h | (refine lds_s (t_ld h) ?_; (repeat (refine lds_s (t_ld h) ?_)); exact lds_nil) | omega) | refine u_bspT ?_ | refine u_bspF ?_)
      refine bsp_eq.2 ⟨fun e => by omega, fun _ => ?_⟩
      refine bsp_eq.2 ⟨fun e => by omega, fun _ => ?_⟩
      rw [wrap_succ (by omega)]
      refine ⟨cases.length - (i + 1), by omega, i + 1, rfl, rfl, by omega, ?_⟩
      rw [e]
      exact h.fin0
    obtain ⟨k1, k2, k3, k4⟩ := kk hwe
    obtain ⟨b2, o2, rfl⟩ := hA.cons.someE h (by omega) (by decide)
    obtain ⟨b3, o3, rfl⟩ := hD.cons.someE h (by omega) (by decide)
    have hlen := waitTo_len g regs cases cs i
    have hsm := waitTo_small (g := g) (regs := regs) hs hok i
    have e : waitTo g regs cases cs (i + 1) = waitOne g regs i c (waitTo g regs cases cs i) := by rw [waitTo, hc]
    generalize hw : waitTo g regs cases cs i = ws at h hlen hsm e
    obtain ⟨way, ch, reg⟩ := c
    dsimp only at k1 k2 k3 k4
    obtain ⟨q, rfl⟩ := Int.eq_ofNat_of_zero_le k1
    obtain ⟨q2, rfl⟩ := Int.eq_ofNat_of_zero_le k3
    obtain ⟨b1, hb1⟩ := idx_ex (l := bs) (i := q) (by omega)
    obtain ⟨x, hx⟩ := idx_ex (l := ws) (i := q) (by omega)
    obtain ⟨v, hv⟩ := idx_ex (l := regs) (i := q2) (by omega)
    have hxx : chAt ws (q : Int) = x := by simp [chAt, hx]
    have hvv : regs.getD q2 0 = v := by simp [hv]
    have hxs := hsm x (List.mem_of_getElem? hx)
    simp only [waitOne, hxx, Int.toNat_natCast, hvv] at e
    repeat (first | (refine s_nwc h ?_; clear h; intro kb M h) | (refine s_stc h ?_; clear h; intro M h) | refine t_exI h ?_ | refine t_exB h ?_ | refine t_exS h ?_ | refine t_exP h ?_ | refine t_exSl h ?_ | refine t_exV h ?_ | refine u_exI ?_ | refine u_exB ?_ | refine u_exS ?_ | refine u_exP ?_ | refine u_exSl ?_ | refine u_exV ?_ | refine u_nilc ?_ | (apply Exists.intro; (repeat apply Exists.intro); refine And.intro rfl ?_) | (refine And.intro ?_ ?_; first | exact trivial | exact rfl | exact t_ld h | (refine lds_s (t_ld h) ?_; (repeat (refine lds_s (t_ld h) ?_)); exact lds_nil) | omega) | refine u_bspT ?_ | refine u_bspF ?_)
    simp only [Int.toNat_natCast]
    refine v_exI (hB.cons.at h (i := i) (j := 0) hc rfl rfl) ?_
    refine v_exI (hB.cons.at h (i := i) (j := 1) hc rfl rfl) ?_
    refine v_exI (hB.cons.at h (i := i) (j := 2) hc rfl rfl) ?_
    dsimp only
    repeat (first | (refine s_nwc h ?_; clear h; intro kb M h) | (refine s_stc h ?_; clear h; intro M h) | refine t_exI h ?_ | refine t_exB h ?_ | refine t_exS h ?_ | refine t_exP h ?_ | refine t_exSl h ?_ | refine t_exV h ?_ | refine u_exI ?_ | refine u_exB ?_ | refine u_exS ?_ | refine u_exP ?_ | refine u_exSl ?_ | refine u_exV ?_ | refine u_nilc ?_ | (apply Exists.intro; (repeat apply Exists.intro); refine And.intro rfl ?_) | (refine And.intro ?_ ?_; first | exact trivial | exact rfl | exact t_ld h | (refine lds_s (t_ld h) ?_; (repeat (refine lds_s (t_ld h) ?_)); exact lds_nil) | omega) | refine u_bspT ?_ | refine u_bspF ?_)
    refine bsp_eq.2 ⟨fun hw => ?_, fun hw => ?_⟩
    · rw [if_pos hw] at e
      repeat (first | (refine s_nwc h ?_; clear h; intro kb M h) | (refine s_stc h ?_; clear h; intro M h) | refine t_exI h ?_ | refine t_exB h ?_ | refine t_exS h ?_ | refine t_exP h ?_ | refine t_exSl h ?_ | refine t_exV h ?_ | refine u_exI ?_ | refine u_exB ?_ | refine u_exS ?_ | refine u_exP ?_ | refine u_exSl ?_ | refine u_exV ?_ | refine u_nilc ?_ | (apply Exists.intro; (repeat apply Exists.intro); refine And.intro rfl ?_) | (refine And.intro ?_ ?_; first | exact trivial | exact rfl | exact t_ld h | (refine lds_s (t_ld h) ?_; (repeat (refine lds_s (t_ld h) ?_)); exact lds_nil) | omega) | refine u_bspT ?_ | refine u_bspF ?_)
      refine v_exP (hA.cons.cons.at h (i := q) (j := 0) hb1 rfl (by simp [ptrE])) ?_
      have hb2 := hb1
      replace h := h.pick (.there .here)
      replace h := h.objs_out chanR hb1 hx
      refine chans_WaitRecv (w := ⟨g, i, 0⟩) h (hxs.mono (by omega)) ?_
      clear h
      intro M h
      repeat (first | (refine s_nwc h ?_; clear h; intro kb M h) | (refine s_stc h ?_; clear h; intro M h) | refine t_exI h ?_ | refine t_exB h ?_ | refine t_exS h ?_ | refine t_exP h ?_ | refine t_exSl h ?_ | refine t_exV h ?_ | refine u_exI ?_ | refine u_exB ?_ | refine u_exS ?_ | refine u_exP ?_ | refine u_exSl ?_ | refine u_exV ?_ | refine u_nilc ?_ | (apply Exists.intro; (repeat apply Exists.intro); refine And.intro rfl ?_) | (refine And.intro ?_ ?_; first | exact trivial | exact rfl | exact t_ld h | (refine lds_s (t_ld h) ?_; (repeat (refine lds_s (t_ld h) ?_)); exact lds_nil) | omega) | refine u_bspT ?_ | refine u_bspF ?_)
      rw [wrap_succ (by omega)]
      refine ⟨cases.length - (i + 1), by omega, i + 1, rfl, rfl, by omega, ?_⟩
      rw [e]
      exact (h.objs_in chanR b1 hb1 (by omega)).fin1
    rw [if_neg hw] at e
    refine bsp_eq.2 ⟨fun hw => ?_, fun hw => ?_⟩
    · rw [if_pos hw] at e
      repeat (first | (refine s_nwc h ?_; clear h; intro kb M h) | (refine s_stc h ?_; clear h; intro M h) | refine t_exI h ?_ | refine t_exB h ?_ | refine t_exS h ?_ | refine t_exP h ?_ | refine t_exSl h ?_ | refine t_exV h ?_ | refine u_exI ?_ | refine u_exB ?_ | refine u_exS ?_ | refine u_exP ?_ | refine u_exSl ?_ | refine u_exV ?_ | refine u_nilc ?_ | (apply Exists.intro; (repeat apply Exists.intro); refine And.intro rfl ?_) | (refine And.intro ?_ ?_; first | exact trivial | exact rfl | exact t_ld h | (refine lds_s (t_ld h) ?_; (repeat (refine lds_s (t_ld h) ?_)); exact lds_nil) | omega) | refine u_bspT ?_ | refine u_bspF ?_)
      refine v_exP (hA.cons.cons.at h (i := q) (j := 0) hb1 rfl (by simp [ptrE])) ?_
      repeat (first | (refine s_nwc h ?_; clear h; intro kb M h) | (refine s_stc h ?_; clear h; intro M h) | refine t_exI h ?_ | refine t_exB h ?_ | refine t_exS h ?_ | refine t_exP h ?_ | refine t_exSl h ?_ | refine t_exV h ?_ | refine u_exI ?_ | refine u_exB ?_ | refine u_exS ?_ | refine u_exP ?_ | refine u_exSl ?_ | refine u_exV ?_ | refine u_nilc ?_ | (apply Exists.intro; (repeat apply Exists.intro); refine And.intro rfl ?_) | (refine And.intro ?_ ?_; first | exact trivial | exact rfl | exact t_ld h | (refine lds_s (t_ld h) ?_; (repeat (refine lds_s (t_ld h) ?_)); exact lds_nil) | omega) | refine u_bspT ?_ | refine u_bspF ?_)
      refine v_exI (hD.cons.cons.at h (i := q2) (j := 0) hv rfl (by simp [intE])) ?_
      replace h := h.pick (.there .here)
      replace h := h.objs_out chanR hb1 hx
      refine chans_WaitSend (w := ⟨g, i, v⟩) h (hxs.mono (by omega)) ?_
      clear h
      intro M h
      repeat (first | (refine s_nwc h ?_; clear h; intro kb M h) | (refine s_stc h ?_; clear h; intro M h) | refine t_exI h ?_ | refine t_exB h ?_ | refine t_exS h ?_ | refine t_exP h ?_ | refine t_exSl h ?_ | refine t_exV h ?_ | refine u_exI ?_ | refine u_exB ?_ | refine u_exS ?_ | refine u_exP ?_ | refine u_exSl ?_ | refine u_exV ?_ | refine u_nilc ?_ | (apply Exists.intro; (repeat apply Exists.intro); refine And.intro rfl ?_) | (refine And.intro ?_ ?_; first | exact trivial | exact rfl | exact t_ld h | (refine lds_s (t_ld h) ?_; (repeat (refine lds_s (t_ld h) ?_)); exact lds_nil) | omega) | refine u_bspT ?_ | refine u_bspF ?_)
      rw [wrap_succ (by omega)]
      refine ⟨cases.length - (i + 1), by omega, i + 1, rfl, rfl, by omega, ?_⟩
      rw [e]
      exact (h.objs_in chanR b1 hb1 (by omega)).fin1
    · rw [if_neg hw] at e
      rw [wrap_succ (by omega)]
      refine ⟨cases.length - (i + 1), by omega, i + 1, rfl, rfl, by omega, ?_⟩
      rw [e]
      exact h.fin0
  · obtain rfl : i = cases.length := by omega
    exact k _ h
end
end Go.Proofs

set_option linter.unusedVariables false
namespace Go.Proofs
open Go.AF
structure Ins where
  op : Int
  a : Int
  b : Int
  c : Int
  deriving DecidableEq
def Ins.zero : Ins := ⟨0, 0, 0, 0⟩
def insE : Enc Ins := ⟨4, fun x => [.int .i64 x.op, .int .i64 x.a, .int .i64 x.b, .int .i64 x.c], fun _ => rfl, fun w v hv => by
  simp only [List.mem_cons, List.not_mem_nil, or_false] at hv; obtain rfl | rfl | rfl | rfl := hv <;> rfl⟩
/-- A frame: the function, the place in it, eight registers, where it returns into. -/
structure Frm where
  fn : Int
  pc : Int
  r : List Int
  into : Int
  deriving DecidableEq
def Frm.reg (f : Frm) (q : Int) : Int := f.r.getD q.toNat 0
def Frm.set (f : Frm) (q v : Int) : Frm := { f with r := (List.range 8).map fun i => if i = q.toNat then v else f.r.getD i 0 }
def Frm.next (f : Frm) : Frm := { f with pc := f.pc + 1 }
def Frm.begin (fn v : Int) : Frm := ⟨fn, 0, [v, 0, 0, 0, 0, 0, 0, 0], 0⟩
def frmV (f : Frm) : List Value := [.int .i64 f.fn, .int .i64 f.pc, .int .i64 (f.r.getD 0 0), .int .i64 (f.r.getD 1 0), .int .i64 (f.r.getD 2 0), .int .i64 (f.r.getD 3 0), .int .i64 (f.r.getD 4 0), .int .i64 (f.r.getD 5 0), .int .i64 (f.r.getD 6 0), .int .i64 (f.r.getD 7 0), .int .i64 f.into]
def frmE : Enc Frm := ⟨11, frmV, fun _ => rfl, fun w v hv => by
  simp only [frmV, List.mem_cons, List.not_mem_nil, or_false] at hv
  obtain rfl | rfl | rfl | rfl | rfl | rfl | rfl | rfl | rfl | rfl | rfl := hv <;> rfl⟩
theorem reg8 {q : Int} (h0 : 0 ≤ q) (h8 : q < 8) : q = 0 ∨ q = 1 ∨ q = 2 ∨ q = 3 ∨ q = 4 ∨ q = 5 ∨ q = 6 ∨ q = 7 := by omega
theorem frm_at {f : Frm} {q : Int} (h0 : 0 ≤ q) (h8 : q < 8) : (frmE.f f)[2 + q.toNat]? = some (.int .i64 (f.reg q)) := by
  obtain rfl | rfl | rfl | rfl | rfl | rfl | rfl | rfl := reg8 h0 h8 <;> rfl
theorem frm_set {f : Frm} {q v : Int} (h0 : 0 ≤ q) (h8 : q < 8) : (frmE.f f).set (2 + q.toNat) (.int .i64 v) = frmE.f (f.set q v) := by
  obtain rfl | rfl | rfl | rfl | rfl | rfl | rfl | rfl := reg8 h0 h8 <;> rfl
theorem frm_pc {f : Frm} {v : Int} : (frmE.f f).set 1 (.int .i64 v) = frmE.f { f with pc := v } := rfl
/-- Ops that registers alone decide: what a frame becomes (its place is one further already). -/
def Frm.pure (f : Frm) (x : Ins) : Frm :=
  if x.op = 0 then f
  else if x.op = 1 then f.set x.a x.b
  else if x.op = 2 then f.set x.a (f.reg x.b)
  else if x.op = 3 then f.set x.a (IntKind.wrap .i64 (f.reg x.b + f.reg x.c))
  else if x.op = 4 then f.set x.a (IntKind.wrap .i64 (f.reg x.b - f.reg x.c))
  else if x.op = 5 then f.set x.a (IntKind.wrap .i64 (f.reg x.b * f.reg x.c))
  else if x.op = 6 then f.set x.a (if f.reg x.b < f.reg x.c then 1 else 0)
  else if x.op = 7 then { f with pc := x.a }
  else if f.reg x.a ≠ 0 then { f with pc := x.b } else f
def isReg (q : Int) : Prop := 0 ≤ q ∧ q < 8
instance (q : Int) : Decidable (isReg q) := by unfold isReg; infer_instance
/-- The registers that a pure op names are registers. -/
def Ins.okPure (x : Ins) : Prop :=
  (x.op ∈ [1, 8] → isReg x.a) ∧ (x.op = 2 → isReg x.a ∧ isReg x.b) ∧ (x.op ∈ [3, 4, 5, 6] → isReg x.a ∧ isReg x.b ∧ isReg x.c)
instance (x : Ins) : Decidable x.okPure := by unfold Ins.okPure; infer_instance
structure Gor where
  st : Int
  fs : List Frm
  wt : Ins
  deriving DecidableEq
structure Lk where
  owner : Int
  waits : List Int
  deriving DecidableEq
structure HItem where
  t : Int
  seq : Int
  id : Int
  deriving DecidableEq
def itemE : Enc HItem := ⟨3, fun x => [.int .u64 x.t, .int .u64 x.seq, .int .i64 x.id], fun _ => rfl, fun w v hv => by
  simp only [List.mem_cons, List.not_mem_nil, or_false] at hv; obtain rfl | rfl | rfl := hv <;> rfl⟩
structure Prg where
  funcs : List (List Ins)
  chs : List Int
  locks : Int
  cases : List Cas
structure Wd where
  gs : List Gor
  clock : Int
  chans : List Chan
  locks : List Lk
  hl : List HItem
  hseq : Int
  out : List Int
  end_ : Int
  code : Int
  ready : List Int
  deriving DecidableEq
def gorAt (x : Wd) (g : Int) : Gor := x.gs.getD g.toNat ⟨0, [], .zero⟩
def Wd.putG (x : Wd) (g : Int) (y : Gor) : Wd := { x with gs := x.gs.set g.toNat y }
def Gor.top (y : Gor) : Frm := y.fs.getD (y.fs.length - 1) ⟨0, 0, [], 0⟩
def Gor.putTop (y : Gor) (f : Frm) : Gor := { y with fs := y.fs.set (y.fs.length - 1) f }
def Wd.putReg (x : Wd) (g q v : Int) : Wd := x.putG g ((gorAt x g).putTop ((gorAt x g).top.set q v))
def Wd.wake (x : Wd) (g : Int) : Wd := { x.putG g { gorAt x g with st := 1 } with ready := x.ready ++ [g] }
def Wd.block (x : Wd) (g : Int) (i : Ins) : Wd := x.putG g { gorAt x g with st := 2, wt := i }
def Wd.leave (x : Wd) (g : Int) : Wd := { x with chans := x.chans.map fun c => c.drop g }
def Wd.chosen (x : Wd) (g k : Int) : Wd := (x.putReg g (gorAt x g).wt.c k).leave g
def casAt (p : Prg) (k : Int) : Cas := p.cases.getD k.toNat ⟨0, 0, 0⟩
def Wd.received (p : Prg) (x : Wd) (v : Wt) (some : Int) : Wd :=
  let i := (gorAt x v.g).wt
  (if i.op = 16 then ((x.putReg v.g (casAt p (i.a + v.cs)).reg v.v).chosen v.g v.cs)
   else (x.putReg v.g i.b v.v).putReg v.g i.c some).wake v.g
def Wd.sent (x : Wd) (v : Wt) : Wd := (if (gorAt x v.g).wt.op = 16 then x.chosen v.g v.cs else x).wake v.g
/-- How an instruction ends: on, or in a trap. -/
inductive Out (α : Type) where
  | on (a : α)
  | trap (code : Int) (x : Wd)
  | dry (l : List PanicEntry) (x : Wd)
def Wd.putCh (x : Wd) (k : Int) (c : Chan) : Wd := { x with chans := x.chans.set k.toNat c }
def Wd.put (p : Prg) (x : Wd) (k v : Int) : Out (Wd × Bool) :=
  let s := (chAt x.chans k).send v
  if s.2.2.2 = 10 then .trap (-1) (x.putCh k s.1)
  else .on ((if s.2.2.1 then (x.putCh k s.1).received p s.2.1 1 else x.putCh k s.1), s.2.2.2 == 0)
def Wd.get (x : Wd) (k : Int) : Wd × Int × Int × Bool :=
  let s := (chAt x.chans k).recv
  let y := if s.2.2.2.2.1 then (x.putCh k s.1).sent s.2.2.2.1 else x.putCh k s.1
  if s.2.2.1 then (y, s.2.1, 1, true) else (y, 0, 0, s.2.2.2.2.2 == 0)
/-- A goroutine that stands somewhere. -/
def gorOk (x : Wd) (g : Int) : Prop := 0 ≤ g ∧ g < x.gs.length ∧ 0 < (gorAt x g).fs.length ∧ (gorAt x g).fs.length ≤ 1000
instance (x : Wd) (g : Int) : Decidable (gorOk x g) := by unfold gorOk; infer_instance
/-- Who waits to receive can. -/
def rcvOk (p : Prg) (x : Wd) (v : Wt) : Prop := gorOk x v.g ∧
  if (gorAt x v.g).wt.op = 16 then 0 ≤ (gorAt x v.g).wt.a + v.cs ∧ (gorAt x v.g).wt.a + v.cs < p.cases.length ∧ p.cases.length ≤ 1000 ∧ isReg (casAt p ((gorAt x v.g).wt.a + v.cs)).reg ∧ isReg (gorAt x v.g).wt.c
  else isReg (gorAt x v.g).wt.b ∧ isReg (gorAt x v.g).wt.c
instance (p : Prg) (x : Wd) (v : Wt) : Decidable (rcvOk p x v) := by unfold rcvOk; infer_instance
def sndOk (x : Wd) (v : Wt) : Prop := gorOk x v.g ∧ ((gorAt x v.g).wt.op = 16 → isReg (gorAt x v.g).wt.c)
instance (x : Wd) (v : Wt) : Decidable (sndOk x v) := by unfold sndOk; infer_instance
/-- No row is long. -/
def Wd.Sm (x : Wd) : Prop := (∀ c ∈ x.chans, c.Small 1000000) ∧ x.chans.length ≤ 1000 ∧ x.gs.length ≤ 1000 ∧ x.ready.length ≤ 1000000 ∧ x.out.length ≤ 1000000 ∧ (∀ l ∈ x.locks, l.waits.length ≤ 1000000) ∧ x.locks.length ≤ 1000 ∧ x.hl.length ≤ 1000000
instance (x : Wd) : Decidable x.Sm := by unfold Wd.Sm; infer_instance
theorem gorAt_put {x : Wd} {g : Int} {y : Gor} (h0 : 0 ≤ g) (hg : g < x.gs.length) : gorAt (x.putG g y) g = y := by
  have : g.toNat < x.gs.length := by omega
  simp [gorAt, Wd.putG, this]
end Go.Proofs

namespace Go.Proofs
open Go.AF
set_option linter.unusedVariables false
set_option maxRecDepth 100000
theorem vc_frame_Stack_Top {B0 : Option Addr} {m0 c0 : Nat} {M : Mem} {K : Value → Mem → Prop} {Kp : List PanicEntry → Mem → Prop} (h :
bsp (((m0 : Nat) : Int) == 0)
 (K (.pointer none) M)
 (((0 : Int) ≤ (IntKind.wrap .i64 (((m0 : Nat) : Int) - 1))) ∧
  (((IntKind.wrap .i64 (((m0 : Nat) : Int) - 1)) : Int) < ((m0 : Nat) : Int)) ∧
  nilc B0 fun k1 k2 =>
  K (.pointer (some ⟨k1, (k2 + ((Int.toNat (IntKind.wrap .i64 (((m0 : Nat) : Int) - 1))) * 11)), none⟩)) M)) :
  ACalls Tryz.prog 120 ([.slice B0 m0 c0] : List Value).toArray M K Kp :=
  acalls_vc (C := Cx) good [] Tryz.func120 (by kernel_rfl) (by kernel_rfl) h

theorem vc_world_World_Status {b0 o0 : Nat} {x1 : Int} {M : Mem} {K : Value → Mem → Prop} {Kp : List PanicEntry → Mem → Prop} (h :
bsp (decide ((x1 : Int) < 0))
 (K (.int .i64 0) M)
 (exSl (Mem.ld M ⟨b0, (o0 + 4), none⟩) fun A1 k2 k3 =>
  bsp (decide ((x1 : Int) ≥ ((k2 : Nat) : Int)))
   (K (.int .i64 0) M)
   (exSl (Mem.ld M ⟨b0, (o0 + 4), none⟩) fun A4 k5 k6 =>
    ((0 : Int) ≤ x1) ∧
    ((x1 : Int) < ((k5 : Nat) : Int)) ∧
    nilc A4 fun k7 k8 =>
    exP (Mem.ld M ⟨k7, (k8 + (Int.toNat x1)), none⟩) fun A9 =>
    nilc A9 fun k10 k11 =>
    exI (Mem.ld M ⟨k10, k11, none⟩) .i64 fun n12 =>
    K (.int .i64 n12) M))) :
  ACalls Tryz.prog 65 ([.pointer (some ⟨b0, o0, none⟩), .int .i64 x1] : List Value).toArray M K Kp :=
  acalls_vc (C := Cx) good [] Tryz.func65 (by kernel_rfl) (by kernel_rfl) h

theorem vc_world_World_End {b0 o0 : Nat} {M : Mem} {K : Value → Mem → Prop} {Kp : List PanicEntry → Mem → Prop} (h :
exI (Mem.ld M ⟨b0, (o0 + 11), none⟩) .i64 fun n1 =>
exI (Mem.ld M ⟨b0, (o0 + 12), none⟩) .i64 fun n2 =>
K (.tuple #[(.int .i64 n1), (.int .i64 n2)]) M) :
  ACalls Tryz.prog 60 ([.pointer (some ⟨b0, o0, none⟩)] : List Value).toArray M K Kp :=
  acalls_vc (C := Cx) good [(1, .reg [0, 1, 3, 7, 0, 16, 48, 112, 15, 511] (.step 0 (.step 1 (.step 2 (.step 4 (.step 5 (.step 6 (.step 3 (.step 8 (.step 7 (.step 9 .done)))))))))))] Tryz.func60 (by kernel_rfl) (by kernel_rfl) h

theorem vc_world_World_Tick {b0 o0 : Nat} {M : Mem} {K : Value → Mem → Prop} {Kp : List PanicEntry → Mem → Prop} (h :
exI (Mem.ld M ⟨b0, (o0 + 11), none⟩) .i64 fun n1 =>
bsp (n1 != 0)
 (K (.slice none 0 0) M)
 (exI (Mem.ld M ⟨b0, (o0 + 5), none⟩) .u64 fun n2 =>
  stc M ⟨b0, (o0 + 5), none⟩ (.int .u64 (IntKind.wrap .u64 (n2 + 1))) fun M3 =>
  stc M3 ⟨b0, (o0 + 13), none⟩ (.slice none 0 0) fun M4 =>
  exI (Mem.ld M4 ⟨b0, (o0 + 5), none⟩) .u64 fun n5 =>
  ACalls Tryz.prog 89 #[(.pointer (some ⟨b0, (o0 + 8), none⟩)), (.int .u64 n5)] M4 (fun v6 M7 =>
  exSl (some v6) fun A8 k9 k10 =>
  ∃ I11 : Nat → List Value → Mem → Prop, (∃ k12 : Nat, I11 k12 [(.int .i64 0)] M7) ∧
  ∀ k13 : Nat, ∀ junk14 : Nat → Value, ∀ n15 : Int, ∀ M16 : Mem, (I11 k13 [(.int .i64 n15)] M16) → bsp (decide ((n15 : Int) < ((k9 : Nat) : Int)))
   (((0 : Int) ≤ n15) ∧
    ((n15 : Int) < ((k9 : Nat) : Int)) ∧
    nilc A8 fun k17 k18 =>
    exI (Mem.ld M16 ⟨k17, (k18 + ((Int.toNat n15) * 3)), none⟩) .u64 fun n19 =>
    exI (Mem.ld M16 ⟨k17, ((k18 + ((Int.toNat n15) * 3)) + 1), none⟩) .u64 fun n20 =>
    exI (Mem.ld M16 ⟨k17, ((k18 + ((Int.toNat n15) * 3)) + 2), none⟩) .i64 fun n21 =>
    nwc M16 (.cells #[(.int .u64 0), (.int .u64 0), (.int .i64 0)] 205 (0, 0)) fun k22 M23 =>
    stc M23 ⟨k22, 0, none⟩ (.int .u64 n19) fun M24 =>
    stc M24 ⟨k22, (0 + 1), none⟩ (.int .u64 n20) fun M25 =>
    stc M25 ⟨k22, (0 + 2), none⟩ (.int .i64 n21) fun M26 =>
    exI (Mem.ld M26 ⟨k22, (0 + 2), none⟩) .i64 fun n27 =>
    ACalls Tryz.prog 90 #[(.pointer (some ⟨b0, o0, none⟩)), (.int .i64 n27)] M26 (fun v28 M29 =>
    (v28 = (.tuple #[])) ∧
    ∃ k30 : Nat, (k30 < k13) ∧
    I11 k30 [(.int .i64 (IntKind.wrap .i64 (n15 + 1)))] M29) Kp)
   (exSl (Mem.ld M16 ⟨b0, (o0 + 13), none⟩) fun A31 k32 k33 =>
    K (.slice A31 k32 k33) M16)) Kp)) :
  ACalls Tryz.prog 43 ([.pointer (some ⟨b0, o0, none⟩)] : List Value).toArray M K Kp :=
  acalls_vc (C := Cx) good [(5, .reg [0, 1, 3, 0, 8, 24, 56, 127, 255, 0] (.step 0 (.step 1 (.step 2 (.step 3 (.step 4 (.step 5 (.step 9 (.step 6 (.step 7 (.step 8 .done))))))))))), (2000000, .loop [(29, .c (.int .i64))])] Tryz.func43 (by kernel_rfl) (by kernel_rfl) h

theorem vc_frame_Begin {x0 : Int} {x1 : Int} {M : Mem} {K : Value → Mem → Prop} {Kp : List PanicEntry → Mem → Prop} (h :
nwc M (.cells #[(.int .i64 x0), (.int .i64 0), (.int .i64 x1), (.int .i64 0), (.int .i64 0), (.int .i64 0), (.int .i64 0), (.int .i64 0), (.int .i64 0), (.int .i64 0), (.int .i64 0)] 234 (0, 0)) fun k1 M2 =>
K (.slice (some ⟨k1, 0, none⟩) 1 1) M2) :
  ACalls Tryz.prog 71 ([.int .i64 x0, .int .i64 x1] : List Value).toArray M K Kp :=
  acalls_vc (C := Cx) good [] Tryz.func71 (by kernel_rfl) (by kernel_rfl) h

theorem vc_locks_New  {M : Mem} {K : Value → Mem → Prop} {Kp : List PanicEntry → Mem → Prop} (h :
nwc M (.cells #[(.int .i64 (-1)), (.slice none 0 0)] 238 (0, 0)) fun k1 M2 =>
K (.pointer (some ⟨k1, 0, none⟩)) M2) :
  ACalls Tryz.prog 73 ([] : List Value).toArray M K Kp :=
  acalls_vc (C := Cx) good [] Tryz.func73 (by kernel_rfl) (by kernel_rfl) h

theorem vc_heap_Heap_Wake {b0 o0 : Nat} {x1 : Int} {M : Mem} {K : Value → Mem → Prop} {Kp : List PanicEntry → Mem → Prop} (h :
∃ I1 : Nat → List Value → Mem → Prop, (∃ k2 : Nat, I1 k2 [(.slice none 0 0)] M) ∧
∀ k3 : Nat, ∀ junk4 : Nat → Value, ∀ A5 : Option Addr, ∀ k6 : Nat, ∀ k7 : Nat, ∀ M8 : Mem, (I1 k3 [(.slice A5 k6 k7)] M8) → exSl (Mem.ld M8 ⟨b0, o0, none⟩) fun A9 k10 k11 =>
bsp (decide ((((k10 : Nat) : Int) : Int) > 0))
 (exSl (Mem.ld M8 ⟨b0, o0, none⟩) fun A12 k13 k14 =>
  ((0 : Int) ≤ 0) ∧
  ((0 : Int) < ((k13 : Nat) : Int)) ∧
  nilc A12 fun k15 k16 =>
  exI (Mem.ld M8 ⟨k15, (k16 + 0), none⟩) .u64 fun n17 =>
  bsp (decide ((n17 : Int) ≤ x1))
   (ACalls Tryz.prog 106 #[(.pointer (some ⟨b0, o0, none⟩)), (.int .i64 0)] M8 (fun v18 M19 =>
    ∃ n20 : Int, ∃ n21 : Int, ∃ n22 : Int, (v18 = (.agg #[(.int .u64 n20), (.int .u64 n21), (.int .i64 n22)])) ∧
    nwc M19 (.cells #[(.int .u64 n20), (.int .u64 n21), (.int .i64 n22)] 205 (0, 0)) fun k23 M24 =>
    semK Tryz.prog (Go.Builtin.append_ #[65, 65] 65 #[(.slice A5 k6 k7), (.slice (some ⟨k23, 0, none⟩) 1 1)]) M24 (fun v25 M26 =>
    exSl (some v25) fun A27 k28 k29 =>
    ∃ k30 : Nat, (k30 < k3) ∧
    I1 k30 [(.slice A27 k28 k29)] M26) Kp) Kp)
   (K (.slice A5 k6 k7) M8))
 (K (.slice A5 k6 k7) M8)) :
  ACalls Tryz.prog 89 ([.pointer (some ⟨b0, o0, none⟩), .int .u64 x1] : List Value).toArray M K Kp :=
  acalls_vc (C := Cx) good [(2000000, .loop [(5, .c .sl)])] Tryz.func89 (by kernel_rfl) (by kernel_rfl) h

theorem vc_world_World_wake {b0 o0 : Nat} {x1 : Int} {M : Mem} {K : Value → Mem → Prop} {Kp : List PanicEntry → Mem → Prop} (h :
exSl (Mem.ld M ⟨b0, (o0 + 4), none⟩) fun A1 k2 k3 =>
((0 : Int) ≤ x1) ∧
((x1 : Int) < ((k2 : Nat) : Int)) ∧
nilc A1 fun k4 k5 =>
exP (Mem.ld M ⟨k4, (k5 + (Int.toNat x1)), none⟩) fun A6 =>
nilc A6 fun k7 k8 =>
stc M ⟨k7, k8, none⟩ (.int .i64 1) fun M9 =>
exSl (Mem.ld M9 ⟨b0, (o0 + 13), none⟩) fun A10 k11 k12 =>
nwc M9 (.cells #[(.int .i64 x1)] 3 (0, 0)) fun k13 M14 =>
semK Tryz.prog (Go.Builtin.append_ #[38, 38] 38 #[(.slice A10 k11 k12), (.slice (some ⟨k13, 0, none⟩) 1 1)]) M14 (fun v15 M16 =>
exSl (some v15) fun A17 k18 k19 =>
stc M16 ⟨b0, (o0 + 13), none⟩ (.slice A17 k18 k19) fun M20 =>
K (.tuple #[]) M20) Kp) :
  ACalls Tryz.prog 90 ([.pointer (some ⟨b0, o0, none⟩), .int .i64 x1] : List Value).toArray M K Kp :=
  acalls_vc (C := Cx) good [] Tryz.func90 (by kernel_rfl) (by kernel_rfl) h

theorem vc_frame_Frame_Pure {b0 o0 : Nat} {x1_0 : Int} {x1_1 : Int} {x1_2 : Int} {x1_3 : Int} {M : Mem} {K : Value → Mem → Prop} {Kp : List PanicEntry → Mem → Prop} (h :
nwc M (.cells #[(.int .i64 x1_0), (.int .i64 x1_1), (.int .i64 x1_2), (.int .i64 x1_3)] 34 (0, 0)) fun k1 M2 =>
exI (Mem.ld M2 ⟨k1, 0, none⟩) .i64 fun n3 =>
ACalls Tryz.prog 153 #[] M2 (fun v4 M5 =>
((Mem.ld M5 ⟨k1, 0, none⟩) = (some (.int .i64 n3))) ∧
semK Tryz.prog (Go.Instr.lookup 302 v4 (.int .i64 n3) true) M5 (fun v6 M7 =>
∃ v8 : Value, ∃ t9 : Bool, (v6 = (.tuple #[v8, (.bool t9)])) ∧
((Mem.ld M7 ⟨k1, 0, none⟩) = (some (.int .i64 n3))) ∧
bsp t9
 (exI (Mem.ld M7 ⟨b0, (o0 + 1), none⟩) .i64 fun n10 =>
  stc M7 ⟨b0, (o0 + 1), none⟩ (.int .i64 (IntKind.wrap .i64 (n10 + 1))) fun M11 =>
  exI (Mem.ld M11 ⟨k1, 0, none⟩) .i64 fun n12 =>
  exI (Mem.ld M11 ⟨k1, (0 + 1), none⟩) .i64 fun n13 =>
  exI (Mem.ld M11 ⟨k1, (0 + 2), none⟩) .i64 fun n14 =>
  exI (Mem.ld M11 ⟨k1, (0 + 3), none⟩) .i64 fun n15 =>
  callK Cx v8 [(.pointer (some ⟨b0, o0, none⟩)), (.agg #[(.int .i64 n12), (.int .i64 n13), (.int .i64 n14), (.int .i64 n15)])] M11 (fun v16 M17 =>
  (v16 = (.tuple #[])) ∧
  K (.bool t9) M17) Kp)
 (K (.bool t9) M7)) Kp) Kp) :
  ACalls Tryz.prog 121 ([.pointer (some ⟨b0, o0, none⟩), .agg #[.int .i64 x1_0, .int .i64 x1_1, .int .i64 x1_2, .int .i64 x1_3]] : List Value).toArray M K Kp :=
  acalls_vc (C := Cx) good [(1, .reg [0, 0, 2, 7, 15, 31, 31, 63, 255] (.step 1 (.prom 2 (.step 0 (.step 3 (.step 4 (.step 5 (.step 6 (.step 7 (.step 8 .done))))))))))] Tryz.func121 (by kernel_rfl) (by kernel_rfl) h

theorem vc_world_World_choose {b0 o0 : Nat} {x1 : Int} {b2 o2 : Nat} {x3_0 : Int} {x3_1 : Int} {x3_2 : Int} {x3_3 : Int} {M : Mem} {K : Value → Mem → Prop} {Kp : List PanicEntry → Mem → Prop} (h :
nwc M (.cells #[(.int .i64 x3_0), (.int .i64 x3_1), (.int .i64 x3_2), (.int .i64 x3_3)] 34 (0, 0)) fun k1 M2 =>
exI (Mem.ld M2 ⟨k1, 0, none⟩) .i64 fun n3 =>
exI (Mem.ld M2 ⟨k1, (0 + 1), none⟩) .i64 fun n4 =>
exI (Mem.ld M2 ⟨k1, (0 + 2), none⟩) .i64 fun n5 =>
exI (Mem.ld M2 ⟨k1, (0 + 3), none⟩) .i64 fun n6 =>
ACalls Tryz.prog 154 #[(.pointer (some ⟨b0, o0, none⟩)), (.agg #[(.int .i64 n3), (.int .i64 n4), (.int .i64 n5), (.int .i64 n6)])] M2 (fun v7 M8 =>
exSl (some v7) fun A9 k10 k11 =>
exSl (Mem.ld M8 ⟨b0, (o0 + 6), none⟩) fun A12 k13 k14 =>
ACalls Tryz.prog 155 #[(.slice A9 k10 k11), (.slice A12 k13 k14)] M8 (fun v15 M16 =>
exSl (some v15) fun A17 k18 k19 =>
bsp (((k18 : Nat) : Int) == 0)
 (exI (Mem.ld M16 ⟨b2, (o2 + 1), none⟩) .i64 fun n20 =>
  stc M16 ⟨b2, (o2 + 1), none⟩ (.int .i64 (IntKind.wrap .i64 (n20 + 1))) fun M21 =>
  ACalls Tryz.prog 156 #[(.slice A9 k10 k11)] M21 (fun v22 M23 =>
  ∃ n24 : Int, ∃ t25 : Bool, (v22 = (.tuple #[(.int .i64 n24), (.bool t25)])) ∧
  bsp t25
   (exI (Mem.ld M23 ⟨k1, (0 + 3), none⟩) .i64 fun n26 =>
    ((0 : Int) ≤ n26) ∧
    ((n26 : Int) < 8) ∧
    stc M23 ⟨b2, ((o2 + 2) + (Int.toNat n26)), none⟩ (.int .i64 n24) fun M27 =>
    K (.tuple #[]) M27)
   (((0 : Int) ≤ 8) ∧
    ((8 : Int) ≤ 8) ∧
    ((0 : Int) ≤ 8) ∧
    ((8 : Int) ≤ 8) ∧
    ((0 : Int) ≤ 0) ∧
    ((0 : Int) ≤ 8) ∧
    exSl (Mem.ld M23 ⟨b0, (o0 + 6), none⟩) fun A28 k29 k30 =>
    ACalls Tryz.prog 157 #[(.int .i64 x1), (.slice A9 k10 k11), (.slice (slA (some ⟨b2, (o2 + 2), none⟩) 0 8 1) 8 8), (.slice A28 k29 k30)] M23 (fun v31 M32 =>
    (v31 = (.tuple #[])) ∧
    exI (Mem.ld M32 ⟨k1, 0, none⟩) .i64 fun n33 =>
    exI (Mem.ld M32 ⟨k1, (0 + 1), none⟩) .i64 fun n34 =>
    exI (Mem.ld M32 ⟨k1, (0 + 2), none⟩) .i64 fun n35 =>
    exI (Mem.ld M32 ⟨k1, (0 + 3), none⟩) .i64 fun n36 =>
    ACalls Tryz.prog 158 #[(.pointer (some ⟨b0, o0, none⟩)), (.int .i64 x1), (.agg #[(.int .i64 n33), (.int .i64 n34), (.int .i64 n35), (.int .i64 n36)])] M32 (fun v37 M38 =>
    (v37 = (.tuple #[])) ∧
    K (.tuple #[]) M38) Kp) Kp)) Kp)
 (exV (Mem.ld M16 ⟨b0, (o0 + 14), none⟩) fun v39 =>
  callK Cx v39 [(.int .i64 3), (.int .i64 ((k18 : Nat) : Int))] M16 (fun v40 M41 =>
  exI (some v40) .i64 fun n42 =>
  ((0 : Int) ≤ n42) ∧
  ((n42 : Int) < ((k18 : Nat) : Int)) ∧
  nilc A17 fun k43 k44 =>
  exI (Mem.ld M41 ⟨k43, (k44 + (Int.toNat n42)), none⟩) .i64 fun n45 =>
  exI (Mem.ld M41 ⟨b2, (o2 + 1), none⟩) .i64 fun n46 =>
  stc M41 ⟨b2, (o2 + 1), none⟩ (.int .i64 (IntKind.wrap .i64 (n46 + 1))) fun M47 =>
  ((0 : Int) ≤ n45) ∧
  ((n45 : Int) < ((k10 : Nat) : Int)) ∧
  nilc A9 fun k48 k49 =>
  exI (Mem.ld M47 ⟨k48, (k49 + ((Int.toNat n45) * 3)), none⟩) .i64 fun n50 =>
  exI (Mem.ld M47 ⟨k48, ((k49 + ((Int.toNat n45) * 3)) + 1), none⟩) .i64 fun n51 =>
  exI (Mem.ld M47 ⟨k48, ((k49 + ((Int.toNat n45) * 3)) + 2), none⟩) .i64 fun n52 =>
  nwc M47 (.cells #[(.int .i64 0), (.int .i64 0), (.int .i64 0)] 172 (0, 0)) fun k53 M54 =>
  stc M54 ⟨k53, 0, none⟩ (.int .i64 n50) fun M55 =>
  stc M55 ⟨k53, (0 + 1), none⟩ (.int .i64 n51) fun M56 =>
  stc M56 ⟨k53, (0 + 2), none⟩ (.int .i64 n52) fun M57 =>
  exI (Mem.ld M57 ⟨k53, 0, none⟩) .i64 fun n58 =>
  bsp (n58 == 1)
   (exI (Mem.ld M57 ⟨k53, (0 + 1), none⟩) .i64 fun n59 =>
    exI (Mem.ld M57 ⟨k53, (0 + 2), none⟩) .i64 fun n60 =>
    ((0 : Int) ≤ n60) ∧
    ((n60 : Int) < 8) ∧
    exI (Mem.ld M57 ⟨b2, ((o2 + 2) + (Int.toNat n60)), none⟩) .i64 fun n61 =>
    ACalls Tryz.prog 159 #[(.pointer (some ⟨b0, o0, none⟩)), (.int .i64 n59), (.int .i64 n61)] M57 (fun v62 M63 =>
    exB (some v62) fun t64 =>
    exI (Mem.ld M63 ⟨k1, (0 + 3), none⟩) .i64 fun n65 =>
    ((0 : Int) ≤ n65) ∧
    ((n65 : Int) < 8) ∧
    stc M63 ⟨b2, ((o2 + 2) + (Int.toNat n65)), none⟩ (.int .i64 n45) fun M66 =>
    K (.tuple #[]) M66) Kp)
   (exI (Mem.ld M57 ⟨k53, (0 + 1), none⟩) .i64 fun n67 =>
    exI (Mem.ld M57 ⟨k53, (0 + 2), none⟩) .i64 fun n68 =>
    ACalls Tryz.prog 160 #[(.pointer (some ⟨b0, o0, none⟩)), (.int .i64 n67)] M57 (fun v69 M70 =>
    ∃ n71 : Int, ∃ n72 : Int, ∃ t73 : Bool, (v69 = (.tuple #[(.int .i64 n71), (.int .i64 n72), (.bool t73)])) ∧
    ((Mem.ld M70 ⟨k53, (0 + 2), none⟩) = (some (.int .i64 n68))) ∧
    ((0 : Int) ≤ n68) ∧
    ((n68 : Int) < 8) ∧
    stc M70 ⟨b2, ((o2 + 2) + (Int.toNat n68)), none⟩ (.int .i64 n71) fun M74 =>
    ((Mem.ld M74 ⟨k53, (0 + 2), none⟩) = (some (.int .i64 n68))) ∧
    exI (Mem.ld M74 ⟨k1, (0 + 3), none⟩) .i64 fun n75 =>
    ((0 : Int) ≤ n75) ∧
    ((n75 : Int) < 8) ∧
    stc M74 ⟨b2, ((o2 + 2) + (Int.toNat n75)), none⟩ (.int .i64 n45) fun M76 =>
    K (.tuple #[]) M76) Kp)) Kp)) Kp) Kp) :
  ACalls Tryz.prog 122 ([.pointer (some ⟨b0, o0, none⟩), .int .i64 x1, .pointer (some ⟨b2, o2, none⟩), .agg #[.int .i64 x3_0, .int .i64 x3_1, .int .i64 x3_2, .int .i64 x3_3]] : List Value).toArray M K Kp :=
  acalls_vc (C := Cx) good [(7, .reg [0, 0, 2, 0, 1, 17, 63, 127] (.step 0 (.step 1 (.step 3 (.step 4 (.step 5 (.step 2 (.step 6 (.step 7 .done))))))))), (8, .reg [0, 0, 0, 4, 12, 28, 0, 64, 192, 448, 1023] (.step 0 (.step 1 (.step 2 (.step 3 (.step 4 (.step 5 (.step 6 (.step 7 (.step 8 (.step 9 (.step 10 .done)))))))))))), (14, .reg [0, 0, 2, 0, 0, 16, 8, 72, 248, 504, 1023] (.step 0 (.step 1 (.step 3 (.step 4 (.step 6 (.step 7 (.step 2 (.step 5 (.step 8 (.step 9 (.step 10 .done)))))))))))), (15, .reg [0, 0, 2, 0, 0, 16, 56, 120, 248, 248, 248, 1, 2049, 6655, 14847] (.step 0 (.step 1 (.step 3 (.step 4 (.step 11 (.step 12 (.step 5 (.prom 2 (.step 6 (.step 7 (.step 8 (.step 9 (.step 10 (.step 13 (.step 14 .done)))))))))))))))), (16, .reg [0, 0, 2, 0, 1, 17, 63, 127] (.step 0 (.step 1 (.step 3 (.step 4 (.step 5 (.step 2 (.step 6 (.step 7 .done)))))))))] Tryz.func122 (by kernel_rfl) (by kernel_rfl) h

theorem vc_world_World_rand {b0 o0 : Nat} {x1 : Int} {b2 o2 : Nat} {x3_0 : Int} {x3_1 : Int} {x3_2 : Int} {x3_3 : Int} {M : Mem} {K : Value → Mem → Prop} {Kp : List PanicEntry → Mem → Prop} (h :
nwc M (.cells #[(.int .i64 x3_0), (.int .i64 x3_1), (.int .i64 x3_2), (.int .i64 x3_3)] 34 (0, 0)) fun k1 M2 =>
exV (Mem.ld M2 ⟨b0, (o0 + 14), none⟩) fun v3 =>
exI (Mem.ld M2 ⟨k1, (0 + 2), none⟩) .i64 fun n4 =>
callK Cx v3 [(.int .i64 4), (.int .i64 n4)] M2 (fun v5 M6 =>
exI (some v5) .i64 fun n7 =>
exI (Mem.ld M6 ⟨b2, (o2 + 1), none⟩) .i64 fun n8 =>
stc M6 ⟨b2, (o2 + 1), none⟩ (.int .i64 (IntKind.wrap .i64 (n8 + 1))) fun M9 =>
exI (Mem.ld M9 ⟨k1, (0 + 1), none⟩) .i64 fun n10 =>
((0 : Int) ≤ n10) ∧
((n10 : Int) < 8) ∧
stc M9 ⟨b2, ((o2 + 2) + (Int.toNat n10)), none⟩ (.int .i64 n7) fun M11 =>
K (.tuple #[]) M11) Kp) :
  ACalls Tryz.prog 123 ([.pointer (some ⟨b0, o0, none⟩), .int .i64 x1, .pointer (some ⟨b2, o2, none⟩), .agg #[.int .i64 x3_0, .int .i64 x3_1, .int .i64 x3_2, .int .i64 x3_3]] : List Value).toArray M K Kp :=
  acalls_vc (C := Cx) good [(1, .reg [0, 1, 3, 7, 0, 16, 63, 127] (.step 0 (.step 1 (.step 2 (.step 4 (.step 3 (.step 5 (.step 6 (.step 7 .done))))))))), (3, .reg [0, 0, 2, 0, 1, 17, 63, 127] (.step 0 (.step 1 (.step 3 (.step 4 (.step 5 (.step 2 (.step 6 (.step 7 .done)))))))))] Tryz.func123 (by kernel_rfl) (by kernel_rfl) h

theorem vc_world_table  {M : Mem} {K : Value → Mem → Prop} {Kp : List PanicEntry → Mem → Prop} (h :
nwc M (.map #[] 0) fun k1 M2 =>
semU Tryz.prog (Go.Instr.mapUpdate 261 (.map (some k1)) (.int .i64 9) (.func (.func 161) #[] #[])) M2 (fun M3 =>
semU Tryz.prog (Go.Instr.mapUpdate 261 (.map (some k1)) (.int .i64 10) (.func (.func 162) #[] #[])) M3 (fun M4 =>
semU Tryz.prog (Go.Instr.mapUpdate 261 (.map (some k1)) (.int .i64 11) (.func (.func 163) #[] #[])) M4 (fun M5 =>
semU Tryz.prog (Go.Instr.mapUpdate 261 (.map (some k1)) (.int .i64 12) (.func (.func 164) #[] #[])) M5 (fun M6 =>
semU Tryz.prog (Go.Instr.mapUpdate 261 (.map (some k1)) (.int .i64 13) (.func (.func 165) #[] #[])) M6 (fun M7 =>
semU Tryz.prog (Go.Instr.mapUpdate 261 (.map (some k1)) (.int .i64 14) (.func (.func 166) #[] #[])) M7 (fun M8 =>
semU Tryz.prog (Go.Instr.mapUpdate 261 (.map (some k1)) (.int .i64 15) (.func (.func 167) #[] #[])) M8 (fun M9 =>
semU Tryz.prog (Go.Instr.mapUpdate 261 (.map (some k1)) (.int .i64 17) (.func (.func 168) #[] #[])) M9 (fun M10 =>
semU Tryz.prog (Go.Instr.mapUpdate 261 (.map (some k1)) (.int .i64 18) (.func (.func 169) #[] #[])) M10 (fun M11 =>
semU Tryz.prog (Go.Instr.mapUpdate 261 (.map (some k1)) (.int .i64 19) (.func (.func 170) #[] #[])) M11 (fun M12 =>
semU Tryz.prog (Go.Instr.mapUpdate 261 (.map (some k1)) (.int .i64 20) (.func (.func 171) #[] #[])) M12 (fun M13 =>
semU Tryz.prog (Go.Instr.mapUpdate 261 (.map (some k1)) (.int .i64 22) (.func (.func 172) #[] #[])) M13 (fun M14 =>
K (.map (some k1)) M14) Kp) Kp) Kp) Kp) Kp) Kp) Kp) Kp) Kp) Kp) Kp) Kp) :
  ACalls Tryz.prog 124 ([] : List Value).toArray M K Kp :=
  acalls_vc (C := Cx) good [] Tryz.func124 (by kernel_rfl) (by kernel_rfl) h

theorem vc_heap_Heap_remove {b0 o0 : Nat} {x1 : Int} {M : Mem} {K : Value → Mem → Prop} {Kp : List PanicEntry → Mem → Prop} (h :
nwc M (.cells #[(.int .u64 0), (.int .u64 0), (.int .i64 0)] 205 (0, 0)) fun k1 M2 =>
exSl (Mem.ld M2 ⟨b0, o0, none⟩) fun A3 k4 k5 =>
((0 : Int) ≤ x1) ∧
((x1 : Int) < ((k4 : Nat) : Int)) ∧
nilc A3 fun k6 k7 =>
exI (Mem.ld M2 ⟨k6, (k7 + ((Int.toNat x1) * 3)), none⟩) .u64 fun n8 =>
exI (Mem.ld M2 ⟨k6, ((k7 + ((Int.toNat x1) * 3)) + 1), none⟩) .u64 fun n9 =>
exI (Mem.ld M2 ⟨k6, ((k7 + ((Int.toNat x1) * 3)) + 2), none⟩) .i64 fun n10 =>
nwc M2 (.cells #[(.int .u64 0), (.int .u64 0), (.int .i64 0)] 205 (0, 0)) fun k11 M12 =>
stc M12 ⟨k11, 0, none⟩ (.int .u64 n8) fun M13 =>
stc M13 ⟨k11, (0 + 1), none⟩ (.int .u64 n9) fun M14 =>
stc M14 ⟨k11, (0 + 2), none⟩ (.int .i64 n10) fun M15 =>
exSl (Mem.ld M15 ⟨b0, o0, none⟩) fun A16 k17 k18 =>
ACalls Tryz.prog 136 #[(.pointer (some ⟨b0, o0, none⟩)), (.int .i64 x1), (.int .i64 (IntKind.wrap .i64 (((k17 : Nat) : Int) - 1)))] M15 (fun v19 M20 =>
(v19 = (.tuple #[])) ∧
exSl (Mem.ld M20 ⟨b0, o0, none⟩) fun A21 k22 k23 =>
((0 : Int) ≤ ((k23 : Nat) : Int)) ∧
((((k23 : Nat) : Int) : Int) ≤ ((k23 : Nat) : Int)) ∧
((0 : Int) ≤ (IntKind.wrap .i64 (((k17 : Nat) : Int) - 1))) ∧
(((IntKind.wrap .i64 (((k17 : Nat) : Int) - 1)) : Int) ≤ ((k23 : Nat) : Int)) ∧
((0 : Int) ≤ 0) ∧
((0 : Int) ≤ (IntKind.wrap .i64 (((k17 : Nat) : Int) - 1))) ∧
stc M20 ⟨b0, o0, none⟩ (.slice (slA A21 0 (Int.toNat ((k23 : Nat) : Int)) 3) ((Int.toNat (IntKind.wrap .i64 (((k17 : Nat) : Int) - 1))) - 0) ((Int.toNat ((k23 : Nat) : Int)) - 0)) fun M24 =>
bsp (decide ((x1 : Int) < (IntKind.wrap .i64 (((k17 : Nat) : Int) - 1))))
 (ACalls Tryz.prog 137 #[(.pointer (some ⟨b0, o0, none⟩)), (.int .i64 x1)] M24 (fun v25 M26 =>
  (v25 = (.tuple #[])) ∧
  ACalls Tryz.prog 138 #[(.pointer (some ⟨b0, o0, none⟩)), (.int .i64 x1)] M26 (fun v27 M28 =>
  (v27 = (.tuple #[])) ∧
  exI (Mem.ld M28 ⟨k11, 0, none⟩) .u64 fun n29 =>
  exI (Mem.ld M28 ⟨k11, (0 + 1), none⟩) .u64 fun n30 =>
  exI (Mem.ld M28 ⟨k11, (0 + 2), none⟩) .i64 fun n31 =>
  stc M28 ⟨k1, 0, none⟩ (.int .u64 n29) fun M32 =>
  stc M32 ⟨k1, (0 + 1), none⟩ (.int .u64 n30) fun M33 =>
  stc M33 ⟨k1, (0 + 2), none⟩ (.int .i64 n31) fun M34 =>
  exI (Mem.ld M34 ⟨k1, 0, none⟩) .u64 fun n35 =>
  exI (Mem.ld M34 ⟨k1, (0 + 1), none⟩) .u64 fun n36 =>
  exI (Mem.ld M34 ⟨k1, (0 + 2), none⟩) .i64 fun n37 =>
  K (.agg #[(.int .u64 n35), (.int .u64 n36), (.int .i64 n37)]) M34) Kp) Kp)
 (exI (Mem.ld M24 ⟨k11, 0, none⟩) .u64 fun n38 =>
  exI (Mem.ld M24 ⟨k11, (0 + 1), none⟩) .u64 fun n39 =>
  exI (Mem.ld M24 ⟨k11, (0 + 2), none⟩) .i64 fun n40 =>
  stc M24 ⟨k1, 0, none⟩ (.int .u64 n38) fun M41 =>
  stc M41 ⟨k1, (0 + 1), none⟩ (.int .u64 n39) fun M42 =>
  stc M42 ⟨k1, (0 + 2), none⟩ (.int .i64 n40) fun M43 =>
  exI (Mem.ld M43 ⟨k1, 0, none⟩) .u64 fun n44 =>
  exI (Mem.ld M43 ⟨k1, (0 + 1), none⟩) .u64 fun n45 =>
  exI (Mem.ld M43 ⟨k1, (0 + 2), none⟩) .i64 fun n46 =>
  K (.agg #[(.int .u64 n44), (.int .u64 n45), (.int .i64 n46)]) M43)) Kp) :
  ACalls Tryz.prog 106 ([.pointer (some ⟨b0, o0, none⟩), .int .i64 x1] : List Value).toArray M K Kp :=
  acalls_vc (C := Cx) good [] Tryz.func106 (by kernel_rfl) (by kernel_rfl) h

theorem vc_frame_table  {M : Mem} {K : Value → Mem → Prop} {Kp : List PanicEntry → Mem → Prop} (h :
nwc M (.map #[] 0) fun k1 M2 =>
semU Tryz.prog (Go.Instr.mapUpdate 302 (.map (some k1)) (.int .i64 0) (.func (.func 195) #[] #[])) M2 (fun M3 =>
semU Tryz.prog (Go.Instr.mapUpdate 302 (.map (some k1)) (.int .i64 1) (.func (.func 196) #[] #[])) M3 (fun M4 =>
semU Tryz.prog (Go.Instr.mapUpdate 302 (.map (some k1)) (.int .i64 2) (.func (.func 197) #[] #[])) M4 (fun M5 =>
semU Tryz.prog (Go.Instr.mapUpdate 302 (.map (some k1)) (.int .i64 3) (.func (.func 198) #[] #[])) M5 (fun M6 =>
semU Tryz.prog (Go.Instr.mapUpdate 302 (.map (some k1)) (.int .i64 4) (.func (.func 199) #[] #[])) M6 (fun M7 =>
semU Tryz.prog (Go.Instr.mapUpdate 302 (.map (some k1)) (.int .i64 5) (.func (.func 200) #[] #[])) M7 (fun M8 =>
semU Tryz.prog (Go.Instr.mapUpdate 302 (.map (some k1)) (.int .i64 6) (.func (.func 201) #[] #[])) M8 (fun M9 =>
semU Tryz.prog (Go.Instr.mapUpdate 302 (.map (some k1)) (.int .i64 7) (.func (.func 202) #[] #[])) M9 (fun M10 =>
semU Tryz.prog (Go.Instr.mapUpdate 302 (.map (some k1)) (.int .i64 8) (.func (.func 203) #[] #[])) M10 (fun M11 =>
K (.map (some k1)) M11) Kp) Kp) Kp) Kp) Kp) Kp) Kp) Kp) Kp) :
  ACalls Tryz.prog 153 ([] : List Value).toArray M K Kp :=
  acalls_vc (C := Cx) good [] Tryz.func153 (by kernel_rfl) (by kernel_rfl) h

theorem vc_world_World_cases {b0 o0 : Nat} {x1_0 : Int} {x1_1 : Int} {x1_2 : Int} {x1_3 : Int} {M : Mem} {K : Value → Mem → Prop} {Kp : List PanicEntry → Mem → Prop} (h :
nwc M (.cells #[(.int .i64 x1_0), (.int .i64 x1_1), (.int .i64 x1_2), (.int .i64 x1_3)] 34 (0, 0)) fun k1 M2 =>
exSl (Mem.ld M2 ⟨b0, (o0 + 3), none⟩) fun A3 k4 k5 =>
exI (Mem.ld M2 ⟨k1, (0 + 1), none⟩) .i64 fun n6 =>
exI (Mem.ld M2 ⟨k1, (0 + 1), none⟩) .i64 fun n7 =>
exI (Mem.ld M2 ⟨k1, (0 + 2), none⟩) .i64 fun n8 =>
((0 : Int) ≤ ((k5 : Nat) : Int)) ∧
((((k5 : Nat) : Int) : Int) ≤ ((k5 : Nat) : Int)) ∧
((0 : Int) ≤ (IntKind.wrap .i64 (n7 + n8))) ∧
(((IntKind.wrap .i64 (n7 + n8)) : Int) ≤ ((k5 : Nat) : Int)) ∧
((0 : Int) ≤ n6) ∧
((n6 : Int) ≤ (IntKind.wrap .i64 (n7 + n8))) ∧
K (.slice (slA A3 (Int.toNat n6) (Int.toNat ((k5 : Nat) : Int)) 3) ((Int.toNat (IntKind.wrap .i64 (n7 + n8))) - (Int.toNat n6)) ((Int.toNat ((k5 : Nat) : Int)) - (Int.toNat n6))) M2) :
  ACalls Tryz.prog 154 ([.pointer (some ⟨b0, o0, none⟩), .agg #[.int .i64 x1_0, .int .i64 x1_1, .int .i64 x1_2, .int .i64 x1_3]] : List Value).toArray M K Kp :=
  acalls_vc (C := Cx) good [(1, .reg [0, 1, 3, 7, 15, 0, 32, 0, 128, 0, 512, 1920, 4095, 8191] (.step 0 (.step 1 (.step 2 (.step 3 (.step 5 (.step 7 (.step 9 (.step 4 (.step 6 (.step 8 (.step 10 (.step 11 (.step 12 (.step 13 .done)))))))))))))))] Tryz.func154 (by kernel_rfl) (by kernel_rfl) h

theorem vc_world_World_block {b0 o0 : Nat} {x1 : Int} {x2_0 : Int} {x2_1 : Int} {x2_2 : Int} {x2_3 : Int} {M : Mem} {K : Value → Mem → Prop} {Kp : List PanicEntry → Mem → Prop} (h :
nwc M (.cells #[(.int .i64 x2_0), (.int .i64 x2_1), (.int .i64 x2_2), (.int .i64 x2_3)] 34 (0, 0)) fun k1 M2 =>
exSl (Mem.ld M2 ⟨b0, (o0 + 4), none⟩) fun A3 k4 k5 =>
((0 : Int) ≤ x1) ∧
((x1 : Int) < ((k4 : Nat) : Int)) ∧
nilc A3 fun k6 k7 =>
exP (Mem.ld M2 ⟨k6, (k7 + (Int.toNat x1)), none⟩) fun A8 =>
exSl (Mem.ld M2 ⟨b0, (o0 + 4), none⟩) fun A9 k10 k11 =>
((0 : Int) ≤ x1) ∧
((x1 : Int) < ((k10 : Nat) : Int)) ∧
nilc A9 fun k12 k13 =>
exP (Mem.ld M2 ⟨k12, (k13 + (Int.toNat x1)), none⟩) fun A14 =>
nilc A8 fun k15 k16 =>
exI (Mem.ld M2 ⟨k1, 0, none⟩) .i64 fun n17 =>
exI (Mem.ld M2 ⟨k1, (0 + 1), none⟩) .i64 fun n18 =>
exI (Mem.ld M2 ⟨k1, (0 + 2), none⟩) .i64 fun n19 =>
exI (Mem.ld M2 ⟨k1, (0 + 3), none⟩) .i64 fun n20 =>
stc M2 ⟨k15, k16, none⟩ (.int .i64 2) fun M21 =>
((Mem.lds M21 ⟨k1, 0, none⟩ 0 4) = some [(.int .i64 n17), (.int .i64 n18), (.int .i64 n19), (.int .i64 n20)]) ∧
nilc A14 fun k22 k23 =>
stc M21 ⟨k22, (k23 + 2), none⟩ (.int .i64 n17) fun M24 =>
stc M24 ⟨k22, ((k23 + 2) + 1), none⟩ (.int .i64 n18) fun M25 =>
stc M25 ⟨k22, ((k23 + 2) + 2), none⟩ (.int .i64 n19) fun M26 =>
stc M26 ⟨k22, ((k23 + 2) + 3), none⟩ (.int .i64 n20) fun M27 =>
((Mem.lds M27 ⟨k1, 0, none⟩ 0 4) = some [(.int .i64 n17), (.int .i64 n18), (.int .i64 n19), (.int .i64 n20)]) ∧
K (.tuple #[]) M27) :
  ACalls Tryz.prog 158 ([.pointer (some ⟨b0, o0, none⟩), .int .i64 x1, .agg #[.int .i64 x2_0, .int .i64 x2_1, .int .i64 x2_2, .int .i64 x2_3]] : List Value).toArray M K Kp :=
  acalls_vc (C := Cx) good [(1, .reg [0, 1, 3, 7, 0, 31, 63, 0, 128, 384, 896, 0, 3968, 8064, 0, 16383, 49151, 114687, 262143, 524287, 1048575] (.step 0 (.step 1 (.step 2 (.step 4 (.step 7 (.step 8 (.step 9 (.step 11 (.step 3 (.step 5 (.step 6 (.step 10 (.step 12 (.step 13 (.step 15 (.step 16 (.prom 14 (.step 17 (.step 18 (.step 19 (.step 20 .done))))))))))))))))))))))] Tryz.func158 (by kernel_rfl) (by kernel_rfl) h

theorem vc_world_World_put {b0 o0 : Nat} {x1 : Int} {x2 : Int} {M : Mem} {K : Value → Mem → Prop} {Kp : List PanicEntry → Mem → Prop} (h :
exSl (Mem.ld M ⟨b0, (o0 + 6), none⟩) fun A1 k2 k3 =>
((0 : Int) ≤ x1) ∧
((x1 : Int) < ((k2 : Nat) : Int)) ∧
nilc A1 fun k4 k5 =>
exP (Mem.ld M ⟨k4, (k5 + (Int.toNat x1)), none⟩) fun A6 =>
ACalls Tryz.prog 207 #[(.pointer A6), (.int .i64 x2)] M (fun v7 M8 =>
∃ n9 : Int, ∃ n10 : Int, ∃ n11 : Int, ∃ t12 : Bool, ∃ n13 : Int, (v7 = (.tuple #[(.agg #[(.int .i64 n9), (.int .i64 n10), (.int .i64 n11)]), (.bool t12), (.int .i64 n13)])) ∧
nwc M8 (.cells #[(.int .i64 0), (.int .i64 0), (.int .i64 0)] 298 (0, 0)) fun k14 M15 =>
stc M15 ⟨k14, 0, none⟩ (.int .i64 n9) fun M16 =>
stc M16 ⟨k14, (0 + 1), none⟩ (.int .i64 n10) fun M17 =>
stc M17 ⟨k14, (0 + 2), none⟩ (.int .i64 n11) fun M18 =>
bsp (n13 == 10)
 (Kp [{ v := (.iface 256 (.int .i64 (-1))), recovered := false }] M18)
 (bsp t12
   (exI (Mem.ld M18 ⟨k14, 0, none⟩) .i64 fun n19 =>
    exI (Mem.ld M18 ⟨k14, (0 + 1), none⟩) .i64 fun n20 =>
    exI (Mem.ld M18 ⟨k14, (0 + 2), none⟩) .i64 fun n21 =>
    ACalls Tryz.prog 208 #[(.pointer (some ⟨b0, o0, none⟩)), (.agg #[(.int .i64 n19), (.int .i64 n20), (.int .i64 n21)]), (.int .i64 1)] M18 (fun v22 M23 =>
    (v22 = (.tuple #[])) ∧
    K (.bool (n13 == 0)) M23) Kp)
   (K (.bool (n13 == 0)) M18))) Kp) :
  ACalls Tryz.prog 159 ([.pointer (some ⟨b0, o0, none⟩), .int .i64 x1, .int .i64 x2] : List Value).toArray M K Kp :=
  acalls_vc (C := Cx) good [] Tryz.func159 (by kernel_rfl) (by kernel_rfl) h

theorem vc_world_World_get {b0 o0 : Nat} {x1 : Int} {M : Mem} {K : Value → Mem → Prop} {Kp : List PanicEntry → Mem → Prop} (h :
exSl (Mem.ld M ⟨b0, (o0 + 6), none⟩) fun A1 k2 k3 =>
((0 : Int) ≤ x1) ∧
((x1 : Int) < ((k2 : Nat) : Int)) ∧
nilc A1 fun k4 k5 =>
exP (Mem.ld M ⟨k4, (k5 + (Int.toNat x1)), none⟩) fun A6 =>
ACalls Tryz.prog 209 #[(.pointer A6)] M (fun v7 M8 =>
∃ n9 : Int, ∃ t10 : Bool, ∃ n11 : Int, ∃ n12 : Int, ∃ n13 : Int, ∃ t14 : Bool, ∃ n15 : Int, (v7 = (.tuple #[(.agg #[(.int .i64 n9), (.bool t10), (.int .i64 n11), (.int .i64 n12), (.int .i64 n13), (.bool t14)]), (.int .i64 n15)])) ∧
nwc M8 (.cells #[(.int .i64 0), (.bool false), (.int .i64 0), (.int .i64 0), (.int .i64 0), (.bool false)] 335 (0, 0)) fun k16 M17 =>
stc M17 ⟨k16, 0, none⟩ (.int .i64 n9) fun M18 =>
stc M18 ⟨k16, (0 + 1), none⟩ (.bool t10) fun M19 =>
stc M19 ⟨k16, (0 + 2), none⟩ (.int .i64 n11) fun M20 =>
stc M20 ⟨k16, (0 + 3), none⟩ (.int .i64 n12) fun M21 =>
stc M21 ⟨k16, (0 + 4), none⟩ (.int .i64 n13) fun M22 =>
stc M22 ⟨k16, (0 + 5), none⟩ (.bool t14) fun M23 =>
exB (Mem.ld M23 ⟨k16, (0 + 5), none⟩) fun t24 =>
bsp t24
 (exI (Mem.ld M23 ⟨k16, (0 + 2), none⟩) .i64 fun n25 =>
  exI (Mem.ld M23 ⟨k16, ((0 + 2) + 1), none⟩) .i64 fun n26 =>
  exI (Mem.ld M23 ⟨k16, ((0 + 2) + 2), none⟩) .i64 fun n27 =>
  ACalls Tryz.prog 210 #[(.pointer (some ⟨b0, o0, none⟩)), (.agg #[(.int .i64 n25), (.int .i64 n26), (.int .i64 n27)])] M23 (fun v28 M29 =>
  (v28 = (.tuple #[])) ∧
  exB (Mem.ld M29 ⟨k16, (0 + 1), none⟩) fun t30 =>
  bsp t30
   (exI (Mem.ld M29 ⟨k16, 0, none⟩) .i64 fun n31 =>
    K (.tuple #[(.int .i64 n31), (.int .i64 1), (.bool true)]) M29)
   (K (.tuple #[(.int .i64 0), (.int .i64 0), (.bool (n15 == 0))]) M29)) Kp)
 (exB (Mem.ld M23 ⟨k16, (0 + 1), none⟩) fun t32 =>
  bsp t32
   (exI (Mem.ld M23 ⟨k16, 0, none⟩) .i64 fun n33 =>
    K (.tuple #[(.int .i64 n33), (.int .i64 1), (.bool true)]) M23)
   (K (.tuple #[(.int .i64 0), (.int .i64 0), (.bool (n15 == 0))]) M23))) Kp) :
  ACalls Tryz.prog 160 ([.pointer (some ⟨b0, o0, none⟩), .int .i64 x1] : List Value).toArray M K Kp :=
  acalls_vc (C := Cx) good [] Tryz.func160 (by kernel_rfl) (by kernel_rfl) h

theorem vc_world_World_call {b0 o0 : Nat} {x1 : Int} {b2 o2 : Nat} {x3_0 : Int} {x3_1 : Int} {x3_2 : Int} {x3_3 : Int} {M : Mem} {K : Value → Mem → Prop} {Kp : List PanicEntry → Mem → Prop} (h :
nwc M (.cells #[(.int .i64 x3_0), (.int .i64 x3_1), (.int .i64 x3_2), (.int .i64 x3_3)] 34 (0, 0)) fun k1 M2 =>
exSl (Mem.ld M2 ⟨b0, (o0 + 4), none⟩) fun A3 k4 k5 =>
((0 : Int) ≤ x1) ∧
((x1 : Int) < ((k4 : Nat) : Int)) ∧
nilc A3 fun k6 k7 =>
exP (Mem.ld M2 ⟨k6, (k7 + (Int.toNat x1)), none⟩) fun A8 =>
nilc A8 fun k9 k10 =>
exSl (Mem.ld M2 ⟨k9, (k10 + 1), none⟩) fun A11 k12 k13 =>
exI (Mem.ld M2 ⟨k1, (0 + 1), none⟩) .i64 fun n14 =>
exI (Mem.ld M2 ⟨k1, (0 + 2), none⟩) .i64 fun n15 =>
((0 : Int) ≤ n15) ∧
((n15 : Int) < 8) ∧
exI (Mem.ld M2 ⟨b2, ((o2 + 2) + (Int.toNat n15)), none⟩) .i64 fun n16 =>
exI (Mem.ld M2 ⟨k1, (0 + 3), none⟩) .i64 fun n17 =>
ACalls Tryz.prog 211 #[(.slice A11 k12 k13), (.int .i64 n14), (.int .i64 n16), (.int .i64 n17)] M2 (fun v18 M19 =>
∃ A20 : Option Addr, ∃ k21 : Nat, ∃ k22 : Nat, ∃ t23 : Bool, (v18 = (.tuple #[(.slice A20 k21 k22), (.bool t23)])) ∧
bsp (!t23)
 (Kp [{ v := (.iface 256 (.int .i64 (-4))), recovered := false }] M19)
 (exSl (Mem.ld M19 ⟨b0, (o0 + 4), none⟩) fun A24 k25 k26 =>
  ((0 : Int) ≤ x1) ∧
  ((x1 : Int) < ((k25 : Nat) : Int)) ∧
  nilc A24 fun k27 k28 =>
  exP (Mem.ld M19 ⟨k27, (k28 + (Int.toNat x1)), none⟩) fun A29 =>
  nilc A29 fun k30 k31 =>
  stc M19 ⟨k30, (k31 + 1), none⟩ (.slice A20 k21 k22) fun M32 =>
  K (.tuple #[]) M32)) Kp) :
  ACalls Tryz.prog 161 ([.pointer (some ⟨b0, o0, none⟩), .int .i64 x1, .pointer (some ⟨b2, o2, none⟩), .agg #[.int .i64 x3_0, .int .i64 x3_1, .int .i64 x3_2, .int .i64 x3_3]] : List Value).toArray M K Kp :=
  acalls_vc (C := Cx) good [(1, .reg [0, 1, 3, 7, 0, 31, 63, 127, 255, 511, 0, 1024, 0, 0, 8192, 4096, 36864, 126976, 258048, 0, 524288, 2097151, 4194303, 8388607, 8388607, 16777215, 67108863] (.step 0 (.step 1 (.step 2 (.step 4 (.step 10 (.step 12 (.step 13 (.step 15 (.step 16 (.step 19 (.step 3 (.step 5 (.step 6 (.step 7 (.step 8 (.step 9 (.step 11 (.step 14 (.step 17 (.step 18 (.step 20 (.step 21 (.step 22 (.step 23 (.step 24 (.step 25 (.step 26 .done))))))))))))))))))))))))))))] Tryz.func161 (by kernel_rfl) (by kernel_rfl) h

theorem vc_world_World_back {b0 o0 : Nat} {x1 : Int} {b2 o2 : Nat} {x3_0 : Int} {x3_1 : Int} {x3_2 : Int} {x3_3 : Int} {M : Mem} {K : Value → Mem → Prop} {Kp : List PanicEntry → Mem → Prop} (h :
nwc M (.cells #[(.int .i64 x3_0), (.int .i64 x3_1), (.int .i64 x3_2), (.int .i64 x3_3)] 34 (0, 0)) fun k1 M2 =>
exSl (Mem.ld M2 ⟨b0, (o0 + 4), none⟩) fun A3 k4 k5 =>
((0 : Int) ≤ x1) ∧
((x1 : Int) < ((k4 : Nat) : Int)) ∧
nilc A3 fun k6 k7 =>
exP (Mem.ld M2 ⟨k6, (k7 + (Int.toNat x1)), none⟩) fun A8 =>
nilc A8 fun k9 k10 =>
exSl (Mem.ld M2 ⟨k9, (k10 + 1), none⟩) fun A11 k12 k13 =>
exI (Mem.ld M2 ⟨k1, (0 + 1), none⟩) .i64 fun n14 =>
((0 : Int) ≤ n14) ∧
((n14 : Int) < 8) ∧
exI (Mem.ld M2 ⟨b2, ((o2 + 2) + (Int.toNat n14)), none⟩) .i64 fun n15 =>
ACalls Tryz.prog 212 #[(.slice A11 k12 k13), (.int .i64 n15)] M2 (fun v16 M17 =>
∃ A18 : Option Addr, ∃ k19 : Nat, ∃ k20 : Nat, ∃ t21 : Bool, (v16 = (.tuple #[(.slice A18 k19 k20), (.bool t21)])) ∧
bsp t21
 (exSl (Mem.ld M17 ⟨b0, (o0 + 4), none⟩) fun A22 k23 k24 =>
  ((0 : Int) ≤ x1) ∧
  ((x1 : Int) < ((k23 : Nat) : Int)) ∧
  nilc A22 fun k25 k26 =>
  exP (Mem.ld M17 ⟨k25, (k26 + (Int.toNat x1)), none⟩) fun A27 =>
  nilc A27 fun k28 k29 =>
  stc M17 ⟨k28, (k29 + 1), none⟩ (.slice A18 k19 k20) fun M30 =>
  K (.tuple #[]) M30)
 (exSl (Mem.ld M17 ⟨b0, (o0 + 4), none⟩) fun A31 k32 k33 =>
  ((0 : Int) ≤ x1) ∧
  ((x1 : Int) < ((k32 : Nat) : Int)) ∧
  nilc A31 fun k34 k35 =>
  exP (Mem.ld M17 ⟨k34, (k35 + (Int.toNat x1)), none⟩) fun A36 =>
  nilc A36 fun k37 k38 =>
  stc M17 ⟨k37, k38, none⟩ (.int .i64 4) fun M39 =>
  bsp (x1 == 0)
   (stc M39 ⟨b0, (o0 + 11), none⟩ (.int .i64 1) fun M40 =>
    K (.tuple #[]) M40)
   (K (.tuple #[]) M39))) Kp) :
  ACalls Tryz.prog 162 ([.pointer (some ⟨b0, o0, none⟩), .int .i64 x1, .pointer (some ⟨b2, o2, none⟩), .agg #[.int .i64 x3_0, .int .i64 x3_1, .int .i64 x3_2, .int .i64 x3_3]] : List Value).toArray M K Kp :=
  acalls_vc (C := Cx) good [(1, .reg [0, 1, 3, 7, 0, 31, 63, 127, 255, 511, 0, 0, 2048, 1024, 9216, 31744, 64512, 131071, 262143, 524287, 524287, 1048575, 4194303] (.step 0 (.step 1 (.step 2 (.step 4 (.step 10 (.step 11 (.step 13 (.step 14 (.step 3 (.step 5 (.step 6 (.step 7 (.step 8 (.step 9 (.step 12 (.step 15 (.step 16 (.step 17 (.step 18 (.step 19 (.step 20 (.step 21 (.step 22 .done))))))))))))))))))))))))] Tryz.func162 (by kernel_rfl) (by kernel_rfl) h

theorem vc_world_World_spawn {b0 o0 : Nat} {x1 : Int} {b2 o2 : Nat} {x3_0 : Int} {x3_1 : Int} {x3_2 : Int} {x3_3 : Int} {M : Mem} {K : Value → Mem → Prop} {Kp : List PanicEntry → Mem → Prop} (h :
nwc M (.cells #[(.int .i64 x3_0), (.int .i64 x3_1), (.int .i64 x3_2), (.int .i64 x3_3)] 34 (0, 0)) fun k1 M2 =>
exSl (Mem.ld M2 ⟨b0, (o0 + 4), none⟩) fun A3 k4 k5 =>
bsp (decide ((((k4 : Nat) : Int) : Int) ≥ 100))
 (Kp [{ v := (.iface 256 (.int .i64 (-5))), recovered := false }] M2)
 (exSl (Mem.ld M2 ⟨b0, (o0 + 4), none⟩) fun A6 k7 k8 =>
  ∃ J9 : List Value → Mem → Prop, (exI (Mem.ld M2 ⟨k1, (0 + 1), none⟩) .i64 fun n10 =>
   exI (Mem.ld M2 ⟨k1, (0 + 2), none⟩) .i64 fun n11 =>
   ((0 : Int) ≤ n11) ∧
   ((n11 : Int) < 8) ∧
   exI (Mem.ld M2 ⟨b2, ((o2 + 2) + (Int.toNat n11)), none⟩) .i64 fun n12 =>
   (exSl (Mem.ld M2 ⟨b0, (o0 + 4), none⟩) fun A13 k14 k15 =>
    ACalls Tryz.prog 71 #[(.int .i64 n10), (.int .i64 n12)] M2 (fun v16 M17 =>
    exSl (some v16) fun A18 k19 k20 =>
    nwc M17 (.cells #[(.int .i64 0), (.slice A18 k19 k20), (.int .i64 0), (.int .i64 0), (.int .i64 0), (.int .i64 0)] 182 (0, 0)) fun k21 M22 =>
    nwc M22 (.cells #[(.pointer (some ⟨k21, 0, none⟩))] 177 (0, 0)) fun k23 M24 =>
    semK Tryz.prog (Go.Builtin.append_ #[158, 158] 158 #[(.slice A13 k14 k15), (.slice (some ⟨k23, 0, none⟩) 1 1)]) M24 (fun v25 M26 =>
    exSl (some v25) fun A27 k28 k29 =>
    stc M26 ⟨b0, (o0 + 4), none⟩ (.slice A27 k28 k29) fun M30 =>
    J9 [] M30) Kp) Kp) ∧
   (ACalls Tryz.prog 71 #[(.int .i64 n10), (.int .i64 n12)] M2 (fun v31 M32 =>
    exSl (some v31) fun A33 k34 k35 =>
    exSl (Mem.ld M32 ⟨b0, (o0 + 4), none⟩) fun A36 k37 k38 =>
    nwc M32 (.cells #[(.int .i64 0), (.slice A33 k34 k35), (.int .i64 0), (.int .i64 0), (.int .i64 0), (.int .i64 0)] 182 (0, 0)) fun k39 M40 =>
    nwc M40 (.cells #[(.pointer (some ⟨k39, 0, none⟩))] 177 (0, 0)) fun k41 M42 =>
    semK Tryz.prog (Go.Builtin.append_ #[158, 158] 158 #[(.slice A36 k37 k38), (.slice (some ⟨k41, 0, none⟩) 1 1)]) M42 (fun v43 M44 =>
    exSl (some v43) fun A45 k46 k47 =>
    stc M44 ⟨b0, (o0 + 4), none⟩ (.slice A45 k46 k47) fun M48 =>
    J9 [] M48) Kp) Kp) ∧
   True) ∧
  ∀ junk49 : Nat → Value, ∀ M50 : Mem, (J9 [] M50) → ACalls Tryz.prog 90 #[(.pointer (some ⟨b0, o0, none⟩)), (.int .i64 ((k7 : Nat) : Int))] M50 (fun v51 M52 =>
  (v51 = (.tuple #[])) ∧
  exI (Mem.ld M52 ⟨k1, (0 + 3), none⟩) .i64 fun n53 =>
  ((0 : Int) ≤ n53) ∧
  ((n53 : Int) < 8) ∧
  stc M52 ⟨b2, ((o2 + 2) + (Int.toNat n53)), none⟩ (.int .i64 ((k7 : Nat) : Int)) fun M54 =>
  K (.tuple #[]) M54) Kp)) :
  ACalls Tryz.prog 163 ([.pointer (some ⟨b0, o0, none⟩), .int .i64 x1, .pointer (some ⟨b2, o2, none⟩), .agg #[.int .i64 x3_0, .int .i64 x3_1, .int .i64 x3_2, .int .i64 x3_3]] : List Value).toArray M K Kp :=
  acalls_vc (C := Cx) good [(4, .regc [0, 0, 2, 6, 14, 0, 32, 0, 0, 256, 128, 1152, 3968, 8064, 16352, 32736, 65504, 131040, 262142, 524287, 1048575, 2097151] (.step 0 (.step 1 (.step 2 (.step 3 (.step 5 (.step 7 (.step 8 (.step 10 (.step 11 (.step 6 (.step 9 (.step 12 (.step 13 (.fork 4 (.step 14 (.step 15 (.step 16 (.step 17 (.step 18 (.step 19 (.step 20 (.step 21 .done)))))))) (.fork 14 (.step 15 (.step 4 (.step 16 (.step 17 (.step 18 (.step 19 (.step 20 (.step 21 .done)))))))) .dead))))))))))))))) []), (6, .reg [0, 0, 2, 0, 1, 17, 63, 127] (.step 0 (.step 1 (.step 3 (.step 4 (.step 5 (.step 2 (.step 6 (.step 7 .done)))))))))] Tryz.func163 (by kernel_rfl) (by kernel_rfl) h

theorem vc_world_World_yield {b0 o0 : Nat} {x1 : Int} {b2 o2 : Nat} {x3_0 : Int} {x3_1 : Int} {x3_2 : Int} {x3_3 : Int} {M : Mem} {K : Value → Mem → Prop} {Kp : List PanicEntry → Mem → Prop} (h :
nwc M (.cells #[(.int .i64 x3_0), (.int .i64 x3_1), (.int .i64 x3_2), (.int .i64 x3_3)] 34 (0, 0)) fun k1 M2 =>
K (.tuple #[]) M2) :
  ACalls Tryz.prog 164 ([.pointer (some ⟨b0, o0, none⟩), .int .i64 x1, .pointer (some ⟨b2, o2, none⟩), .agg #[.int .i64 x3_0, .int .i64 x3_1, .int .i64 x3_2, .int .i64 x3_3]] : List Value).toArray M K Kp :=
  acalls_vc (C := Cx) good [] Tryz.func164 (by kernel_rfl) (by kernel_rfl) h

theorem vc_world_World_send {b0 o0 : Nat} {x1 : Int} {b2 o2 : Nat} {x3_0 : Int} {x3_1 : Int} {x3_2 : Int} {x3_3 : Int} {M : Mem} {K : Value → Mem → Prop} {Kp : List PanicEntry → Mem → Prop} (h :
nwc M (.cells #[(.int .i64 x3_0), (.int .i64 x3_1), (.int .i64 x3_2), (.int .i64 x3_3)] 34 (0, 0)) fun k1 M2 =>
exI (Mem.ld M2 ⟨k1, (0 + 1), none⟩) .i64 fun n3 =>
exI (Mem.ld M2 ⟨k1, (0 + 2), none⟩) .i64 fun n4 =>
((0 : Int) ≤ n4) ∧
((n4 : Int) < 8) ∧
exI (Mem.ld M2 ⟨b2, ((o2 + 2) + (Int.toNat n4)), none⟩) .i64 fun n5 =>
ACalls Tryz.prog 159 #[(.pointer (some ⟨b0, o0, none⟩)), (.int .i64 n3), (.int .i64 n5)] M2 (fun v6 M7 =>
exB (some v6) fun t8 =>
bsp (!t8)
 (exSl (Mem.ld M7 ⟨b0, (o0 + 6), none⟩) fun A9 k10 k11 =>
  exI (Mem.ld M7 ⟨k1, (0 + 1), none⟩) .i64 fun n12 =>
  ((0 : Int) ≤ n12) ∧
  ((n12 : Int) < ((k10 : Nat) : Int)) ∧
  nilc A9 fun k13 k14 =>
  exP (Mem.ld M7 ⟨k13, (k14 + (Int.toNat n12)), none⟩) fun A15 =>
  exI (Mem.ld M7 ⟨k1, (0 + 2), none⟩) .i64 fun n16 =>
  ((0 : Int) ≤ n16) ∧
  ((n16 : Int) < 8) ∧
  exI (Mem.ld M7 ⟨b2, ((o2 + 2) + (Int.toNat n16)), none⟩) .i64 fun n17 =>
  ACalls Tryz.prog 206 #[(.pointer A15), (.agg #[(.int .i64 x1), (.int .i64 0), (.int .i64 n17)])] M7 (fun v18 M19 =>
  (v18 = (.tuple #[])) ∧
  exI (Mem.ld M19 ⟨k1, 0, none⟩) .i64 fun n20 =>
  exI (Mem.ld M19 ⟨k1, (0 + 1), none⟩) .i64 fun n21 =>
  exI (Mem.ld M19 ⟨k1, (0 + 2), none⟩) .i64 fun n22 =>
  exI (Mem.ld M19 ⟨k1, (0 + 3), none⟩) .i64 fun n23 =>
  ACalls Tryz.prog 158 #[(.pointer (some ⟨b0, o0, none⟩)), (.int .i64 x1), (.agg #[(.int .i64 n20), (.int .i64 n21), (.int .i64 n22), (.int .i64 n23)])] M19 (fun v24 M25 =>
  (v24 = (.tuple #[])) ∧
  K (.tuple #[]) M25) Kp) Kp)
 (K (.tuple #[]) M7)) Kp) :
  ACalls Tryz.prog 165 ([.pointer (some ⟨b0, o0, none⟩), .int .i64 x1, .pointer (some ⟨b2, o2, none⟩), .agg #[.int .i64 x3_0, .int .i64 x3_1, .int .i64 x3_2, .int .i64 x3_3]] : List Value).toArray M K Kp :=
  acalls_vc (C := Cx) good [(1, .reg [0, 0, 2, 0, 0, 16, 8, 72, 248, 504, 1023, 2047] (.step 0 (.step 1 (.step 3 (.step 4 (.step 6 (.step 7 (.step 2 (.step 5 (.step 8 (.step 9 (.step 10 (.step 11 .done))))))))))))), (2, .reg [0, 1, 3, 7, 0, 16, 63, 127, 0, 0, 0, 1024, 512, 4608, 15872, 32256, 65280, 131071] (.step 0 (.step 1 (.step 2 (.step 4 (.step 8 (.step 9 (.step 10 (.step 12 (.step 13 (.step 3 (.step 5 (.step 6 (.step 7 (.step 11 (.step 14 (.step 15 (.step 16 (.step 17 .done)))))))))))))))))))] Tryz.func165 (by kernel_rfl) (by kernel_rfl) h

theorem vc_world_World_recv {b0 o0 : Nat} {x1 : Int} {b2 o2 : Nat} {x3_0 : Int} {x3_1 : Int} {x3_2 : Int} {x3_3 : Int} {M : Mem} {K : Value → Mem → Prop} {Kp : List PanicEntry → Mem → Prop} (h :
nwc M (.cells #[(.int .i64 x3_0), (.int .i64 x3_1), (.int .i64 x3_2), (.int .i64 x3_3)] 34 (0, 0)) fun k1 M2 =>
exI (Mem.ld M2 ⟨k1, (0 + 1), none⟩) .i64 fun n3 =>
ACalls Tryz.prog 160 #[(.pointer (some ⟨b0, o0, none⟩)), (.int .i64 n3)] M2 (fun v4 M5 =>
∃ n6 : Int, ∃ n7 : Int, ∃ t8 : Bool, (v4 = (.tuple #[(.int .i64 n6), (.int .i64 n7), (.bool t8)])) ∧
bsp (!t8)
 (exSl (Mem.ld M5 ⟨b0, (o0 + 6), none⟩) fun A9 k10 k11 =>
  exI (Mem.ld M5 ⟨k1, (0 + 1), none⟩) .i64 fun n12 =>
  ((0 : Int) ≤ n12) ∧
  ((n12 : Int) < ((k10 : Nat) : Int)) ∧
  nilc A9 fun k13 k14 =>
  exP (Mem.ld M5 ⟨k13, (k14 + (Int.toNat n12)), none⟩) fun A15 =>
  ACalls Tryz.prog 205 #[(.pointer A15), (.agg #[(.int .i64 x1), (.int .i64 0), (.int .i64 0)])] M5 (fun v16 M17 =>
  (v16 = (.tuple #[])) ∧
  exI (Mem.ld M17 ⟨k1, 0, none⟩) .i64 fun n18 =>
  exI (Mem.ld M17 ⟨k1, (0 + 1), none⟩) .i64 fun n19 =>
  exI (Mem.ld M17 ⟨k1, (0 + 2), none⟩) .i64 fun n20 =>
  exI (Mem.ld M17 ⟨k1, (0 + 3), none⟩) .i64 fun n21 =>
  ACalls Tryz.prog 158 #[(.pointer (some ⟨b0, o0, none⟩)), (.int .i64 x1), (.agg #[(.int .i64 n18), (.int .i64 n19), (.int .i64 n20), (.int .i64 n21)])] M17 (fun v22 M23 =>
  (v22 = (.tuple #[])) ∧
  K (.tuple #[]) M23) Kp) Kp)
 (exI (Mem.ld M5 ⟨k1, (0 + 2), none⟩) .i64 fun n24 =>
  ((0 : Int) ≤ n24) ∧
  ((n24 : Int) < 8) ∧
  exI (Mem.ld M5 ⟨k1, (0 + 3), none⟩) .i64 fun n25 =>
  stc M5 ⟨b2, ((o2 + 2) + (Int.toNat n24)), none⟩ (.int .i64 n6) fun M26 =>
  ((Mem.ld M26 ⟨k1, (0 + 3), none⟩) = (some (.int .i64 n25))) ∧
  ((0 : Int) ≤ n25) ∧
  ((n25 : Int) < 8) ∧
  stc M26 ⟨b2, ((o2 + 2) + (Int.toNat n25)), none⟩ (.int .i64 n7) fun M27 =>
  ((Mem.ld M27 ⟨k1, (0 + 3), none⟩) = (some (.int .i64 n25))) ∧
  K (.tuple #[]) M27)) Kp) :
  ACalls Tryz.prog 166 ([.pointer (some ⟨b0, o0, none⟩), .int .i64 x1, .pointer (some ⟨b2, o2, none⟩), .agg #[.int .i64 x3_0, .int .i64 x3_1, .int .i64 x3_2, .int .i64 x3_3]] : List Value).toArray M K Kp :=
  acalls_vc (C := Cx) good [(3, .reg [0, 1, 3, 7, 0, 16, 63, 127, 0, 256, 1023] (.step 0 (.step 1 (.step 2 (.step 4 (.step 8 (.step 9 (.step 3 (.step 5 (.step 6 (.step 7 (.step 10 .done)))))))))))), (5, .reg [0, 0, 2, 0, 0, 16, 0, 0, 1, 257, 839, 1863, 8, 4104, 16383, 32767] (.step 0 (.step 1 (.step 3 (.step 4 (.step 6 (.step 7 (.step 8 (.step 9 (.step 12 (.step 13 (.step 2 (.step 10 (.prom 5 (.step 11 (.step 14 (.step 15 .done)))))))))))))))))] Tryz.func166 (by kernel_rfl) (by kernel_rfl) h

theorem vc_world_World_shut {b0 o0 : Nat} {x1 : Int} {b2 o2 : Nat} {x3_0 : Int} {x3_1 : Int} {x3_2 : Int} {x3_3 : Int} {M : Mem} {K : Value → Mem → Prop} {Kp : List PanicEntry → Mem → Prop} (h :
nwc M (.cells #[(.int .i64 x3_0), (.int .i64 x3_1), (.int .i64 x3_2), (.int .i64 x3_3)] 34 (0, 0)) fun k1 M2 =>
exSl (Mem.ld M2 ⟨b0, (o0 + 6), none⟩) fun A3 k4 k5 =>
exI (Mem.ld M2 ⟨k1, (0 + 1), none⟩) .i64 fun n6 =>
((0 : Int) ≤ n6) ∧
((n6 : Int) < ((k4 : Nat) : Int)) ∧
nilc A3 fun k7 k8 =>
exP (Mem.ld M2 ⟨k7, (k8 + (Int.toNat n6)), none⟩) fun A9 =>
ACalls Tryz.prog 213 #[(.pointer A9)] M2 (fun v10 M11 =>
∃ A12 : Option Addr, ∃ k13 : Nat, ∃ k14 : Nat, ∃ A15 : Option Addr, ∃ k16 : Nat, ∃ k17 : Nat, ∃ n18 : Int, (v10 = (.tuple #[(.slice A12 k13 k14), (.slice A15 k16 k17), (.int .i64 n18)])) ∧
bsp (n18 != 0)
 (Kp [{ v := (.iface 256 (.int .i64 (-2))), recovered := false }] M11)
 (bsp (decide ((((k16 : Nat) : Int) : Int) > 0))
   (Kp [{ v := (.iface 256 (.int .i64 (-1))), recovered := false }] M11)
   (∃ I19 : Nat → List Value → Mem → Prop, (∃ k20 : Nat, I19 k20 [(.int .i64 0)] M11) ∧
    ∀ k21 : Nat, ∀ junk22 : Nat → Value, ∀ n23 : Int, ∀ M24 : Mem, (I19 k21 [(.int .i64 n23)] M24) → bsp (decide ((n23 : Int) < ((k13 : Nat) : Int)))
     (((0 : Int) ≤ n23) ∧
      ((n23 : Int) < ((k13 : Nat) : Int)) ∧
      nilc A12 fun k25 k26 =>
      exI (Mem.ld M24 ⟨k25, (k26 + ((Int.toNat n23) * 3)), none⟩) .i64 fun n27 =>
      exI (Mem.ld M24 ⟨k25, ((k26 + ((Int.toNat n23) * 3)) + 1), none⟩) .i64 fun n28 =>
      exI (Mem.ld M24 ⟨k25, ((k26 + ((Int.toNat n23) * 3)) + 2), none⟩) .i64 fun n29 =>
      nwc M24 (.cells #[(.int .i64 0), (.int .i64 0), (.int .i64 0)] 298 (0, 0)) fun k30 M31 =>
      stc M31 ⟨k30, 0, none⟩ (.int .i64 n27) fun M32 =>
      stc M32 ⟨k30, (0 + 1), none⟩ (.int .i64 n28) fun M33 =>
      stc M33 ⟨k30, (0 + 2), none⟩ (.int .i64 n29) fun M34 =>
      exSl (Mem.ld M34 ⟨b0, (o0 + 4), none⟩) fun A35 k36 k37 =>
      exI (Mem.ld M34 ⟨k30, 0, none⟩) .i64 fun n38 =>
      ((0 : Int) ≤ n38) ∧
      ((n38 : Int) < ((k36 : Nat) : Int)) ∧
      nilc A35 fun k39 k40 =>
      exP (Mem.ld M34 ⟨k39, (k40 + (Int.toNat n38)), none⟩) fun A41 =>
      nilc A41 fun k42 k43 =>
      exI (Mem.ld M34 ⟨k42, k43, none⟩) .i64 fun n44 =>
      bsp (n44 == 2)
       (stc M34 ⟨k30, (0 + 2), none⟩ (.int .i64 0) fun M45 =>
        exI (Mem.ld M45 ⟨k30, 0, none⟩) .i64 fun n46 =>
        exI (Mem.ld M45 ⟨k30, (0 + 1), none⟩) .i64 fun n47 =>
        exI (Mem.ld M45 ⟨k30, (0 + 2), none⟩) .i64 fun n48 =>
        ACalls Tryz.prog 208 #[(.pointer (some ⟨b0, o0, none⟩)), (.agg #[(.int .i64 n46), (.int .i64 n47), (.int .i64 n48)]), (.int .i64 0)] M45 (fun v49 M50 =>
        (v49 = (.tuple #[])) ∧
        ∃ k51 : Nat, (k51 < k21) ∧
        I19 k51 [(.int .i64 (IntKind.wrap .i64 (n23 + 1)))] M50) Kp)
       (∃ k52 : Nat, (k52 < k21) ∧
        I19 k52 [(.int .i64 (IntKind.wrap .i64 (n23 + 1)))] M34))
     (K (.tuple #[]) M24)))) Kp) :
  ACalls Tryz.prog 167 ([.pointer (some ⟨b0, o0, none⟩), .int .i64 x1, .pointer (some ⟨b2, o2, none⟩), .agg #[.int .i64 x3_0, .int .i64 x3_1, .int .i64 x3_2, .int .i64 x3_3]] : List Value).toArray M K Kp :=
  acalls_vc (C := Cx) good [(1, .reg [0, 1, 3, 7, 0, 16, 63, 127, 255, 511, 1023, 1023, 1023, 2047, 12287, 32767] (.step 0 (.step 1 (.step 2 (.step 4 (.step 3 (.step 5 (.step 6 (.step 7 (.step 8 (.step 9 (.step 10 (.step 11 (.step 12 (.step 13 (.step 14 (.step 15 .done))))))))))))))))), (2000001, .loop [(37, .c (.int .i64))]), (9, .reg [0, 1, 3, 7, 0, 16, 63, 127, 255, 511, 1023, 2047] (.step 0 (.step 1 (.step 2 (.step 4 (.step 3 (.step 5 (.step 6 (.step 7 (.step 8 (.step 9 (.step 10 (.step 11 .done)))))))))))))] Tryz.func167 (by kernel_rfl) (by kernel_rfl) h

theorem vc_world_World_sleep {b0 o0 : Nat} {x1 : Int} {b2 o2 : Nat} {x3_0 : Int} {x3_1 : Int} {x3_2 : Int} {x3_3 : Int} {M : Mem} {K : Value → Mem → Prop} {Kp : List PanicEntry → Mem → Prop} (h :
nwc M (.cells #[(.int .i64 x3_0), (.int .i64 x3_1), (.int .i64 x3_2), (.int .i64 x3_3)] 34 (0, 0)) fun k1 M2 =>
exI (Mem.ld M2 ⟨k1, (0 + 1), none⟩) .i64 fun n3 =>
((0 : Int) ≤ n3) ∧
((n3 : Int) < 8) ∧
exI (Mem.ld M2 ⟨b2, ((o2 + 2) + (Int.toNat n3)), none⟩) .i64 fun n4 =>
bsp (decide (((if (1048576 : Int) < n4 then 1048576 else n4) : Int) > 0))
 (exI (Mem.ld M2 ⟨b0, (o0 + 5), none⟩) .u64 fun n5 =>
  ACalls Tryz.prog 214 #[(.pointer (some ⟨b0, (o0 + 8), none⟩)), (.int .u64 (IntKind.wrap .u64 (n5 + (IntKind.wrap .u64 (if (1048576 : Int) < n4 then 1048576 else n4))))), (.int .i64 x1)] M2 (fun v6 M7 =>
  exI (some v6) .u64 fun n8 =>
  exSl (Mem.ld M7 ⟨b0, (o0 + 4), none⟩) fun A9 k10 k11 =>
  ((0 : Int) ≤ x1) ∧
  ((x1 : Int) < ((k10 : Nat) : Int)) ∧
  nilc A9 fun k12 k13 =>
  exP (Mem.ld M7 ⟨k12, (k13 + (Int.toNat x1)), none⟩) fun A14 =>
  nilc A14 fun k15 k16 =>
  stc M7 ⟨k15, k16, none⟩ (.int .i64 3) fun M17 =>
  K (.tuple #[]) M17) Kp)
 (K (.tuple #[]) M2)) :
  ACalls Tryz.prog 168 ([.pointer (some ⟨b0, o0, none⟩), .int .i64 x1, .pointer (some ⟨b2, o2, none⟩), .agg #[.int .i64 x3_0, .int .i64 x3_1, .int .i64 x3_2, .int .i64 x3_3]] : List Value).toArray M K Kp :=
  acalls_vc (C := Cx) good [(1, .reg [0, 0, 2, 1, 9, 31, 63, 127, 255] (.step 0 (.step 1 (.step 3 (.step 4 (.step 2 (.step 5 (.step 6 (.step 7 (.step 8 .done)))))))))), (3, .reg [0, 1, 3, 0, 8, 24, 56, 0, 128, 504, 0, 2047] (.step 0 (.step 1 (.step 2 (.step 3 (.step 4 (.step 5 (.step 7 (.step 8 (.step 10 (.step 6 (.step 9 (.step 11 .done)))))))))))))] Tryz.func168 (by kernel_rfl) (by kernel_rfl) h

theorem vc_world_World_lock {b0 o0 : Nat} {x1 : Int} {b2 o2 : Nat} {x3_0 : Int} {x3_1 : Int} {x3_2 : Int} {x3_3 : Int} {M : Mem} {K : Value → Mem → Prop} {Kp : List PanicEntry → Mem → Prop} (h :
nwc M (.cells #[(.int .i64 x3_0), (.int .i64 x3_1), (.int .i64 x3_2), (.int .i64 x3_3)] 34 (0, 0)) fun k1 M2 =>
exSl (Mem.ld M2 ⟨b0, (o0 + 7), none⟩) fun A3 k4 k5 =>
exI (Mem.ld M2 ⟨k1, (0 + 1), none⟩) .i64 fun n6 =>
((0 : Int) ≤ n6) ∧
((n6 : Int) < ((k4 : Nat) : Int)) ∧
nilc A3 fun k7 k8 =>
exP (Mem.ld M2 ⟨k7, (k8 + (Int.toNat n6)), none⟩) fun A9 =>
ACalls Tryz.prog 215 #[(.pointer A9), (.int .i64 x1)] M2 (fun v10 M11 =>
exB (some v10) fun t12 =>
bsp (!t12)
 (exI (Mem.ld M11 ⟨k1, 0, none⟩) .i64 fun n13 =>
  exI (Mem.ld M11 ⟨k1, (0 + 1), none⟩) .i64 fun n14 =>
  exI (Mem.ld M11 ⟨k1, (0 + 2), none⟩) .i64 fun n15 =>
  exI (Mem.ld M11 ⟨k1, (0 + 3), none⟩) .i64 fun n16 =>
  ACalls Tryz.prog 158 #[(.pointer (some ⟨b0, o0, none⟩)), (.int .i64 x1), (.agg #[(.int .i64 n13), (.int .i64 n14), (.int .i64 n15), (.int .i64 n16)])] M11 (fun v17 M18 =>
  (v17 = (.tuple #[])) ∧
  K (.tuple #[]) M18) Kp)
 (K (.tuple #[]) M11)) Kp) :
  ACalls Tryz.prog 169 ([.pointer (some ⟨b0, o0, none⟩), .int .i64 x1, .pointer (some ⟨b2, o2, none⟩), .agg #[.int .i64 x3_0, .int .i64 x3_1, .int .i64 x3_2, .int .i64 x3_3]] : List Value).toArray M K Kp :=
  acalls_vc (C := Cx) good [(1, .reg [0, 1, 3, 7, 0, 16, 63, 127, 0, 511, 1023] (.step 0 (.step 1 (.step 2 (.step 4 (.step 8 (.step 3 (.step 5 (.step 6 (.step 7 (.step 9 (.step 10 .done))))))))))))] Tryz.func169 (by kernel_rfl) (by kernel_rfl) h

theorem vc_world_World_unlock {b0 o0 : Nat} {x1 : Int} {b2 o2 : Nat} {x3_0 : Int} {x3_1 : Int} {x3_2 : Int} {x3_3 : Int} {M : Mem} {K : Value → Mem → Prop} {Kp : List PanicEntry → Mem → Prop} (h :
nwc M (.cells #[(.int .i64 x3_0), (.int .i64 x3_1), (.int .i64 x3_2), (.int .i64 x3_3)] 34 (0, 0)) fun k1 M2 =>
exSl (Mem.ld M2 ⟨b0, (o0 + 7), none⟩) fun A3 k4 k5 =>
exI (Mem.ld M2 ⟨k1, (0 + 1), none⟩) .i64 fun n6 =>
((0 : Int) ≤ n6) ∧
((n6 : Int) < ((k4 : Nat) : Int)) ∧
nilc A3 fun k7 k8 =>
exP (Mem.ld M2 ⟨k7, (k8 + (Int.toNat n6)), none⟩) fun A9 =>
ACalls Tryz.prog 216 #[(.pointer A9), (.int .i64 x1)] M2 (fun v10 M11 =>
∃ n12 : Int, ∃ n13 : Int, (v10 = (.tuple #[(.int .i64 n12), (.int .i64 n13)])) ∧
bsp (n13 != 0)
 (Kp [{ v := (.iface 256 (.int .i64 (-3))), recovered := false }] M11)
 (bsp (n12 != (-1))
   (ACalls Tryz.prog 90 #[(.pointer (some ⟨b0, o0, none⟩)), (.int .i64 n12)] M11 (fun v14 M15 =>
    (v14 = (.tuple #[])) ∧
    K (.tuple #[]) M15) Kp)
   (K (.tuple #[]) M11))) Kp) :
  ACalls Tryz.prog 170 ([.pointer (some ⟨b0, o0, none⟩), .int .i64 x1, .pointer (some ⟨b2, o2, none⟩), .agg #[.int .i64 x3_0, .int .i64 x3_1, .int .i64 x3_2, .int .i64 x3_3]] : List Value).toArray M K Kp :=
  acalls_vc (C := Cx) good [(1, .reg [0, 1, 3, 7, 0, 16, 63, 127, 0, 511, 1023, 2047, 2047, 4095, 16383] (.step 0 (.step 1 (.step 2 (.step 4 (.step 8 (.step 3 (.step 5 (.step 6 (.step 7 (.step 9 (.step 10 (.step 11 (.step 12 (.step 13 (.step 14 .done))))))))))))))))] Tryz.func170 (by kernel_rfl) (by kernel_rfl) h

theorem vc_world_World_emit {b0 o0 : Nat} {x1 : Int} {b2 o2 : Nat} {x3_0 : Int} {x3_1 : Int} {x3_2 : Int} {x3_3 : Int} {M : Mem} {K : Value → Mem → Prop} {Kp : List PanicEntry → Mem → Prop} (h :
nwc M (.cells #[(.int .i64 x3_0), (.int .i64 x3_1), (.int .i64 x3_2), (.int .i64 x3_3)] 34 (0, 0)) fun k1 M2 =>
exSl (Mem.ld M2 ⟨b0, (o0 + 10), none⟩) fun A3 k4 k5 =>
bsp (decide ((((k4 : Nat) : Int) : Int) ≥ 1000))
 (Kp [{ v := (.iface 256 (.int .i64 (-6))), recovered := false }] M2)
 (exSl (Mem.ld M2 ⟨b0, (o0 + 10), none⟩) fun A6 k7 k8 =>
  exI (Mem.ld M2 ⟨k1, (0 + 1), none⟩) .i64 fun n9 =>
  ((0 : Int) ≤ n9) ∧
  ((n9 : Int) < 8) ∧
  exI (Mem.ld M2 ⟨b2, ((o2 + 2) + (Int.toNat n9)), none⟩) .i64 fun n10 =>
  nwc M2 (.cells #[(.int .i64 n10)] 2 (0, 0)) fun k11 M12 =>
  semK Tryz.prog (Go.Builtin.append_ #[59, 59] 59 #[(.slice A6 k7 k8), (.slice (some ⟨k11, 0, none⟩) 1 1)]) M12 (fun v13 M14 =>
  exSl (some v13) fun A15 k16 k17 =>
  stc M14 ⟨b0, (o0 + 10), none⟩ (.slice A15 k16 k17) fun M18 =>
  K (.tuple #[]) M18) Kp)) :
  ACalls Tryz.prog 171 ([.pointer (some ⟨b0, o0, none⟩), .int .i64 x1, .pointer (some ⟨b2, o2, none⟩), .agg #[.int .i64 x3_0, .int .i64 x3_1, .int .i64 x3_2, .int .i64 x3_3]] : List Value).toArray M K Kp :=
  acalls_vc (C := Cx) good [(3, .reg [0, 0, 2, 6, 14, 0, 0, 64, 32, 288, 992, 2016, 4064, 8190, 16383, 32767, 65535] (.step 0 (.step 1 (.step 2 (.step 3 (.step 5 (.step 6 (.step 8 (.step 9 (.step 4 (.step 7 (.step 10 (.step 11 (.step 12 (.step 13 (.step 14 (.step 15 (.step 16 .done))))))))))))))))))] Tryz.func171 (by kernel_rfl) (by kernel_rfl) h

theorem vc_world_World_stop {b0 o0 : Nat} {x1 : Int} {b2 o2 : Nat} {x3_0 : Int} {x3_1 : Int} {x3_2 : Int} {x3_3 : Int} {M : Mem} {K : Value → Mem → Prop} {Kp : List PanicEntry → Mem → Prop} (h :
nwc M (.cells #[(.int .i64 x3_0), (.int .i64 x3_1), (.int .i64 x3_2), (.int .i64 x3_3)] 34 (0, 0)) fun k1 M2 =>
exI (Mem.ld M2 ⟨k1, (0 + 1), none⟩) .i64 fun n3 =>
Kp [{ v := (.iface 256 (.int .i64 n3)), recovered := false }] M2) :
  ACalls Tryz.prog 172 ([.pointer (some ⟨b0, o0, none⟩), .int .i64 x1, .pointer (some ⟨b2, o2, none⟩), .agg #[.int .i64 x3_0, .int .i64 x3_1, .int .i64 x3_2, .int .i64 x3_3]] : List Value).toArray M K Kp :=
  acalls_vc (C := Cx) good [] Tryz.func172 (by kernel_rfl) (by kernel_rfl) h

theorem vc_heap_Heap_swap {b0 o0 : Nat} {x1 : Int} {x2 : Int} {M : Mem} {K : Value → Mem → Prop} {Kp : List PanicEntry → Mem → Prop} (h :
exSl (Mem.ld M ⟨b0, o0, none⟩) fun A1 k2 k3 =>
exSl (Mem.ld M ⟨b0, o0, none⟩) fun A4 k5 k6 =>
exSl (Mem.ld M ⟨b0, o0, none⟩) fun A7 k8 k9 =>
((0 : Int) ≤ x2) ∧
((x2 : Int) < ((k8 : Nat) : Int)) ∧
nilc A7 fun k10 k11 =>
exI (Mem.ld M ⟨k10, (k11 + ((Int.toNat x2) * 3)), none⟩) .u64 fun n12 =>
exI (Mem.ld M ⟨k10, ((k11 + ((Int.toNat x2) * 3)) + 1), none⟩) .u64 fun n13 =>
exI (Mem.ld M ⟨k10, ((k11 + ((Int.toNat x2) * 3)) + 2), none⟩) .i64 fun n14 =>
exSl (Mem.ld M ⟨b0, o0, none⟩) fun A15 k16 k17 =>
((0 : Int) ≤ x1) ∧
((x1 : Int) < ((k16 : Nat) : Int)) ∧
nilc A15 fun k18 k19 =>
exI (Mem.ld M ⟨k18, (k19 + ((Int.toNat x1) * 3)), none⟩) .u64 fun n20 =>
exI (Mem.ld M ⟨k18, ((k19 + ((Int.toNat x1) * 3)) + 1), none⟩) .u64 fun n21 =>
exI (Mem.ld M ⟨k18, ((k19 + ((Int.toNat x1) * 3)) + 2), none⟩) .i64 fun n22 =>
((0 : Int) ≤ x1) ∧
((x1 : Int) < ((k2 : Nat) : Int)) ∧
nilc A1 fun k23 k24 =>
stc M ⟨k23, (k24 + ((Int.toNat x1) * 3)), none⟩ (.int .u64 n12) fun M25 =>
stc M25 ⟨k23, ((k24 + ((Int.toNat x1) * 3)) + 1), none⟩ (.int .u64 n13) fun M26 =>
stc M26 ⟨k23, ((k24 + ((Int.toNat x1) * 3)) + 2), none⟩ (.int .i64 n14) fun M27 =>
((0 : Int) ≤ x2) ∧
((x2 : Int) < ((k5 : Nat) : Int)) ∧
nilc A4 fun k28 k29 =>
stc M27 ⟨k28, (k29 + ((Int.toNat x2) * 3)), none⟩ (.int .u64 n20) fun M30 =>
stc M30 ⟨k28, ((k29 + ((Int.toNat x2) * 3)) + 1), none⟩ (.int .u64 n21) fun M31 =>
stc M31 ⟨k28, ((k29 + ((Int.toNat x2) * 3)) + 2), none⟩ (.int .i64 n22) fun M32 =>
K (.tuple #[]) M32) :
  ACalls Tryz.prog 136 ([.pointer (some ⟨b0, o0, none⟩), .int .i64 x1, .int .i64 x2] : List Value).toArray M K Kp :=
  acalls_vc (C := Cx) good [(0, .reg [0, 1, 3, 7, 0, 0, 32, 96, 224, 0, 0, 1024, 3072, 7168, 0, 31744, 64512, 0, 131072, 393216, 917504, 0, 4063232, 8257536, 16776703, 33553919, 67108863, 134217727] (.step 0 (.step 1 (.step 2 (.step 4 (.step 5 (.step 6 (.step 7 (.step 9 (.step 10 (.step 11 (.step 12 (.step 14 (.step 17 (.step 18 (.step 19 (.step 21 (.step 3 (.step 8 (.step 13 (.step 15 (.step 16 (.step 20 (.step 22 (.step 23 (.step 24 (.step 25 (.step 26 (.step 27 .done)))))))))))))))))))))))))))))] Tryz.func136 (by kernel_rfl) (by kernel_rfl) h

theorem vc_heap_Heap_down {b0 o0 : Nat} {x1 : Int} {M : Mem} {K : Value → Mem → Prop} {Kp : List PanicEntry → Mem → Prop} (h :
ACalls Tryz.prog 185 #[(.pointer (some ⟨b0, o0, none⟩)), (.int .i64 x1)] M (fun v1 M2 =>
exI (some v1) .i64 fun n3 =>
∃ I4 : Nat → List Value → Mem → Prop, (∃ k5 : Nat, I4 k5 [(.int .i64 x1), (.int .i64 n3)] M2) ∧
∀ k6 : Nat, ∀ junk7 : Nat → Value, ∀ n8 : Int, ∀ n9 : Int, ∀ M10 : Mem, (I4 k6 [(.int .i64 n8), (.int .i64 n9)] M10) → bsp (n9 != n8)
 (ACalls Tryz.prog 136 #[(.pointer (some ⟨b0, o0, none⟩)), (.int .i64 n8), (.int .i64 n9)] M10 (fun v11 M12 =>
  (v11 = (.tuple #[])) ∧
  ACalls Tryz.prog 185 #[(.pointer (some ⟨b0, o0, none⟩)), (.int .i64 n9)] M12 (fun v13 M14 =>
  exI (some v13) .i64 fun n15 =>
  ∃ k16 : Nat, (k16 < k6) ∧
  I4 k16 [(.int .i64 n9), (.int .i64 n15)] M14) Kp) Kp)
 (K (.tuple #[]) M10)) Kp) :
  ACalls Tryz.prog 137 ([.pointer (some ⟨b0, o0, none⟩), .int .i64 x1] : List Value).toArray M K Kp :=
  acalls_vc (C := Cx) good [(2000000, .loop [(1, .c (.int .i64)), (4, .c (.int .i64))])] Tryz.func137 (by kernel_rfl) (by kernel_rfl) h

theorem vc_heap_Heap_up {b0 o0 : Nat} {x1 : Int} {M : Mem} {K : Value → Mem → Prop} {Kp : List PanicEntry → Mem → Prop} (h :
∃ I1 : Nat → List Value → Mem → Prop, (∃ k2 : Nat, I1 k2 [(.int .i64 x1)] M) ∧
∀ k3 : Nat, ∀ junk4 : Nat → Value, ∀ n5 : Int, ∀ M6 : Mem, (I1 k3 [(.int .i64 n5)] M6) → bsp (decide ((n5 : Int) > 0))
 (((4 : Int) ≠ 0) ∧
  exSl (Mem.ld M6 ⟨b0, o0, none⟩) fun A7 k8 k9 =>
  ((0 : Int) ≤ n5) ∧
  ((n5 : Int) < ((k8 : Nat) : Int)) ∧
  nilc A7 fun k10 k11 =>
  exI (Mem.ld M6 ⟨k10, (k11 + ((Int.toNat n5) * 3)), none⟩) .u64 fun n12 =>
  exI (Mem.ld M6 ⟨k10, ((k11 + ((Int.toNat n5) * 3)) + 1), none⟩) .u64 fun n13 =>
  exI (Mem.ld M6 ⟨k10, ((k11 + ((Int.toNat n5) * 3)) + 2), none⟩) .i64 fun n14 =>
  exSl (Mem.ld M6 ⟨b0, o0, none⟩) fun A15 k16 k17 =>
  ((0 : Int) ≤ (IntKind.wrap .i64 (Int.tdiv (IntKind.wrap .i64 (n5 - 1)) 4))) ∧
  (((IntKind.wrap .i64 (Int.tdiv (IntKind.wrap .i64 (n5 - 1)) 4)) : Int) < ((k16 : Nat) : Int)) ∧
  nilc A15 fun k18 k19 =>
  exI (Mem.ld M6 ⟨k18, (k19 + ((Int.toNat (IntKind.wrap .i64 (Int.tdiv (IntKind.wrap .i64 (n5 - 1)) 4))) * 3)), none⟩) .u64 fun n20 =>
  exI (Mem.ld M6 ⟨k18, ((k19 + ((Int.toNat (IntKind.wrap .i64 (Int.tdiv (IntKind.wrap .i64 (n5 - 1)) 4))) * 3)) + 1), none⟩) .u64 fun n21 =>
  exI (Mem.ld M6 ⟨k18, ((k19 + ((Int.toNat (IntKind.wrap .i64 (Int.tdiv (IntKind.wrap .i64 (n5 - 1)) 4))) * 3)) + 2), none⟩) .i64 fun n22 =>
  ACalls Tryz.prog 186 #[(.agg #[(.int .u64 n12), (.int .u64 n13), (.int .i64 n14)]), (.agg #[(.int .u64 n20), (.int .u64 n21), (.int .i64 n22)])] M6 (fun v23 M24 =>
  exB (some v23) fun t25 =>
  bsp t25
   (((4 : Int) ≠ 0) ∧
    ACalls Tryz.prog 136 #[(.pointer (some ⟨b0, o0, none⟩)), (.int .i64 n5), (.int .i64 (IntKind.wrap .i64 (Int.tdiv (IntKind.wrap .i64 (n5 - 1)) 4)))] M24 (fun v26 M27 =>
    (v26 = (.tuple #[])) ∧
    ((4 : Int) ≠ 0) ∧
    ∃ k28 : Nat, (k28 < k3) ∧
    I1 k28 [(.int .i64 (IntKind.wrap .i64 (Int.tdiv (IntKind.wrap .i64 (n5 - 1)) 4)))] M27) Kp)
   (K (.tuple #[]) M24)) Kp)
 (K (.tuple #[]) M6)) :
  ACalls Tryz.prog 138 ([.pointer (some ⟨b0, o0, none⟩), .int .i64 x1] : List Value).toArray M K Kp :=
  acalls_vc (C := Cx) good [(2000000, .loop [(1, .c (.int .i64))]), (0, .reg [0, 1, 3, 7, 15, 31, 63, 7, 255, 511, 7, 1031, 3079, 7175, 7, 16391, 49159, 130055, 261127, 524287, 1048575] (.step 0 (.step 1 (.step 2 (.step 3 (.step 4 (.step 5 (.step 7 (.step 10 (.step 11 (.step 12 (.step 14 (.step 15 (.step 16 (.step 6 (.step 8 (.step 9 (.step 13 (.step 17 (.step 18 (.step 19 (.step 20 .done))))))))))))))))))))))] Tryz.func138 (by kernel_rfl) (by kernel_rfl) h

theorem vc_frame_Frame_nop {b0 o0 : Nat} {x1_0 : Int} {x1_1 : Int} {x1_2 : Int} {x1_3 : Int} {M : Mem} {K : Value → Mem → Prop} {Kp : List PanicEntry → Mem → Prop} (h :
nwc M (.cells #[(.int .i64 x1_0), (.int .i64 x1_1), (.int .i64 x1_2), (.int .i64 x1_3)] 34 (0, 0)) fun k1 M2 =>
K (.tuple #[]) M2) :
  ACalls Tryz.prog 195 ([.pointer (some ⟨b0, o0, none⟩), .agg #[.int .i64 x1_0, .int .i64 x1_1, .int .i64 x1_2, .int .i64 x1_3]] : List Value).toArray M K Kp :=
  acalls_vc (C := Cx) good [] Tryz.func195 (by kernel_rfl) (by kernel_rfl) h

theorem vc_frame_Frame_constant {b0 o0 : Nat} {x1_0 : Int} {x1_1 : Int} {x1_2 : Int} {x1_3 : Int} {M : Mem} {K : Value → Mem → Prop} {Kp : List PanicEntry → Mem → Prop} (h :
nwc M (.cells #[(.int .i64 x1_0), (.int .i64 x1_1), (.int .i64 x1_2), (.int .i64 x1_3)] 34 (0, 0)) fun k1 M2 =>
exI (Mem.ld M2 ⟨k1, (0 + 1), none⟩) .i64 fun n3 =>
exI (Mem.ld M2 ⟨k1, (0 + 2), none⟩) .i64 fun n4 =>
((0 : Int) ≤ n3) ∧
((n3 : Int) < 8) ∧
stc M2 ⟨b0, ((o0 + 2) + (Int.toNat n3)), none⟩ (.int .i64 n4) fun M5 =>
K (.tuple #[]) M5) :
  ACalls Tryz.prog 196 ([.pointer (some ⟨b0, o0, none⟩), .agg #[.int .i64 x1_0, .int .i64 x1_1, .int .i64 x1_2, .int .i64 x1_3]] : List Value).toArray M K Kp :=
  acalls_vc (C := Cx) good [(1, .reg [0, 0, 2, 0, 8, 1, 33, 127, 255] (.step 0 (.step 1 (.step 3 (.step 5 (.step 6 (.step 2 (.step 4 (.step 7 (.step 8 .done))))))))))] Tryz.func196 (by kernel_rfl) (by kernel_rfl) h

theorem vc_frame_Frame_move {b0 o0 : Nat} {x1_0 : Int} {x1_1 : Int} {x1_2 : Int} {x1_3 : Int} {M : Mem} {K : Value → Mem → Prop} {Kp : List PanicEntry → Mem → Prop} (h :
nwc M (.cells #[(.int .i64 x1_0), (.int .i64 x1_1), (.int .i64 x1_2), (.int .i64 x1_3)] 34 (0, 0)) fun k1 M2 =>
exI (Mem.ld M2 ⟨k1, (0 + 1), none⟩) .i64 fun n3 =>
exI (Mem.ld M2 ⟨k1, (0 + 2), none⟩) .i64 fun n4 =>
((0 : Int) ≤ n4) ∧
((n4 : Int) < 8) ∧
exI (Mem.ld M2 ⟨b0, ((o0 + 2) + (Int.toNat n4)), none⟩) .i64 fun n5 =>
((0 : Int) ≤ n3) ∧
((n3 : Int) < 8) ∧
stc M2 ⟨b0, ((o0 + 2) + (Int.toNat n3)), none⟩ (.int .i64 n5) fun M6 =>
K (.tuple #[]) M6) :
  ACalls Tryz.prog 197 ([.pointer (some ⟨b0, o0, none⟩), .agg #[.int .i64 x1_0, .int .i64 x1_1, .int .i64 x1_2, .int .i64 x1_3]] : List Value).toArray M K Kp :=
  acalls_vc (C := Cx) good [(1, .reg [0, 0, 2, 0, 0, 16, 8, 72, 248, 504, 1, 1025, 4095, 8191] (.step 0 (.step 1 (.step 3 (.step 4 (.step 6 (.step 7 (.step 10 (.step 11 (.step 2 (.step 5 (.step 8 (.step 9 (.step 12 (.step 13 .done)))))))))))))))] Tryz.func197 (by kernel_rfl) (by kernel_rfl) h

theorem vc_frame_Frame_add {b0 o0 : Nat} {x1_0 : Int} {x1_1 : Int} {x1_2 : Int} {x1_3 : Int} {M : Mem} {K : Value → Mem → Prop} {Kp : List PanicEntry → Mem → Prop} (h :
nwc M (.cells #[(.int .i64 x1_0), (.int .i64 x1_1), (.int .i64 x1_2), (.int .i64 x1_3)] 34 (0, 0)) fun k1 M2 =>
exI (Mem.ld M2 ⟨k1, (0 + 1), none⟩) .i64 fun n3 =>
exI (Mem.ld M2 ⟨k1, (0 + 2), none⟩) .i64 fun n4 =>
((0 : Int) ≤ n4) ∧
((n4 : Int) < 8) ∧
exI (Mem.ld M2 ⟨b0, ((o0 + 2) + (Int.toNat n4)), none⟩) .i64 fun n5 =>
exI (Mem.ld M2 ⟨k1, (0 + 3), none⟩) .i64 fun n6 =>
((0 : Int) ≤ n6) ∧
((n6 : Int) < 8) ∧
exI (Mem.ld M2 ⟨b0, ((o0 + 2) + (Int.toNat n6)), none⟩) .i64 fun n7 =>
((0 : Int) ≤ n3) ∧
((n3 : Int) < 8) ∧
stc M2 ⟨b0, ((o0 + 2) + (Int.toNat n3)), none⟩ (.int .i64 (IntKind.wrap .i64 (n5 + n7))) fun M8 =>
K (.tuple #[]) M8) :
  ACalls Tryz.prog 198 ([.pointer (some ⟨b0, o0, none⟩), .agg #[.int .i64 x1_0, .int .i64 x1_1, .int .i64 x1_2, .int .i64 x1_3]] : List Value).toArray M K Kp :=
  acalls_vc (C := Cx) good [(1, .reg [0, 0, 2, 0, 0, 16, 8, 72, 248, 504, 0, 0, 2048, 1024, 9216, 31744, 64512, 131064, 1, 262145, 1048575, 2097151] (.step 0 (.step 1 (.step 3 (.step 4 (.step 6 (.step 7 (.step 10 (.step 11 (.step 13 (.step 14 (.step 18 (.step 19 (.step 2 (.step 5 (.step 8 (.step 9 (.step 12 (.step 15 (.step 16 (.step 17 (.step 20 (.step 21 .done)))))))))))))))))))))))] Tryz.func198 (by kernel_rfl) (by kernel_rfl) h

theorem vc_frame_Frame_sub {b0 o0 : Nat} {x1_0 : Int} {x1_1 : Int} {x1_2 : Int} {x1_3 : Int} {M : Mem} {K : Value → Mem → Prop} {Kp : List PanicEntry → Mem → Prop} (h :
nwc M (.cells #[(.int .i64 x1_0), (.int .i64 x1_1), (.int .i64 x1_2), (.int .i64 x1_3)] 34 (0, 0)) fun k1 M2 =>
exI (Mem.ld M2 ⟨k1, (0 + 1), none⟩) .i64 fun n3 =>
exI (Mem.ld M2 ⟨k1, (0 + 2), none⟩) .i64 fun n4 =>
((0 : Int) ≤ n4) ∧
((n4 : Int) < 8) ∧
exI (Mem.ld M2 ⟨b0, ((o0 + 2) + (Int.toNat n4)), none⟩) .i64 fun n5 =>
exI (Mem.ld M2 ⟨k1, (0 + 3), none⟩) .i64 fun n6 =>
((0 : Int) ≤ n6) ∧
((n6 : Int) < 8) ∧
exI (Mem.ld M2 ⟨b0, ((o0 + 2) + (Int.toNat n6)), none⟩) .i64 fun n7 =>
((0 : Int) ≤ n3) ∧
((n3 : Int) < 8) ∧
stc M2 ⟨b0, ((o0 + 2) + (Int.toNat n3)), none⟩ (.int .i64 (IntKind.wrap .i64 (n5 - n7))) fun M8 =>
K (.tuple #[]) M8) :
  ACalls Tryz.prog 199 ([.pointer (some ⟨b0, o0, none⟩), .agg #[.int .i64 x1_0, .int .i64 x1_1, .int .i64 x1_2, .int .i64 x1_3]] : List Value).toArray M K Kp :=
  acalls_vc (C := Cx) good [(1, .reg [0, 0, 2, 0, 0, 16, 8, 72, 248, 504, 0, 0, 2048, 1024, 9216, 31744, 64512, 131064, 1, 262145, 1048575, 2097151] (.step 0 (.step 1 (.step 3 (.step 4 (.step 6 (.step 7 (.step 10 (.step 11 (.step 13 (.step 14 (.step 18 (.step 19 (.step 2 (.step 5 (.step 8 (.step 9 (.step 12 (.step 15 (.step 16 (.step 17 (.step 20 (.step 21 .done)))))))))))))))))))))))] Tryz.func199 (by kernel_rfl) (by kernel_rfl) h

theorem vc_frame_Frame_mul {b0 o0 : Nat} {x1_0 : Int} {x1_1 : Int} {x1_2 : Int} {x1_3 : Int} {M : Mem} {K : Value → Mem → Prop} {Kp : List PanicEntry → Mem → Prop} (h :
nwc M (.cells #[(.int .i64 x1_0), (.int .i64 x1_1), (.int .i64 x1_2), (.int .i64 x1_3)] 34 (0, 0)) fun k1 M2 =>
exI (Mem.ld M2 ⟨k1, (0 + 1), none⟩) .i64 fun n3 =>
exI (Mem.ld M2 ⟨k1, (0 + 2), none⟩) .i64 fun n4 =>
((0 : Int) ≤ n4) ∧
((n4 : Int) < 8) ∧
exI (Mem.ld M2 ⟨b0, ((o0 + 2) + (Int.toNat n4)), none⟩) .i64 fun n5 =>
exI (Mem.ld M2 ⟨k1, (0 + 3), none⟩) .i64 fun n6 =>
((0 : Int) ≤ n6) ∧
((n6 : Int) < 8) ∧
exI (Mem.ld M2 ⟨b0, ((o0 + 2) + (Int.toNat n6)), none⟩) .i64 fun n7 =>
((0 : Int) ≤ n3) ∧
((n3 : Int) < 8) ∧
stc M2 ⟨b0, ((o0 + 2) + (Int.toNat n3)), none⟩ (.int .i64 (IntKind.wrap .i64 (n5 * n7))) fun M8 =>
K (.tuple #[]) M8) :
  ACalls Tryz.prog 200 ([.pointer (some ⟨b0, o0, none⟩), .agg #[.int .i64 x1_0, .int .i64 x1_1, .int .i64 x1_2, .int .i64 x1_3]] : List Value).toArray M K Kp :=
  acalls_vc (C := Cx) good [(1, .reg [0, 0, 2, 0, 0, 16, 8, 72, 248, 504, 0, 0, 2048, 1024, 9216, 31744, 64512, 131064, 1, 262145, 1048575, 2097151] (.step 0 (.step 1 (.step 3 (.step 4 (.step 6 (.step 7 (.step 10 (.step 11 (.step 13 (.step 14 (.step 18 (.step 19 (.step 2 (.step 5 (.step 8 (.step 9 (.step 12 (.step 15 (.step 16 (.step 17 (.step 20 (.step 21 .done)))))))))))))))))))))))] Tryz.func200 (by kernel_rfl) (by kernel_rfl) h

theorem vc_frame_Frame_less {b0 o0 : Nat} {x1_0 : Int} {x1_1 : Int} {x1_2 : Int} {x1_3 : Int} {M : Mem} {K : Value → Mem → Prop} {Kp : List PanicEntry → Mem → Prop} (h :
nwc M (.cells #[(.int .i64 x1_0), (.int .i64 x1_1), (.int .i64 x1_2), (.int .i64 x1_3)] 34 (0, 0)) fun k1 M2 =>
exI (Mem.ld M2 ⟨k1, (0 + 2), none⟩) .i64 fun n3 =>
((0 : Int) ≤ n3) ∧
((n3 : Int) < 8) ∧
exI (Mem.ld M2 ⟨b0, ((o0 + 2) + (Int.toNat n3)), none⟩) .i64 fun n4 =>
exI (Mem.ld M2 ⟨k1, (0 + 3), none⟩) .i64 fun n5 =>
((0 : Int) ≤ n5) ∧
((n5 : Int) < 8) ∧
exI (Mem.ld M2 ⟨b0, ((o0 + 2) + (Int.toNat n5)), none⟩) .i64 fun n6 =>
exI (Mem.ld M2 ⟨k1, (0 + 1), none⟩) .i64 fun n7 =>
((0 : Int) ≤ n7) ∧
((n7 : Int) < 8) ∧
stc M2 ⟨b0, ((o0 + 2) + (Int.toNat n7)), none⟩ (.int .i64 0) fun M8 =>
bsp (decide ((n4 : Int) < n6))
 (exI (Mem.ld M8 ⟨k1, (0 + 1), none⟩) .i64 fun n9 =>
  ((0 : Int) ≤ n9) ∧
  ((n9 : Int) < 8) ∧
  stc M8 ⟨b0, ((o0 + 2) + (Int.toNat n9)), none⟩ (.int .i64 1) fun M10 =>
  K (.tuple #[]) M10)
 (K (.tuple #[]) M8)) :
  ACalls Tryz.prog 201 ([.pointer (some ⟨b0, o0, none⟩), .agg #[.int .i64 x1_0, .int .i64 x1_1, .int .i64 x1_2, .int .i64 x1_3]] : List Value).toArray M K Kp :=
  acalls_vc (C := Cx) good [(1, .reg [0, 0, 2, 1, 9, 31, 63, 0, 0, 256, 128, 1152, 3968, 8064, 16383, 32767] (.step 0 (.step 1 (.step 3 (.step 4 (.step 7 (.step 8 (.step 10 (.step 11 (.step 2 (.step 5 (.step 6 (.step 9 (.step 12 (.step 13 (.step 14 (.step 15 .done))))))))))))))))), (2, .reg [0, 0, 2, 1, 9, 31, 63] (.step 0 (.step 1 (.step 3 (.step 4 (.step 2 (.step 5 (.step 6 .done)))))))), (4, .reg [0, 0, 2, 1, 9, 31, 63] (.step 0 (.step 1 (.step 3 (.step 4 (.step 2 (.step 5 (.step 6 .done))))))))] Tryz.func201 (by kernel_rfl) (by kernel_rfl) h

theorem vc_frame_Frame_jump {b0 o0 : Nat} {x1_0 : Int} {x1_1 : Int} {x1_2 : Int} {x1_3 : Int} {M : Mem} {K : Value → Mem → Prop} {Kp : List PanicEntry → Mem → Prop} (h :
nwc M (.cells #[(.int .i64 x1_0), (.int .i64 x1_1), (.int .i64 x1_2), (.int .i64 x1_3)] 34 (0, 0)) fun k1 M2 =>
exI (Mem.ld M2 ⟨k1, (0 + 1), none⟩) .i64 fun n3 =>
stc M2 ⟨b0, (o0 + 1), none⟩ (.int .i64 n3) fun M4 =>
K (.tuple #[]) M4) :
  ACalls Tryz.prog 202 ([.pointer (some ⟨b0, o0, none⟩), .agg #[.int .i64 x1_0, .int .i64 x1_1, .int .i64 x1_2, .int .i64 x1_3]] : List Value).toArray M K Kp :=
  acalls_vc (C := Cx) good [] Tryz.func202 (by kernel_rfl) (by kernel_rfl) h

theorem vc_frame_Frame_branch {b0 o0 : Nat} {x1_0 : Int} {x1_1 : Int} {x1_2 : Int} {x1_3 : Int} {M : Mem} {K : Value → Mem → Prop} {Kp : List PanicEntry → Mem → Prop} (h :
nwc M (.cells #[(.int .i64 x1_0), (.int .i64 x1_1), (.int .i64 x1_2), (.int .i64 x1_3)] 34 (0, 0)) fun k1 M2 =>
exI (Mem.ld M2 ⟨k1, (0 + 1), none⟩) .i64 fun n3 =>
((0 : Int) ≤ n3) ∧
((n3 : Int) < 8) ∧
exI (Mem.ld M2 ⟨b0, ((o0 + 2) + (Int.toNat n3)), none⟩) .i64 fun n4 =>
bsp (n4 != 0)
 (exI (Mem.ld M2 ⟨k1, (0 + 2), none⟩) .i64 fun n5 =>
  stc M2 ⟨b0, (o0 + 1), none⟩ (.int .i64 n5) fun M6 =>
  K (.tuple #[]) M6)
 (K (.tuple #[]) M2)) :
  ACalls Tryz.prog 203 ([.pointer (some ⟨b0, o0, none⟩), .agg #[.int .i64 x1_0, .int .i64 x1_1, .int .i64 x1_2, .int .i64 x1_3]] : List Value).toArray M K Kp :=
  acalls_vc (C := Cx) good [(1, .reg [0, 0, 2, 1, 9, 31, 63, 127] (.step 0 (.step 1 (.step 3 (.step 4 (.step 2 (.step 5 (.step 6 (.step 7 .done)))))))))] Tryz.func203 (by kernel_rfl) (by kernel_rfl) h

theorem vc_world_World_received {b0 o0 : Nat} {x1_0 : Int} {x1_1 : Int} {x1_2 : Int} {x2 : Int} {M : Mem} {K : Value → Mem → Prop} {Kp : List PanicEntry → Mem → Prop} (h :
nwc M (.cells #[(.int .i64 x1_0), (.int .i64 x1_1), (.int .i64 x1_2)] 298 (0, 0)) fun k1 M2 =>
exSl (Mem.ld M2 ⟨b0, (o0 + 4), none⟩) fun A3 k4 k5 =>
exI (Mem.ld M2 ⟨k1, 0, none⟩) .i64 fun n6 =>
((0 : Int) ≤ n6) ∧
((n6 : Int) < ((k4 : Nat) : Int)) ∧
nilc A3 fun k7 k8 =>
exP (Mem.ld M2 ⟨k7, (k8 + (Int.toNat n6)), none⟩) fun A9 =>
nilc A9 fun k10 k11 =>
exSl (Mem.ld M2 ⟨k10, (k11 + 1), none⟩) fun A12 k13 k14 =>
exSl (Mem.ld M2 ⟨b0, (o0 + 4), none⟩) fun A15 k16 k17 =>
exI (Mem.ld M2 ⟨k1, 0, none⟩) .i64 fun n18 =>
((0 : Int) ≤ n18) ∧
((n18 : Int) < ((k16 : Nat) : Int)) ∧
nilc A15 fun k19 k20 =>
exP (Mem.ld M2 ⟨k19, (k20 + (Int.toNat n18)), none⟩) fun A21 =>
nilc A21 fun k22 k23 =>
exI (Mem.ld M2 ⟨k22, (k23 + 2), none⟩) .i64 fun n24 =>
exI (Mem.ld M2 ⟨k22, ((k23 + 2) + 1), none⟩) .i64 fun n25 =>
exI (Mem.ld M2 ⟨k22, ((k23 + 2) + 2), none⟩) .i64 fun n26 =>
exI (Mem.ld M2 ⟨k22, ((k23 + 2) + 3), none⟩) .i64 fun n27 =>
(True) ∧
ACalls Tryz.prog 120 #[(.slice A12 k13 k14)] M2 (fun v28 M29 =>
exP (some v28) fun A30 =>
((Mem.lds M29 ⟨k22, (k23 + 2), none⟩ 0 4) = some [(.int .i64 n24), (.int .i64 n25), (.int .i64 n26), (.int .i64 n27)]) ∧
((Mem.ld M29 ⟨k19, (k20 + (Int.toNat n18)), none⟩) = (some (.pointer A21))) ∧
((Mem.ld M29 ⟨k1, 0, none⟩) = (some (.int .i64 n18))) ∧
((Mem.ld M29 ⟨b0, (o0 + 4), none⟩) = (some (.slice A15 k16 k17))) ∧
nilc A30 fun k31 k32 =>
nwc M29 (.cells #[(.int .i64 0), (.int .i64 0), (.int .i64 0), (.int .i64 0)] 34 (0, 0)) fun k33 M34 =>
stc M34 ⟨k33, 0, none⟩ (.int .i64 n24) fun M35 =>
stc M35 ⟨k33, (0 + 1), none⟩ (.int .i64 n25) fun M36 =>
stc M36 ⟨k33, (0 + 2), none⟩ (.int .i64 n26) fun M37 =>
stc M37 ⟨k33, (0 + 3), none⟩ (.int .i64 n27) fun M38 =>
((Mem.lds M38 ⟨k22, (k23 + 2), none⟩ 0 4) = some [(.int .i64 n24), (.int .i64 n25), (.int .i64 n26), (.int .i64 n27)]) ∧
((Mem.ld M38 ⟨k19, (k20 + (Int.toNat n18)), none⟩) = (some (.pointer A21))) ∧
((Mem.ld M38 ⟨k1, 0, none⟩) = (some (.int .i64 n18))) ∧
((Mem.ld M38 ⟨b0, (o0 + 4), none⟩) = (some (.slice A15 k16 k17))) ∧
exI (Mem.ld M38 ⟨k33, 0, none⟩) .i64 fun n39 =>
bsp (n39 == 16)
 (exSl (Mem.ld M38 ⟨b0, (o0 + 3), none⟩) fun A40 k41 k42 =>
  exI (Mem.ld M38 ⟨k33, (0 + 1), none⟩) .i64 fun n43 =>
  exI (Mem.ld M38 ⟨k1, (0 + 1), none⟩) .i64 fun n44 =>
  ((0 : Int) ≤ (IntKind.wrap .i64 (n43 + n44))) ∧
  (((IntKind.wrap .i64 (n43 + n44)) : Int) < ((k41 : Nat) : Int)) ∧
  nilc A40 fun k45 k46 =>
  exI (Mem.ld M38 ⟨k45, ((k46 + ((Int.toNat (IntKind.wrap .i64 (n43 + n44))) * 3)) + 2), none⟩) .i64 fun n47 =>
  exI (Mem.ld M38 ⟨k1, (0 + 2), none⟩) .i64 fun n48 =>
  ((0 : Int) ≤ n47) ∧
  ((n47 : Int) < 8) ∧
  stc M38 ⟨k31, ((k32 + 2) + (Int.toNat n47)), none⟩ (.int .i64 n48) fun M49 =>
  exI (Mem.ld M49 ⟨k1, 0, none⟩) .i64 fun n50 =>
  exI (Mem.ld M49 ⟨k1, (0 + 1), none⟩) .i64 fun n51 =>
  ACalls Tryz.prog 223 #[(.pointer (some ⟨b0, o0, none⟩)), (.int .i64 n50), (.int .i64 n51)] M49 (fun v52 M53 =>
  (v52 = (.tuple #[])) ∧
  exI (Mem.ld M53 ⟨k1, 0, none⟩) .i64 fun n54 =>
  ACalls Tryz.prog 90 #[(.pointer (some ⟨b0, o0, none⟩)), (.int .i64 n54)] M53 (fun v55 M56 =>
  (v55 = (.tuple #[])) ∧
  K (.tuple #[]) M56) Kp) Kp)
 (exI (Mem.ld M38 ⟨k33, (0 + 2), none⟩) .i64 fun n57 =>
  exI (Mem.ld M38 ⟨k1, (0 + 2), none⟩) .i64 fun n58 =>
  ((0 : Int) ≤ n57) ∧
  ((n57 : Int) < 8) ∧
  exI (Mem.ld M38 ⟨k33, (0 + 3), none⟩) .i64 fun n59 =>
  stc M38 ⟨k31, ((k32 + 2) + (Int.toNat n57)), none⟩ (.int .i64 n58) fun M60 =>
  ((Mem.ld M60 ⟨k33, (0 + 3), none⟩) = (some (.int .i64 n59))) ∧
  ((0 : Int) ≤ n59) ∧
  ((n59 : Int) < 8) ∧
  stc M60 ⟨k31, ((k32 + 2) + (Int.toNat n59)), none⟩ (.int .i64 x2) fun M61 =>
  ((Mem.ld M61 ⟨k33, (0 + 3), none⟩) = (some (.int .i64 n59))) ∧
  exI (Mem.ld M61 ⟨k1, 0, none⟩) .i64 fun n62 =>
  ACalls Tryz.prog 90 #[(.pointer (some ⟨b0, o0, none⟩)), (.int .i64 n62)] M61 (fun v63 M64 =>
  (v63 = (.tuple #[])) ∧
  K (.tuple #[]) M64) Kp)) Kp) :
  ACalls Tryz.prog 208 ([.pointer (some ⟨b0, o0, none⟩), .agg #[.int .i64 x1_0, .int .i64 x1_1, .int .i64 x1_2], .int .i64 x2] : List Value).toArray M K Kp :=
  acalls_vc (C := Cx) good [(1, .reg [0, 1, 3, 7, 0, 16, 63, 127, 255, 511, 1023, 0, 2048, 6144, 14336, 0, 32768, 129024, 260096, 522240, 1046528, 2095104, 4192256, 8386560, 16775168, 0, 41943039, 134217727] (.step 0 (.step 1 (.step 2 (.step 4 (.step 11 (.step 12 (.step 13 (.step 15 (.step 14 (.step 16 (.step 17 (.step 18 (.step 19 (.step 20 (.step 21 (.prom 3 (.prom 5 (.step 6 (.prom 7 (.step 8 (.step 9 (.prom 10 (.late 22 (.step 23 (.step 24 (.step 25 (.step 26 (.step 27 .done))))))))))))))))))))))))))))), (3, .reg [0, 0, 2, 6, 14, 30, 0, 64, 0, 256, 960, 2046, 4094, 8190, 0, 16384, 1, 131071, 262143] (.step 0 (.step 1 (.step 2 (.step 3 (.step 4 (.step 6 (.step 8 (.step 14 (.step 16 (.step 5 (.step 7 (.step 9 (.step 10 (.step 11 (.step 12 (.step 13 (.step 15 (.step 17 (.step 18 .done)))))))))))))))))))), (5, .reg [0, 0, 2, 0, 0, 16, 0, 64, 0, 1, 711, 1735, 8, 8191, 16383] (.step 0 (.step 1 (.step 3 (.step 4 (.step 6 (.step 8 (.step 9 (.step 12 (.step 2 (.step 7 (.step 10 (.prom 5 (.step 11 (.step 13 (.step 14 .done))))))))))))))))] Tryz.func208 (by kernel_rfl) (by kernel_rfl) h

theorem vc_world_World_sent {b0 o0 : Nat} {x1_0 : Int} {x1_1 : Int} {x1_2 : Int} {M : Mem} {K : Value → Mem → Prop} {Kp : List PanicEntry → Mem → Prop} (h :
nwc M (.cells #[(.int .i64 x1_0), (.int .i64 x1_1), (.int .i64 x1_2)] 298 (0, 0)) fun k1 M2 =>
exSl (Mem.ld M2 ⟨b0, (o0 + 4), none⟩) fun A3 k4 k5 =>
exI (Mem.ld M2 ⟨k1, 0, none⟩) .i64 fun n6 =>
((0 : Int) ≤ n6) ∧
((n6 : Int) < ((k4 : Nat) : Int)) ∧
nilc A3 fun k7 k8 =>
exP (Mem.ld M2 ⟨k7, (k8 + (Int.toNat n6)), none⟩) fun A9 =>
nilc A9 fun k10 k11 =>
exI (Mem.ld M2 ⟨k10, (k11 + 2), none⟩) .i64 fun n12 =>
bsp (n12 == 16)
 (exI (Mem.ld M2 ⟨k1, 0, none⟩) .i64 fun n13 =>
  exI (Mem.ld M2 ⟨k1, (0 + 1), none⟩) .i64 fun n14 =>
  ACalls Tryz.prog 223 #[(.pointer (some ⟨b0, o0, none⟩)), (.int .i64 n13), (.int .i64 n14)] M2 (fun v15 M16 =>
  (v15 = (.tuple #[])) ∧
  exI (Mem.ld M16 ⟨k1, 0, none⟩) .i64 fun n17 =>
  ACalls Tryz.prog 90 #[(.pointer (some ⟨b0, o0, none⟩)), (.int .i64 n17)] M16 (fun v18 M19 =>
  (v18 = (.tuple #[])) ∧
  K (.tuple #[]) M19) Kp) Kp)
 (exI (Mem.ld M2 ⟨k1, 0, none⟩) .i64 fun n20 =>
  ACalls Tryz.prog 90 #[(.pointer (some ⟨b0, o0, none⟩)), (.int .i64 n20)] M2 (fun v21 M22 =>
  (v21 = (.tuple #[])) ∧
  K (.tuple #[]) M22) Kp)) :
  ACalls Tryz.prog 210 ([.pointer (some ⟨b0, o0, none⟩), .agg #[.int .i64 x1_0, .int .i64 x1_1, .int .i64 x1_2]] : List Value).toArray M K Kp :=
  acalls_vc (C := Cx) good [(1, .reg [0, 1, 3, 7, 0, 16, 63, 127, 255, 511, 1023, 2047, 4095] (.step 0 (.step 1 (.step 2 (.step 4 (.step 3 (.step 5 (.step 6 (.step 7 (.step 8 (.step 9 (.step 10 (.step 11 (.step 12 .done))))))))))))))] Tryz.func210 (by kernel_rfl) (by kernel_rfl) h

theorem vc_frame_Stack_Call {B0 : Option Addr} {m0 c0 : Nat} {x1 : Int} {x2 : Int} {x3 : Int} {M : Mem} {K : Value → Mem → Prop} {Kp : List PanicEntry → Mem → Prop} (h :
bsp (decide ((((m0 : Nat) : Int) : Int) ≥ 16))
 (K (.tuple #[(.slice B0 m0 c0), (.bool false)]) M)
 (((0 : Int) ≤ ((m0 : Nat) : Int)) ∧
  ((((m0 : Nat) : Int) : Int) ≤ ((c0 : Nat) : Int)) ∧
  ((0 : Int) ≤ ((m0 : Nat) : Int)) ∧
  ((((m0 : Nat) : Int) : Int) ≤ ((m0 : Nat) : Int)) ∧
  ((0 : Int) ≤ 0) ∧
  ((0 : Int) ≤ ((m0 : Nat) : Int)) ∧
  nwc M (.cells #[(.int .i64 x1), (.int .i64 0), (.int .i64 x2), (.int .i64 0), (.int .i64 0), (.int .i64 0), (.int .i64 0), (.int .i64 0), (.int .i64 0), (.int .i64 0), (.int .i64 x3)] 234 (0, 0)) fun k1 M2 =>
  semK Tryz.prog (Go.Builtin.append_ #[179, 179] 179 #[(.slice (slA B0 0 (Int.toNat ((m0 : Nat) : Int)) 11) ((Int.toNat ((m0 : Nat) : Int)) - 0) ((Int.toNat ((m0 : Nat) : Int)) - 0)), (.slice (some ⟨k1, 0, none⟩) 1 1)]) M2 (fun v3 M4 =>
  exSl (some v3) fun A5 k6 k7 =>
  K (.tuple #[(.slice A5 k6 k7), (.bool true)]) M4) Kp)) :
  ACalls Tryz.prog 211 ([.slice B0 m0 c0, .int .i64 x1, .int .i64 x2, .int .i64 x3] : List Value).toArray M K Kp :=
  acalls_vc (C := Cx) good [] Tryz.func211 (by kernel_rfl) (by kernel_rfl) h

theorem vc_frame_Stack_Return {B0 : Option Addr} {m0 c0 : Nat} {x1 : Int} {M : Mem} {K : Value → Mem → Prop} {Kp : List PanicEntry → Mem → Prop} (h :
bsp (decide ((((m0 : Nat) : Int) : Int) < 2))
 (K (.tuple #[(.slice none 0 0), (.bool false)]) M)
 (nwc M (.cells #[] 234 (0, 0)) fun k1 M2 =>
  ((0 : Int) ≤ ((c0 : Nat) : Int)) ∧
  ((((c0 : Nat) : Int) : Int) ≤ ((c0 : Nat) : Int)) ∧
  ((0 : Int) ≤ (IntKind.wrap .i64 (((m0 : Nat) : Int) - 1))) ∧
  (((IntKind.wrap .i64 (((m0 : Nat) : Int) - 1)) : Int) ≤ ((c0 : Nat) : Int)) ∧
  ((0 : Int) ≤ 0) ∧
  ((0 : Int) ≤ (IntKind.wrap .i64 (((m0 : Nat) : Int) - 1))) ∧
  semK Tryz.prog (Go.Builtin.append_ #[179, 179] 179 #[(.slice (some ⟨k1, 0, none⟩) 0 0), (.slice (slA B0 0 (Int.toNat ((c0 : Nat) : Int)) 11) ((Int.toNat (IntKind.wrap .i64 (((m0 : Nat) : Int) - 1))) - 0) ((Int.toNat ((c0 : Nat) : Int)) - 0))]) M2 (fun v3 M4 =>
  exSl (some v3) fun A5 k6 k7 =>
  ACalls Tryz.prog 120 #[(.slice A5 k6 k7)] M4 (fun v8 M9 =>
  exP (some v8) fun A10 =>
  nilc A10 fun k11 k12 =>
  ACalls Tryz.prog 120 #[(.slice B0 m0 c0)] M9 (fun v13 M14 =>
  exP (some v13) fun A15 =>
  nilc A15 fun k16 k17 =>
  exI (Mem.ld M14 ⟨k16, (k17 + 10), none⟩) .i64 fun n18 =>
  ((0 : Int) ≤ n18) ∧
  ((n18 : Int) < 8) ∧
  stc M14 ⟨k11, ((k12 + 2) + (Int.toNat n18)), none⟩ (.int .i64 x1) fun M19 =>
  K (.tuple #[(.slice A5 k6 k7), (.bool true)]) M19) Kp) Kp) Kp)) :
  ACalls Tryz.prog 212 ([.slice B0 m0 c0, .int .i64 x1] : List Value).toArray M K Kp :=
  acalls_vc (C := Cx) good [(4, .reg [0, 1, 0, 7, 15, 31, 63, 0, 3, 259, 1023, 2047] (.step 0 (.step 2 (.step 7 (.step 1 (.step 8 (.step 9 (.step 3 (.step 4 (.step 5 (.step 6 (.step 10 (.step 11 .done)))))))))))))] Tryz.func212 (by kernel_rfl) (by kernel_rfl) h

theorem vc_heap_Heap_Push {b0 o0 : Nat} {x1 : Int} {x2 : Int} {M : Mem} {K : Value → Mem → Prop} {Kp : List PanicEntry → Mem → Prop} (h :
exSl (Mem.ld M ⟨b0, o0, none⟩) fun A1 k2 k3 =>
exI (Mem.ld M ⟨b0, (o0 + 1), none⟩) .u64 fun n4 =>
nwc M (.cells #[(.int .u64 x1), (.int .u64 n4), (.int .i64 x2)] 205 (0, 0)) fun k5 M6 =>
semK Tryz.prog (Go.Builtin.append_ #[65, 65] 65 #[(.slice A1 k2 k3), (.slice (some ⟨k5, 0, none⟩) 1 1)]) M6 (fun v7 M8 =>
exSl (some v7) fun A9 k10 k11 =>
stc M8 ⟨b0, o0, none⟩ (.slice A9 k10 k11) fun M12 =>
exI (Mem.ld M12 ⟨b0, (o0 + 1), none⟩) .u64 fun n13 =>
stc M12 ⟨b0, (o0 + 1), none⟩ (.int .u64 (IntKind.wrap .u64 (n13 + 1))) fun M14 =>
exSl (Mem.ld M14 ⟨b0, o0, none⟩) fun A15 k16 k17 =>
ACalls Tryz.prog 138 #[(.pointer (some ⟨b0, o0, none⟩)), (.int .i64 (IntKind.wrap .i64 (((k16 : Nat) : Int) - 1)))] M14 (fun v18 M19 =>
(v18 = (.tuple #[])) ∧
exI (Mem.ld M19 ⟨b0, (o0 + 1), none⟩) .u64 fun n20 =>
K (.int .u64 (IntKind.wrap .u64 (n20 - 1))) M19) Kp) Kp) :
  ACalls Tryz.prog 214 ([.pointer (some ⟨b0, o0, none⟩), .int .u64 x1, .int .i64 x2] : List Value).toArray M K Kp :=
  acalls_vc (C := Cx) good [(1, .reg [0, 0, 2, 6, 14, 0, 0, 64, 192, 448, 0, 2016, 4064, 8190, 16383, 32767, 65535] (.step 0 (.step 1 (.step 2 (.step 3 (.step 5 (.step 6 (.step 7 (.step 8 (.step 10 (.step 4 (.step 9 (.step 11 (.step 12 (.step 13 (.step 14 (.step 15 (.step 16 .done))))))))))))))))))] Tryz.func214 (by kernel_rfl) (by kernel_rfl) h

theorem vc_locks_Lock_Take {b0 o0 : Nat} {x1 : Int} {M : Mem} {K : Value → Mem → Prop} {Kp : List PanicEntry → Mem → Prop} (h :
exI (Mem.ld M ⟨b0, o0, none⟩) .i64 fun n1 =>
bsp (n1 != (-1))
 (exSl (Mem.ld M ⟨b0, (o0 + 1), none⟩) fun A2 k3 k4 =>
  nwc M (.cells #[(.int .i64 x1)] 3 (0, 0)) fun k5 M6 =>
  semK Tryz.prog (Go.Builtin.append_ #[38, 38] 38 #[(.slice A2 k3 k4), (.slice (some ⟨k5, 0, none⟩) 1 1)]) M6 (fun v7 M8 =>
  exSl (some v7) fun A9 k10 k11 =>
  stc M8 ⟨b0, (o0 + 1), none⟩ (.slice A9 k10 k11) fun M12 =>
  K (.bool false) M12) Kp)
 (stc M ⟨b0, o0, none⟩ (.int .i64 x1) fun M13 =>
  K (.bool true) M13)) :
  ACalls Tryz.prog 215 ([.pointer (some ⟨b0, o0, none⟩), .int .i64 x1] : List Value).toArray M K Kp :=
  acalls_vc (C := Cx) good [] Tryz.func215 (by kernel_rfl) (by kernel_rfl) h

theorem vc_locks_Lock_Give {b0 o0 : Nat} {x1 : Int} {M : Mem} {K : Value → Mem → Prop} {Kp : List PanicEntry → Mem → Prop} (h :
exI (Mem.ld M ⟨b0, o0, none⟩) .i64 fun n1 =>
bsp (n1 == (-1))
 (K (.tuple #[(.int .i64 (-1)), (.int .i64 5)]) M)
 (exI (Mem.ld M ⟨b0, o0, none⟩) .i64 fun n2 =>
  bsp (n2 != x1)
   (K (.tuple #[(.int .i64 (-1)), (.int .i64 5)]) M)
   (stc M ⟨b0, o0, none⟩ (.int .i64 (-1)) fun M3 =>
    exSl (Mem.ld M3 ⟨b0, (o0 + 1), none⟩) fun A4 k5 k6 =>
    bsp (decide ((((k5 : Nat) : Int) : Int) > 0))
     (exSl (Mem.ld M3 ⟨b0, (o0 + 1), none⟩) fun A7 k8 k9 =>
      ((0 : Int) ≤ 0) ∧
      ((0 : Int) < ((k8 : Nat) : Int)) ∧
      nilc A7 fun k10 k11 =>
      exI (Mem.ld M3 ⟨k10, (k11 + 0), none⟩) .i64 fun n12 =>
      stc M3 ⟨b0, o0, none⟩ (.int .i64 n12) fun M13 =>
      nwc M13 (.cells #[] 3 (0, 0)) fun k14 M15 =>
      exSl (Mem.ld M15 ⟨b0, (o0 + 1), none⟩) fun A16 k17 k18 =>
      ((0 : Int) ≤ ((k18 : Nat) : Int)) ∧
      ((((k18 : Nat) : Int) : Int) ≤ ((k18 : Nat) : Int)) ∧
      ((0 : Int) ≤ ((k17 : Nat) : Int)) ∧
      ((((k17 : Nat) : Int) : Int) ≤ ((k18 : Nat) : Int)) ∧
      ((0 : Int) ≤ 1) ∧
      ((1 : Int) ≤ ((k17 : Nat) : Int)) ∧
      semK Tryz.prog (Go.Builtin.append_ #[38, 38] 38 #[(.slice (some ⟨k14, 0, none⟩) 0 0), (.slice (slA A16 1 (Int.toNat ((k18 : Nat) : Int)) 1) ((Int.toNat ((k17 : Nat) : Int)) - 1) ((Int.toNat ((k18 : Nat) : Int)) - 1))]) M15 (fun v19 M20 =>
      exSl (some v19) fun A21 k22 k23 =>
      stc M20 ⟨b0, (o0 + 1), none⟩ (.slice A21 k22 k23) fun M24 =>
      exI (Mem.ld M24 ⟨b0, o0, none⟩) .i64 fun n25 =>
      K (.tuple #[(.int .i64 n25), (.int .i64 0)]) M24) Kp)
     (exI (Mem.ld M3 ⟨b0, o0, none⟩) .i64 fun n26 =>
      K (.tuple #[(.int .i64 n26), (.int .i64 0)]) M3)))) :
  ACalls Tryz.prog 216 ([.pointer (some ⟨b0, o0, none⟩), .int .i64 x1] : List Value).toArray M K Kp :=
  acalls_vc (C := Cx) good [] Tryz.func216 (by kernel_rfl) (by kernel_rfl) h

theorem vc_heap_Heap_least {b0 o0 : Nat} {x1 : Int} {M : Mem} {K : Value → Mem → Prop} {Kp : List PanicEntry → Mem → Prop} (h :
∃ I1 : Nat → List Value → Mem → Prop, (∃ k2 : Nat, I1 k2 [(.int .i64 x1), (.int .i64 (IntKind.wrap .i64 ((IntKind.wrap .i64 (4 * x1)) + 1)))] M) ∧
∀ k3 : Nat, ∀ junk4 : Nat → Value, ∀ n5 : Int, ∀ n6 : Int, ∀ M7 : Mem, (I1 k3 [(.int .i64 n5), (.int .i64 n6)] M7) → bsp (decide ((n6 : Int) ≤ (IntKind.wrap .i64 ((IntKind.wrap .i64 (4 * x1)) + 4))))
 (exSl (Mem.ld M7 ⟨b0, o0, none⟩) fun A8 k9 k10 =>
  bsp (decide ((n6 : Int) < ((k9 : Nat) : Int)))
   (exSl (Mem.ld M7 ⟨b0, o0, none⟩) fun A11 k12 k13 =>
    ((0 : Int) ≤ n6) ∧
    ((n6 : Int) < ((k12 : Nat) : Int)) ∧
    nilc A11 fun k14 k15 =>
    exI (Mem.ld M7 ⟨k14, (k15 + ((Int.toNat n6) * 3)), none⟩) .u64 fun n16 =>
    exI (Mem.ld M7 ⟨k14, ((k15 + ((Int.toNat n6) * 3)) + 1), none⟩) .u64 fun n17 =>
    exI (Mem.ld M7 ⟨k14, ((k15 + ((Int.toNat n6) * 3)) + 2), none⟩) .i64 fun n18 =>
    exSl (Mem.ld M7 ⟨b0, o0, none⟩) fun A19 k20 k21 =>
    ((0 : Int) ≤ n5) ∧
    ((n5 : Int) < ((k20 : Nat) : Int)) ∧
    nilc A19 fun k22 k23 =>
    exI (Mem.ld M7 ⟨k22, (k23 + ((Int.toNat n5) * 3)), none⟩) .u64 fun n24 =>
    exI (Mem.ld M7 ⟨k22, ((k23 + ((Int.toNat n5) * 3)) + 1), none⟩) .u64 fun n25 =>
    exI (Mem.ld M7 ⟨k22, ((k23 + ((Int.toNat n5) * 3)) + 2), none⟩) .i64 fun n26 =>
    ACalls Tryz.prog 186 #[(.agg #[(.int .u64 n16), (.int .u64 n17), (.int .i64 n18)]), (.agg #[(.int .u64 n24), (.int .u64 n25), (.int .i64 n26)])] M7 (fun v27 M28 =>
    exB (some v27) fun t29 =>
    bsp t29
     (∃ k30 : Nat, (k30 < k3) ∧
      I1 k30 [(.int .i64 n6), (.int .i64 (IntKind.wrap .i64 (n6 + 1)))] M28)
     (∃ k31 : Nat, (k31 < k3) ∧
      I1 k31 [(.int .i64 n5), (.int .i64 (IntKind.wrap .i64 (n6 + 1)))] M28)) Kp)
   (K (.int .i64 n5) M7))
 (K (.int .i64 n5) M7)) :
  ACalls Tryz.prog 185 ([.pointer (some ⟨b0, o0, none⟩), .int .i64 x1] : List Value).toArray M K Kp :=
  acalls_vc (C := Cx) good [(2000000, .loop [(5, .c (.int .i64)), (6, .c (.int .i64))]), (5, .reg [0, 1, 3, 7, 0, 31, 63, 0, 128, 384, 896, 0, 3968, 8064, 16383] (.step 0 (.step 1 (.step 2 (.step 4 (.step 7 (.step 8 (.step 9 (.step 11 (.step 3 (.step 5 (.step 6 (.step 10 (.step 12 (.step 13 (.step 14 .done))))))))))))))))] Tryz.func185 (by kernel_rfl) (by kernel_rfl) h

theorem vc_heap_before {x0_0 : Int} {x0_1 : Int} {x0_2 : Int} {x1_0 : Int} {x1_1 : Int} {x1_2 : Int} {M : Mem} {K : Value → Mem → Prop} {Kp : List PanicEntry → Mem → Prop} (h :
nwc M (.cells #[(.int .u64 x0_0), (.int .u64 x0_1), (.int .i64 x0_2)] 205 (0, 0)) fun k1 M2 =>
nwc M2 (.cells #[(.int .u64 x1_0), (.int .u64 x1_1), (.int .i64 x1_2)] 205 (0, 0)) fun k3 M4 =>
exI (Mem.ld M4 ⟨k1, 0, none⟩) .u64 fun n5 =>
exI (Mem.ld M4 ⟨k3, 0, none⟩) .u64 fun n6 =>
bsp (decide ((n5 : Int) < n6))
 (K (.bool true) M4)
 (exI (Mem.ld M4 ⟨k1, 0, none⟩) .u64 fun n7 =>
  exI (Mem.ld M4 ⟨k3, 0, none⟩) .u64 fun n8 =>
  bsp (n7 == n8)
   (exI (Mem.ld M4 ⟨k1, (0 + 1), none⟩) .u64 fun n9 =>
    exI (Mem.ld M4 ⟨k3, (0 + 1), none⟩) .u64 fun n10 =>
    K (.bool (decide ((n9 : Int) < n10))) M4)
   (K (.bool false) M4))) :
  ACalls Tryz.prog 186 ([.agg #[.int .u64 x0_0, .int .u64 x0_1, .int .i64 x0_2], .agg #[.int .u64 x1_0, .int .u64 x1_1, .int .i64 x1_2]] : List Value).toArray M K Kp :=
  acalls_vc (C := Cx) good [] Tryz.func186 (by kernel_rfl) (by kernel_rfl) h

theorem vc_world_World_chosen {b0 o0 : Nat} {x1 : Int} {x2 : Int} {M : Mem} {K : Value → Mem → Prop} {Kp : List PanicEntry → Mem → Prop} (h :
exSl (Mem.ld M ⟨b0, (o0 + 4), none⟩) fun A1 k2 k3 =>
((0 : Int) ≤ x1) ∧
((x1 : Int) < ((k2 : Nat) : Int)) ∧
nilc A1 fun k4 k5 =>
exP (Mem.ld M ⟨k4, (k5 + (Int.toNat x1)), none⟩) fun A6 =>
nilc A6 fun k7 k8 =>
exI (Mem.ld M ⟨k7, (k8 + 2), none⟩) .i64 fun n9 =>
exI (Mem.ld M ⟨k7, ((k8 + 2) + 1), none⟩) .i64 fun n10 =>
exI (Mem.ld M ⟨k7, ((k8 + 2) + 2), none⟩) .i64 fun n11 =>
exI (Mem.ld M ⟨k7, ((k8 + 2) + 3), none⟩) .i64 fun n12 =>
nwc M (.cells #[(.int .i64 0), (.int .i64 0), (.int .i64 0), (.int .i64 0)] 34 (0, 0)) fun k13 M14 =>
stc M14 ⟨k13, 0, none⟩ (.int .i64 n9) fun M15 =>
stc M15 ⟨k13, (0 + 1), none⟩ (.int .i64 n10) fun M16 =>
stc M16 ⟨k13, (0 + 2), none⟩ (.int .i64 n11) fun M17 =>
stc M17 ⟨k13, (0 + 3), none⟩ (.int .i64 n12) fun M18 =>
exSl (Mem.ld M18 ⟨b0, (o0 + 4), none⟩) fun A19 k20 k21 =>
((0 : Int) ≤ x1) ∧
((x1 : Int) < ((k20 : Nat) : Int)) ∧
nilc A19 fun k22 k23 =>
exP (Mem.ld M18 ⟨k22, (k23 + (Int.toNat x1)), none⟩) fun A24 =>
nilc A24 fun k25 k26 =>
exSl (Mem.ld M18 ⟨k25, (k26 + 1), none⟩) fun A27 k28 k29 =>
exI (Mem.ld M18 ⟨k13, (0 + 3), none⟩) .i64 fun n30 =>
ACalls Tryz.prog 120 #[(.slice A27 k28 k29)] M18 (fun v31 M32 =>
exP (some v31) fun A33 =>
((Mem.ld M32 ⟨k13, (0 + 3), none⟩) = (some (.int .i64 n30))) ∧
nilc A33 fun k34 k35 =>
((0 : Int) ≤ n30) ∧
((n30 : Int) < 8) ∧
stc M32 ⟨k34, ((k35 + 2) + (Int.toNat n30)), none⟩ (.int .i64 x2) fun M36 =>
((Mem.ld M36 ⟨k13, (0 + 3), none⟩) = (some (.int .i64 n30))) ∧
exSl (Mem.ld M36 ⟨b0, (o0 + 6), none⟩) fun A37 k38 k39 =>
ACalls Tryz.prog 225 #[(.int .i64 x1), (.slice A37 k38 k39)] M36 (fun v40 M41 =>
(v40 = (.tuple #[])) ∧
K (.tuple #[]) M41) Kp) Kp) :
  ACalls Tryz.prog 223 ([.pointer (some ⟨b0, o0, none⟩), .int .i64 x1, .int .i64 x2] : List Value).toArray M K Kp :=
  acalls_vc (C := Cx) good [(1, .reg [0, 1, 3, 7, 0, 31, 63, 127, 255, 511, 1023, 0, 2048, 0, 2047, 18431, 65535, 131071] (.step 0 (.step 1 (.step 2 (.step 4 (.step 11 (.step 13 (.step 3 (.step 5 (.step 6 (.step 7 (.step 8 (.step 9 (.prom 12 (.step 10 (.step 14 (.step 15 (.step 16 (.step 17 .done)))))))))))))))))))] Tryz.func223 (by kernel_rfl) (by kernel_rfl) h

end Go.Proofs

namespace Go.Proofs
open Go.AF
set_option linter.unusedVariables false
set_option maxRecDepth 100000
theorem vc_world_New {B0_0 : Option Addr} {m0_0 c0_0 : Nat} {B0_1 : Option Addr} {m0_1 c0_1 : Nat} {x0_2 : Int} {B0_3 : Option Addr} {m0_3 c0_3 : Nat} {M : Mem} {K : Value → Mem → Prop} {Kp : List PanicEntry → Mem → Prop} (h :
nwc M (.cells #[(.slice B0_0 m0_0 c0_0), (.slice B0_1 m0_1 c0_1), (.int .i64 x0_2), (.slice B0_3 m0_3 c0_3)] 41 (0, 0)) fun k1 M2 =>
exSl (Mem.ld M2 ⟨k1, 0, none⟩) fun A3 k4 k5 =>
exSl (Mem.ld M2 ⟨k1, (0 + 1), none⟩) fun A6 k7 k8 =>
exI (Mem.ld M2 ⟨k1, (0 + 2), none⟩) .i64 fun n9 =>
exSl (Mem.ld M2 ⟨k1, (0 + 3), none⟩) fun A10 k11 k12 =>
ACalls Tryz.prog 71 #[(.int .i64 0), (.int .i64 0)] M2 (fun v13 M14 =>
exSl (some v13) fun A15 k16 k17 =>
((Mem.lds M14 ⟨k1, 0, none⟩ 0 4) = some [(.slice A3 k4 k5), (.slice A6 k7 k8), (.int .i64 n9), (.slice A10 k11 k12)]) ∧
nwc M14 (.cells #[(.int .i64 1), (.slice A15 k16 k17), (.int .i64 0), (.int .i64 0), (.int .i64 0), (.int .i64 0)] 182 (0, 0)) fun k18 M19 =>
nwc M19 (.cells #[(.pointer (some ⟨k18, 0, none⟩))] 177 (0, 0)) fun k20 M21 =>
nwc M21 (.cells #[(.slice A3 k4 k5), (.slice A6 k7 k8), (.int .i64 n9), (.slice A10 k11 k12), (.slice (some ⟨k20, 0, none⟩) 1 1), (.int .u64 0), (.slice none 0 0), (.slice none 0 0), (.slice none 0 0), (.int .u64 0), (.slice none 0 0), (.int .i64 0), (.int .i64 0), (.slice none 0 0), .nilFunc] 164 (0, 0)) fun k22 M23 =>
exSl (Mem.ld M23 ⟨k1, (0 + 1), none⟩) fun A24 k25 k26 =>
∃ I27 : Nat → List Value → Mem → Prop, (∃ k28 : Nat, I27 k28 [(.int .i64 0)] M23) ∧
∀ k29 : Nat, ∀ junk30 : Nat → Value, ∀ n31 : Int, ∀ M32 : Mem, (I27 k29 [(.int .i64 n31)] M32) → bsp (decide ((n31 : Int) < ((k25 : Nat) : Int)))
 (((0 : Int) ≤ n31) ∧
  ((n31 : Int) < ((k25 : Nat) : Int)) ∧
  nilc A24 fun k33 k34 =>
  exI (Mem.ld M32 ⟨k33, (k34 + (Int.toNat n31)), none⟩) .i64 fun n35 =>
  ∃ J36 : List Value → Mem → Prop, ((exSl (Mem.ld M32 ⟨k22, (0 + 6), none⟩) fun A37 k38 k39 =>
    ACalls Tryz.prog 72 #[(.int .i64 n35)] M32 (fun v40 M41 =>
    exP (some v40) fun A42 =>
    nwc M41 (.cells #[(.pointer A42)] 183 (0, 0)) fun k43 M44 =>
    semK Tryz.prog (Go.Builtin.append_ #[159, 159] 159 #[(.slice A37 k38 k39), (.slice (some ⟨k43, 0, none⟩) 1 1)]) M44 (fun v45 M46 =>
    exSl (some v45) fun A47 k48 k49 =>
    stc M46 ⟨k22, (0 + 6), none⟩ (.slice A47 k48 k49) fun M50 =>
    J36 [] M50) Kp) Kp) ∧
   (ACalls Tryz.prog 72 #[(.int .i64 n35)] M32 (fun v51 M52 =>
    exP (some v51) fun A53 =>
    exSl (Mem.ld M52 ⟨k22, (0 + 6), none⟩) fun A54 k55 k56 =>
    nwc M52 (.cells #[(.pointer A53)] 183 (0, 0)) fun k57 M58 =>
    semK Tryz.prog (Go.Builtin.append_ #[159, 159] 159 #[(.slice A54 k55 k56), (.slice (some ⟨k57, 0, none⟩) 1 1)]) M58 (fun v59 M60 =>
    exSl (some v59) fun A61 k62 k63 =>
    stc M60 ⟨k22, (0 + 6), none⟩ (.slice A61 k62 k63) fun M64 =>
    J36 [] M64) Kp) Kp) ∧
   True) ∧
  ∀ junk65 : Nat → Value, ∀ M66 : Mem, (J36 [] M66) → ∃ k67 : Nat, (k67 < k29) ∧
  I27 k67 [(.int .i64 (IntKind.wrap .i64 (n31 + 1)))] M66)
 (exI (Mem.ld M32 ⟨k1, (0 + 2), none⟩) .i64 fun n68 =>
  ∃ I69 : Nat → List Value → Mem → Prop, (∃ k70 : Nat, I69 k70 [(.int .i64 0)] M32) ∧
  ∀ k71 : Nat, ∀ junk72 : Nat → Value, ∀ n73 : Int, ∀ M74 : Mem, (I69 k71 [(.int .i64 n73)] M74) → bsp (decide ((n73 : Int) < n68))
   (∃ J75 : List Value → Mem → Prop, ((exSl (Mem.ld M74 ⟨k22, (0 + 7), none⟩) fun A76 k77 k78 =>
      ACalls Tryz.prog 73 #[] M74 (fun v79 M80 =>
      exP (some v79) fun A81 =>
      nwc M80 (.cells #[(.pointer A81)] 185 (0, 0)) fun k82 M83 =>
      semK Tryz.prog (Go.Builtin.append_ #[160, 160] 160 #[(.slice A76 k77 k78), (.slice (some ⟨k82, 0, none⟩) 1 1)]) M83 (fun v84 M85 =>
      exSl (some v84) fun A86 k87 k88 =>
      stc M85 ⟨k22, (0 + 7), none⟩ (.slice A86 k87 k88) fun M89 =>
      J75 [] M89) Kp) Kp) ∧
     (ACalls Tryz.prog 73 #[] M74 (fun v90 M91 =>
      exP (some v90) fun A92 =>
      exSl (Mem.ld M91 ⟨k22, (0 + 7), none⟩) fun A93 k94 k95 =>
      nwc M91 (.cells #[(.pointer A92)] 185 (0, 0)) fun k96 M97 =>
      semK Tryz.prog (Go.Builtin.append_ #[160, 160] 160 #[(.slice A93 k94 k95), (.slice (some ⟨k96, 0, none⟩) 1 1)]) M97 (fun v98 M99 =>
      exSl (some v98) fun A100 k101 k102 =>
      stc M99 ⟨k22, (0 + 7), none⟩ (.slice A100 k101 k102) fun M103 =>
      J75 [] M103) Kp) Kp) ∧
     True) ∧
    ∀ junk104 : Nat → Value, ∀ M105 : Mem, (J75 [] M105) → ∃ k106 : Nat, (k106 < k71) ∧
    I69 k106 [(.int .i64 (IntKind.wrap .i64 (n73 + 1)))] M105)
   (K (.pointer (some ⟨k22, 0, none⟩)) M74))) Kp) :
  ACalls Tryz.prog 36 ([.agg #[.slice B0_0 m0_0 c0_0, .slice B0_1 m0_1 c0_1, .int .i64 x0_2, .slice B0_3 m0_3 c0_3]] : List Value).toArray M K Kp :=
  acalls_vc (C := Cx) good [(1, .reg [0, 0, 2, 6, 14, 31, 63, 127] (.prom 0 (.step 1 (.step 2 (.step 3 (.step 4 (.step 5 (.step 6 (.step 7 .done))))))))), (2000000, .loop [(16, .c (.int .i64))]), (5, .regc [0, 0, 2, 6, 14, 0, 32, 96, 254, 511, 1023, 2047] (.step 0 (.step 1 (.step 2 (.step 3 (.step 5 (.fork 4 (.step 6 (.step 7 (.step 8 (.step 9 (.step 10 (.step 11 .done)))))) (.fork 6 (.step 4 (.step 7 (.step 8 (.step 9 (.step 10 (.step 11 .done)))))) .dead))))))) []), (2000002, .loop [(34, .c (.int .i64))]), (9, .regc [0, 0, 2, 6, 14, 0, 32, 126, 255, 511, 1023] (.step 0 (.step 1 (.step 2 (.step 3 (.fork 4 (.step 5 (.step 6 (.step 7 (.step 8 (.step 9 (.step 10 .done)))))) (.fork 5 (.step 4 (.step 6 (.step 7 (.step 8 (.step 9 (.step 10 .done)))))) .dead)))))) [])] Tryz.func36 (by kernel_rfl) (by kernel_rfl) h

theorem vc_world_World_Exec {b0 o0 : Nat} {x1 : Int} {u2 : Value} {M : Mem} {K : Value → Mem → Prop} {Kp : List PanicEntry → Mem → Prop} (h :
nwc M (.cells #[(.bool false), (.slice none 0 0)] 120 (0, 0)) fun k1 M2 =>
bsp (decide ((x1 : Int) < 0))
 (stc M2 ⟨k1, 0, none⟩ (.bool false) fun M3 =>
  stc M3 ⟨k1, (0 + 1), none⟩ (.slice none 0 0) fun M4 =>
  exB (Mem.ld M4 ⟨k1, 0, none⟩) fun t5 =>
  exSl (Mem.ld M4 ⟨k1, (0 + 1), none⟩) fun A6 k7 k8 =>
  K (.agg #[(.bool t5), (.slice A6 k7 k8)]) M4)
 (exSl (Mem.ld M2 ⟨b0, (o0 + 4), none⟩) fun A9 k10 k11 =>
  bsp (decide ((x1 : Int) ≥ ((k10 : Nat) : Int)))
   (stc M2 ⟨k1, 0, none⟩ (.bool false) fun M12 =>
    stc M12 ⟨k1, (0 + 1), none⟩ (.slice none 0 0) fun M13 =>
    exB (Mem.ld M13 ⟨k1, 0, none⟩) fun t14 =>
    exSl (Mem.ld M13 ⟨k1, (0 + 1), none⟩) fun A15 k16 k17 =>
    K (.agg #[(.bool t14), (.slice A15 k16 k17)]) M13)
   (exI (Mem.ld M2 ⟨b0, (o0 + 11), none⟩) .i64 fun n18 =>
    bsp (n18 != 0)
     (stc M2 ⟨k1, 0, none⟩ (.bool false) fun M19 =>
      stc M19 ⟨k1, (0 + 1), none⟩ (.slice none 0 0) fun M20 =>
      exB (Mem.ld M20 ⟨k1, 0, none⟩) fun t21 =>
      exSl (Mem.ld M20 ⟨k1, (0 + 1), none⟩) fun A22 k23 k24 =>
      K (.agg #[(.bool t21), (.slice A22 k23 k24)]) M20)
     (exSl (Mem.ld M2 ⟨b0, (o0 + 4), none⟩) fun A25 k26 k27 =>
      ((0 : Int) ≤ x1) ∧
      ((x1 : Int) < ((k26 : Nat) : Int)) ∧
      nilc A25 fun k28 k29 =>
      exP (Mem.ld M2 ⟨k28, (k29 + (Int.toNat x1)), none⟩) fun A30 =>
      nilc A30 fun k31 k32 =>
      exI (Mem.ld M2 ⟨k31, k32, none⟩) .i64 fun n33 =>
      bsp (n33 != 1)
       (stc M2 ⟨k1, 0, none⟩ (.bool false) fun M34 =>
        stc M34 ⟨k1, (0 + 1), none⟩ (.slice none 0 0) fun M35 =>
        exB (Mem.ld M35 ⟨k1, 0, none⟩) fun t36 =>
        exSl (Mem.ld M35 ⟨k1, (0 + 1), none⟩) fun A37 k38 k39 =>
        K (.agg #[(.bool t36), (.slice A37 k38 k39)]) M35)
       (stc M2 ⟨b0, (o0 + 13), none⟩ (.slice none 0 0) fun M40 =>
        pcell u2 <|
        stc M40 ⟨b0, (o0 + 14), none⟩ u2 fun M41 =>
        ACalls Tryz.prog 88 #[(.pointer (some ⟨b0, o0, none⟩)), (.int .i64 x1)] M41 (fun v42 M43 =>
        exB (some v42) fun t44 =>
        bsp (!t44)
         (exI (Mem.ld M43 ⟨b0, (o0 + 11), none⟩) .i64 fun n45 =>
          bsp (n45 == 0)
           (exSl (Mem.ld M43 ⟨b0, (o0 + 4), none⟩) fun A46 k47 k48 =>
            ((0 : Int) ≤ x1) ∧
            ((x1 : Int) < ((k47 : Nat) : Int)) ∧
            nilc A46 fun k49 k50 =>
            exP (Mem.ld M43 ⟨k49, (k50 + (Int.toNat x1)), none⟩) fun A51 =>
            nilc A51 fun k52 k53 =>
            exI (Mem.ld M43 ⟨k52, k53, none⟩) .i64 fun n54 =>
            exSl (Mem.ld M43 ⟨b0, (o0 + 13), none⟩) fun A55 k56 k57 =>
            stc M43 ⟨k1, 0, none⟩ (.bool (n54 == 1)) fun M58 =>
            stc M58 ⟨k1, (0 + 1), none⟩ (.slice A55 k56 k57) fun M59 =>
            exB (Mem.ld M59 ⟨k1, 0, none⟩) fun t60 =>
            exSl (Mem.ld M59 ⟨k1, (0 + 1), none⟩) fun A61 k62 k63 =>
            K (.agg #[(.bool t60), (.slice A61 k62 k63)]) M59)
           (exSl (Mem.ld M43 ⟨b0, (o0 + 13), none⟩) fun A64 k65 k66 =>
            stc M43 ⟨k1, 0, none⟩ (.bool false) fun M67 =>
            stc M67 ⟨k1, (0 + 1), none⟩ (.slice A64 k65 k66) fun M68 =>
            exB (Mem.ld M68 ⟨k1, 0, none⟩) fun t69 =>
            exSl (Mem.ld M68 ⟨k1, (0 + 1), none⟩) fun A70 k71 k72 =>
            K (.agg #[(.bool t69), (.slice A70 k71 k72)]) M68))
         (exSl (Mem.ld M43 ⟨b0, (o0 + 13), none⟩) fun A73 k74 k75 =>
          stc M43 ⟨k1, 0, none⟩ (.bool false) fun M76 =>
          stc M76 ⟨k1, (0 + 1), none⟩ (.slice A73 k74 k75) fun M77 =>
          exB (Mem.ld M77 ⟨k1, 0, none⟩) fun t78 =>
          exSl (Mem.ld M77 ⟨k1, (0 + 1), none⟩) fun A79 k80 k81 =>
          K (.agg #[(.bool t78), (.slice A79 k80 k81)]) M77)) Kp))))) :
  ACalls Tryz.prog 41 ([.pointer (some ⟨b0, o0, none⟩), .int .i64 x1, u2] : List Value).toArray M K Kp :=
  acalls_vc (C := Cx) good [(5, .reg [0, 1, 3, 7, 15, 31, 63, 127, 255, 511, 1023, 2047, 4095, 8191, 1023, 32767, 65535, 131071, 262143, 524287, 1048575, 2097151, 0, 4194304, 12582912, 29360128, 67108863, 134217727] (.step 0 (.step 1 (.step 2 (.step 3 (.step 4 (.step 5 (.step 22 (.step 23 (.step 24 (.step 6 (.step 7 (.step 8 (.step 9 (.step 10 (.step 11 (.step 12 (.step 14 (.step 13 (.step 15 (.step 16 (.step 17 (.step 18 (.step 19 (.step 20 (.step 21 (.step 25 (.step 26 (.step 27 .done)))))))))))))))))))))))))))))] Tryz.func41 (by kernel_rfl) (by kernel_rfl) h

end Go.Proofs

namespace Go.Proofs
open Go.AF
set_option linter.unusedVariables false
set_option maxRecDepth 100000
theorem vc_world_World_Stuck {b0 o0 : Nat} {M : Mem} {K : Value → Mem → Prop} {Kp : List PanicEntry → Mem → Prop} (h :
exI (Mem.ld M ⟨b0, (o0 + 11), none⟩) .i64 fun n1 =>
bsp (n1 != 0)
 (K (.bool false) M)
 (exSl (Mem.ld M ⟨b0, (o0 + 4), none⟩) fun A2 k3 k4 =>
  ∃ I5 : Nat → List Value → Mem → Prop, (∃ k6 : Nat, I5 k6 [(.int .i64 0)] M) ∧
  ∀ k7 : Nat, ∀ junk8 : Nat → Value, ∀ n9 : Int, ∀ M10 : Mem, (I5 k7 [(.int .i64 n9)] M10) → bsp (decide ((n9 : Int) < ((k3 : Nat) : Int)))
   (((0 : Int) ≤ n9) ∧
    ((n9 : Int) < ((k3 : Nat) : Int)) ∧
    nilc A2 fun k11 k12 =>
    exP (Mem.ld M10 ⟨k11, (k12 + (Int.toNat n9)), none⟩) fun A13 =>
    nilc A13 fun k14 k15 =>
    exI (Mem.ld M10 ⟨k14, k15, none⟩) .i64 fun n16 =>
    bsp (n16 == 1)
     (K (.bool false) M10)
     (nilc A13 fun k17 k18 =>
      exI (Mem.ld M10 ⟨k17, k18, none⟩) .i64 fun n19 =>
      bsp (n19 == 3)
       (K (.bool false) M10)
       (∃ k20 : Nat, (k20 < k7) ∧
        I5 k20 [(.int .i64 (IntKind.wrap .i64 (n9 + 1)))] M10)))
   (K (.bool true) M10))) :
  ACalls Tryz.prog 44 ([.pointer (some ⟨b0, o0, none⟩)] : List Value).toArray M K Kp :=
  acalls_vc (C := Cx) good [(2000000, .loop [(15, .c (.int .i64))])] Tryz.func44 (by kernel_rfl) (by kernel_rfl) h

end Go.Proofs

namespace Go.Proofs
open Go.AF
set_option linter.unusedVariables false
set_option maxRecDepth 100000
theorem vc_source_Oracle {B0 : Option Addr} {m0 c0 : Nat} {M : Mem} {K : Value → Mem → Prop} {Kp : List PanicEntry → Mem → Prop} (h :
nwc M (.cells #[] 36 (0, 0)) fun k1 M2 =>
semK Tryz.prog (Go.Builtin.append_ #[35, 35] 35 #[(.slice (some ⟨k1, 0, none⟩) 0 0), (.slice B0 m0 c0)]) M2 (fun v3 M4 =>
exSl (some v3) fun A5 k6 k7 =>
nwc M4 (.cells #[(.slice A5 k6 k7), (.int .i64 0)] 147 (0, 0)) fun k8 M9 =>
nwc M9 (.cells #[(.func (.func 54) #[(.pointer (some ⟨k8, 0, none⟩))] #[]), (.func (.func 55) #[(.pointer (some ⟨k8, 0, none⟩))] #[]), (.slice none 0 0), .nilFunc] 151 (0, 0)) fun k10 M11 =>
K (.pointer (some ⟨k10, 0, none⟩)) M11) Kp) :
  ACalls Tryz.prog 17 ([.slice B0 m0 c0] : List Value).toArray M K Kp :=
  acalls_vc (C := Cx) good [] Tryz.func17 (by kernel_rfl) (by kernel_rfl) h

theorem vc_source_oracle_draw {b0 o0 : Nat} {x1 : Int} {x2 : Int} {M : Mem} {K : Value → Mem → Prop} {Kp : List PanicEntry → Mem → Prop} (h :
exI (Mem.ld M ⟨b0, (o0 + 1), none⟩) .i64 fun n1 =>
exSl (Mem.ld M ⟨b0, o0, none⟩) fun A2 k3 k4 =>
bsp (decide ((n1 : Int) ≥ ((k3 : Nat) : Int)))
 (Kp [{ v := (.iface 227 (.agg #[])), recovered := false }] M)
 (exI (Mem.ld M ⟨b0, (o0 + 1), none⟩) .i64 fun n5 =>
  stc M ⟨b0, (o0 + 1), none⟩ (.int .i64 (IntKind.wrap .i64 (n5 + 1))) fun M6 =>
  exSl (Mem.ld M6 ⟨b0, o0, none⟩) fun A7 k8 k9 =>
  exI (Mem.ld M6 ⟨b0, (o0 + 1), none⟩) .i64 fun n10 =>
  ((0 : Int) ≤ (IntKind.wrap .i64 (n10 - 1))) ∧
  (((IntKind.wrap .i64 (n10 - 1)) : Int) < ((k8 : Nat) : Int)) ∧
  nilc A7 fun k11 k12 =>
  exI (Mem.ld M6 ⟨k11, (k12 + (Int.toNat (IntKind.wrap .i64 (n10 - 1)))), none⟩) .u64 fun n13 =>
  (((IntKind.wrap .u64 x2) : Int) ≠ 0) ∧
  K (.int .u64 (Int.tmod n13 (IntKind.wrap .u64 x2))) M6)) :
  ACalls Tryz.prog 54 ([.pointer (some ⟨b0, o0, none⟩), .int .i64 x1, .int .i64 x2] : List Value).toArray M K Kp :=
  acalls_vc (C := Cx) good [(1, .reg [0, 1, 3, 7, 0, 16, 48, 112, 240, 511] (.step 0 (.step 1 (.step 2 (.step 4 (.step 5 (.step 6 (.step 3 (.step 7 (.step 8 (.step 9 .done))))))))))), (4, .reg [0, 1, 3, 7, 0, 16, 48, 112, 240, 511, 1023, 0, 2048, 8191, 16383] (.step 0 (.step 1 (.step 2 (.step 4 (.step 5 (.step 6 (.step 11 (.step 12 (.step 3 (.step 7 (.step 8 (.step 9 (.step 10 (.step 13 (.step 14 .done))))))))))))))))] Tryz.func54 (by kernel_rfl) (by kernel_rfl) h

theorem vc_source_Guard {u0 : Value} {M : Mem} {K : Value → Mem → Prop} {Kp : List PanicEntry → Mem → Prop} (h :
nwc M (.cells #[(.int .i64 0), (.int .i64 0), (.int .i64 0), (.int .i64 0), (.int .u64 0)] 155 (0, 0)) fun k1 M2 =>
nwc M2 (.cells #[(.int .i64 0)] 3 (0, 0)) fun k3 M4 =>
nwc M4 (.cells #[(.int .i64 0), (.int .i64 0), (.int .i64 0), (.int .i64 0), (.int .u64 0)] 155 (0, 0)) fun k5 M6 =>
stc M6 ⟨k3, 0, none⟩ (.int .i64 0) fun M7 =>
stc M7 ⟨k5, 0, none⟩ (.int .i64 0) fun M8 =>
stc M8 ⟨k5, (0 + 1), none⟩ (.int .i64 0) fun M9 =>
stc M9 ⟨k5, (0 + 2), none⟩ (.int .i64 0) fun M10 =>
stc M10 ⟨k5, (0 + 3), none⟩ (.int .i64 0) fun M11 =>
stc M11 ⟨k5, (0 + 4), none⟩ (.int .u64 0) fun M12 =>
ACalls Tryz.prog 104 #[u0, (.pointer (some ⟨k3, 0, none⟩)), (.pointer (some ⟨k5, 0, none⟩))] M12 (fun v13 M14 =>
(v13 = (.tuple #[])) ∧
exI (Mem.ld M14 ⟨k3, 0, none⟩) .i64 fun n15 =>
exI (Mem.ld M14 ⟨k5, 0, none⟩) .i64 fun n16 =>
exI (Mem.ld M14 ⟨k5, (0 + 1), none⟩) .i64 fun n17 =>
exI (Mem.ld M14 ⟨k5, (0 + 2), none⟩) .i64 fun n18 =>
exI (Mem.ld M14 ⟨k5, (0 + 3), none⟩) .i64 fun n19 =>
exI (Mem.ld M14 ⟨k5, (0 + 4), none⟩) .u64 fun n20 =>
stc M14 ⟨k1, 0, none⟩ (.int .i64 n16) fun M21 =>
stc M21 ⟨k1, (0 + 1), none⟩ (.int .i64 n17) fun M22 =>
stc M22 ⟨k1, (0 + 2), none⟩ (.int .i64 n18) fun M23 =>
stc M23 ⟨k1, (0 + 3), none⟩ (.int .i64 n19) fun M24 =>
stc M24 ⟨k1, (0 + 4), none⟩ (.int .u64 n20) fun M25 =>
exI (Mem.ld M25 ⟨k1, 0, none⟩) .i64 fun n26 =>
exI (Mem.ld M25 ⟨k1, (0 + 1), none⟩) .i64 fun n27 =>
exI (Mem.ld M25 ⟨k1, (0 + 2), none⟩) .i64 fun n28 =>
exI (Mem.ld M25 ⟨k1, (0 + 3), none⟩) .i64 fun n29 =>
exI (Mem.ld M25 ⟨k1, (0 + 4), none⟩) .u64 fun n30 =>
K (.tuple #[(.int .i64 n15), (.agg #[(.int .i64 n26), (.int .i64 n27), (.int .i64 n28), (.int .i64 n29), (.int .u64 n30)])]) M25) Kp) :
  ACalls Tryz.prog 56 ([u0] : List Value).toArray M K Kp :=
  acalls_vc (C := Cx) good [(3, .reg [0, 0, 1, 7] (.step 0 (.step 2 (.step 1 (.step 3 .done)))))] Tryz.func56 (by kernel_rfl) (by kernel_rfl) h

theorem vc_source_tape_draw {b0 o0 : Nat} {x1 : Int} {x2 : Int} {M : Mem} {K : Value → Mem → Prop} {Kp : List PanicEntry → Mem → Prop} (h :
exI (Mem.ld M ⟨b0, (o0 + 1), none⟩) .i64 fun n1 =>
exSl (Mem.ld M ⟨b0, o0, none⟩) fun A2 k3 k4 =>
bsp (decide ((n1 : Int) ≥ ((k3 : Nat) : Int)))
 (Kp [{ v := (.iface 227 (.agg #[])), recovered := false }] M)
 (exSl (Mem.ld M ⟨b0, o0, none⟩) fun A5 k6 k7 =>
  exI (Mem.ld M ⟨b0, (o0 + 1), none⟩) .i64 fun n8 =>
  ((0 : Int) ≤ n8) ∧
  ((n8 : Int) < ((k6 : Nat) : Int)) ∧
  nilc A5 fun k9 k10 =>
  exI (Mem.ld M ⟨k9, (k10 + ((Int.toNat n8) * 2)), none⟩) .i64 fun n11 =>
  exI (Mem.ld M ⟨k9, ((k10 + ((Int.toNat n8) * 2)) + 1), none⟩) .u64 fun n12 =>
  nwc M (.cells #[(.int .i64 0), (.int .u64 0)] 153 (0, 0)) fun k13 M14 =>
  stc M14 ⟨k13, 0, none⟩ (.int .i64 n11) fun M15 =>
  stc M15 ⟨k13, (0 + 1), none⟩ (.int .u64 n12) fun M16 =>
  exI (Mem.ld M16 ⟨k13, 0, none⟩) .i64 fun n17 =>
  bsp (n17 != x1)
   (exI (Mem.ld M16 ⟨b0, (o0 + 1), none⟩) .i64 fun n18 =>
    exI (Mem.ld M16 ⟨k13, 0, none⟩) .i64 fun n19 =>
    exI (Mem.ld M16 ⟨k13, (0 + 1), none⟩) .u64 fun n20 =>
    Kp [{ v := (.iface 155 (.agg #[(.int .i64 n18), (.int .i64 x1), (.int .i64 x2), (.int .i64 n19), (.int .u64 n20)])), recovered := false }] M16)
   (exI (Mem.ld M16 ⟨k13, (0 + 1), none⟩) .u64 fun n21 =>
    bsp (decide ((n21 : Int) ≥ (IntKind.wrap .u64 x2)))
     (exI (Mem.ld M16 ⟨b0, (o0 + 1), none⟩) .i64 fun n22 =>
      exI (Mem.ld M16 ⟨k13, 0, none⟩) .i64 fun n23 =>
      exI (Mem.ld M16 ⟨k13, (0 + 1), none⟩) .u64 fun n24 =>
      Kp [{ v := (.iface 155 (.agg #[(.int .i64 n22), (.int .i64 x1), (.int .i64 x2), (.int .i64 n23), (.int .u64 n24)])), recovered := false }] M16)
     (exI (Mem.ld M16 ⟨b0, (o0 + 1), none⟩) .i64 fun n25 =>
      stc M16 ⟨b0, (o0 + 1), none⟩ (.int .i64 (IntKind.wrap .i64 (n25 + 1))) fun M26 =>
      exI (Mem.ld M26 ⟨k13, (0 + 1), none⟩) .u64 fun n27 =>
      K (.int .u64 n27) M26)))) :
  ACalls Tryz.prog 66 ([.pointer (some ⟨b0, o0, none⟩), .int .i64 x1, .int .i64 x2] : List Value).toArray M K Kp :=
  acalls_vc (C := Cx) good [(1, .reg [0, 1, 3, 7, 0, 16, 48, 112, 240, 511] (.step 0 (.step 1 (.step 2 (.step 4 (.step 5 (.step 6 (.step 3 (.step 7 (.step 8 (.step 9 .done))))))))))), (3, .reg [0, 1, 3, 7, 0, 16, 48, 112, 255, 511, 0, 2047] (.step 0 (.step 1 (.step 2 (.step 4 (.step 5 (.step 6 (.step 3 (.step 7 (.step 8 (.step 9 (.step 10 (.step 11 .done))))))))))))), (5, .reg [0, 1, 3, 7, 0, 0, 0, 127, 255, 511] (.step 0 (.step 1 (.step 2 (.step 4 (.step 5 (.step 3 (.step 6 (.step 7 (.step 8 (.step 9 .done)))))))))))] Tryz.func66 (by kernel_rfl) (by kernel_rfl) h

theorem vc_source_Source_Draw {b0 o0 : Nat} {x1 : Int} {x2 : Int} {M : Mem} {K : Value → Mem → Prop} {Kp : List PanicEntry → Mem → Prop} (h :
exV (Mem.ld M ⟨b0, o0, none⟩) fun v1 =>
callK Cx v1 [(.int .i64 x1), (.int .i64 (if (1 : Int) > x2 then 1 else x2))] M (fun v2 M3 =>
exI (some v2) .u64 fun n4 =>
nwc M3 (.cells #[(.int .i64 0), (.int .u64 0)] 153 (0, 0)) fun k5 M6 =>
stc M6 ⟨k5, 0, none⟩ (.int .i64 x1) fun M7 =>
stc M7 ⟨k5, (0 + 1), none⟩ (.int .u64 n4) fun M8 =>
exSl (Mem.ld M8 ⟨b0, (o0 + 2), none⟩) fun A9 k10 k11 =>
exI (Mem.ld M8 ⟨k5, 0, none⟩) .i64 fun n12 =>
exI (Mem.ld M8 ⟨k5, (0 + 1), none⟩) .u64 fun n13 =>
nwc M8 (.cells #[(.int .i64 n12), (.int .u64 n13)] 153 (0, 0)) fun k14 M15 =>
semK Tryz.prog (Go.Builtin.append_ #[97, 97] 97 #[(.slice A9 k10 k11), (.slice (some ⟨k14, 0, none⟩) 1 1)]) M15 (fun v16 M17 =>
exSl (some v16) fun A18 k19 k20 =>
stc M17 ⟨b0, (o0 + 2), none⟩ (.slice A18 k19 k20) fun M21 =>
exV (Mem.ld M21 ⟨b0, (o0 + 3), none⟩) fun v22 =>
fnilc v22 fun t23 =>
bsp (!t23)
 (exV (Mem.ld M21 ⟨b0, (o0 + 3), none⟩) fun v24 =>
  exI (Mem.ld M21 ⟨k5, 0, none⟩) .i64 fun n25 =>
  exI (Mem.ld M21 ⟨k5, (0 + 1), none⟩) .u64 fun n26 =>
  callK Cx v24 [(.agg #[(.int .i64 n25), (.int .u64 n26)])] M21 (fun v27 M28 =>
  (v27 = (.tuple #[])) ∧
  exI (Mem.ld M28 ⟨k5, (0 + 1), none⟩) .u64 fun n29 =>
  K (.int .i64 (IntKind.wrap .i64 n29)) M28) Kp)
 (exI (Mem.ld M21 ⟨k5, (0 + 1), none⟩) .u64 fun n30 =>
  K (.int .i64 (IntKind.wrap .i64 n30)) M21)) Kp) Kp) :
  ACalls Tryz.prog 98 ([.pointer (some ⟨b0, o0, none⟩), .int .i64 x1, .int .i64 x2] : List Value).toArray M K Kp :=
  acalls_vc (C := Cx) good [(2, .reg [0, 0, 2, 6, 14, 0, 32, 126, 255, 511, 1023] (.step 0 (.step 1 (.step 2 (.step 3 (.step 4 (.step 5 (.step 6 (.step 7 (.step 8 (.step 9 (.step 10 .done)))))))))))), (4, .reg [0, 1, 3, 7, 0, 31] (.step 0 (.step 1 (.step 2 (.step 3 (.step 4 (.step 5 .done)))))))] Tryz.func98 (by kernel_rfl) (by kernel_rfl) h

end Go.Proofs
