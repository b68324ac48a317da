/- A part of proofs about one program. -/
import Derived.Test.YtnnlgknlialpmaaGreatZSnapAlike0
set_option linter.unusedVariables false
namespace Go.Proofs
open Go.AF
set_option maxRecDepth 100000
theorem qN {nA : Int} {AE : Int} {fR : Int} {Qi : Int} {M : Mem} {K : Value → Mem → Prop} {Kp : List PanicEntry → Mem → Prop} (h :
aX M (cl [(iV nA), (iV AE), (iV fR), (iV Qi)] 23) fun k1 M2 =>
aX M2 Mo fun k3 M4 =>
bM M4 k1 0 fun n5 n6 n7 n8 =>
aa Tryz.prog 55 #[(iV n5), (iV 5)] M4 (fun v9 gy =>
aK (some v9) .i64 fun eD =>
eI gy k1 3 n8 ∧
eI gy k1 2 n7 ∧
eI gy k1 1 n6 ∧
aa Tryz.prog 55 #[(iV n6), (iV 5)] gy (fun zK jy =>
aK (some zK) .i64 fun jX =>
eI jy k1 3 n8 ∧
eI jy k1 2 n7 ∧
eI jy k1 1 n6 ∧
aa Tryz.prog 55 #[(iV n7), (iV 5)] jy (fun ur dZ =>
aK (some ur) .i64 fun iB =>
eI dZ k1 3 n8 ∧
eI dZ k1 2 n7 ∧
eI dZ k1 1 n6 ∧
aa Tryz.prog 55 #[(iV n8), (iV 12)] dZ (fun Ci jx =>
aK (some Ci) .i64 fun fB =>
eI jx k1 3 n8 ∧
eI jx k1 2 n7 ∧
eI jx k1 1 n6 ∧
kI jx k3 (iV (IntKind.wrap .i64 (1 + eD))) (iV (IntKind.wrap .i64 (1 + jX))) (iV (IntKind.wrap .i64 (2 + iB))) (iV (IntKind.wrap .i64 (1 + fB))) fun kL =>
eI kL k1 3 n8 ∧
eI kL k1 2 n7 ∧
eI kL k1 1 n6 ∧
bM kL k3 0 fun m7 nC w7 ux =>
K (.agg #[(iV m7), (iV nC), (iV w7), (iV ux)]) kL) Kp) Kp) Kp) Kp) :
 aa Tryz.prog 14 #[.agg #[.int .i64 nA, .int .i64 AE, .int .i64 fR, .int .i64 Qi]] M K Kp := vw [(2, .bS [0, 0, 2, 7, 15, 0, 0, 64, 239, 495, 0, 0, 2048, 7663, 15855, 0, 0, 65536, 245231, 507375, 1048575, 2097151] (sy [0, 1, 5, 6, 10, 11, 15, 16, 2] (.cY 7 (.cY 12 (.cY 17 (sy [3, 4, 8, 9, 13, 14, 18, 19, 20, 21] .done))))))] Tryz.func14 h
theorem oM {x0 : Int} {x1 : Int} {M : Mem} {K : Value → Mem → Prop} {Kp : List PanicEntry → Mem → Prop} (h :
((x1 : Int) ≠ 0) ∧
K (iV (Int.tmod (IntKind.wrap .i64 (((Nat.bitwise and (BitVec.ofInt IntKind.i64.bits x0).toNat (BitVec.ofInt IntKind.i64.bits 255).toNat) : Nat) : Int)) x1)) M) :
 aa Tryz.prog 55 #[.int .i64 x0, .int .i64 x1] M K Kp := vw [] Tryz.func55 h
theorem qO {b0 o0 : Nat} {M : Mem} {K : Value → Mem → Prop} {Kp : List PanicEntry → Mem → Prop} (h :
aX M (cl [(.pointer (some ⟨b0, o0, none⟩))] 33) fun k1 M2 =>
aX M2 nu fun k3 M4 =>
aX M4 nu fun k5 M6 =>
aa Tryz.prog 61 #[(.func (.func 62) #[] #[(.pointer (some ⟨k1, 0, none⟩)), (.pointer (some ⟨k5, 0, none⟩))])] M6 (fun v7 M8 =>
∃ n9 jA eD ik iq jX : Int, (v7 = (.tuple #[(iV n9), (.agg #[(iV jA), (iV eD), (iV ik), (iV iq), (.int .u64 jX)])])) ∧
aX M8 uo fun hU dZ =>
sT5 dZ hU (iV jA) (iV eD) (iV ik) (iV iq) (.int .u64 jX) fun jC =>
F7 jC k5 0 fun oE oG zl Mw jW nw =>
kI jC k3 (iV oE) (iV oG) (iV zl) (.slice Mw jW nw) fun Jd =>
F7 Jd k3 0 fun n32 sG Pt A35 Mz uA =>
K (.tuple #[(.agg #[(iV n32), (iV sG), (iV Pt), (.slice A35 Mz uA)]), (iV n9)]) Jd) Kp) :
 aa Tryz.prog 17 #[.pointer (some ⟨b0, o0, none⟩)] M K Kp := vw [] Tryz.func17 h
theorem je {b0 o0 : Nat} {b1 o1 : Nat} {M : Mem} {K : Value → Mem → Prop} {Kp : List PanicEntry → Mem → Prop} (h :
rP M b0 o0 fun A1 =>
aa Tryz.prog 54 #[(.pointer A1)] M (fun v2 M3 =>
∃ n4 n5 n6 : Int, ∃ A7 : Option Addr, ∃ k8 k9 : Nat, (v2 = (.agg #[(iV n4), (iV n5), (iV n6), (.slice A7 k8 k9)])) ∧
sT M3 b1 o1 (iV n4) fun gy =>
sT gy b1 (o1 + 1) (iV n5) fun iO =>
sT iO b1 (o1 + 2) (iV n6) fun jP =>
sT jP b1 (o1 + 3) (.slice A7 k8 k9) fun jy =>
K (.tuple #[]) jy) Kp) :
 aa Tryz.prog 62 #[.pointer (some ⟨b0, o0, none⟩), .pointer (some ⟨b1, o1, none⟩)] M K Kp := vw [] Tryz.func62 h
variable {M : Mem} {K : Value → Mem → Prop} {Kp : List PanicEntry → Mem → Prop}
theorem GI {b0 o0 : Nat} {x1 : Int} {x2 : Int} (h :
aa Tryz.prog 83 #[(.pointer (some ⟨b0, o0, none⟩))] M (fun v1 M2 =>
az (some v1) fun A3 k4 k5 =>
aa Tryz.prog 18 #[(.pointer (some ⟨b0, o0, none⟩))] M2 (fun v6 M7 =>
cw (some v6) fun A8 =>
aa Tryz.prog 41 #[(.pointer A8), (iV x1), (iV x2)] M7 (fun v9 gy =>
az (some v9) fun Jc gx de =>
aA 53 A3 k4 k5 Jc gx de gy (fun Wh r8 =>
az (some Wh) fun K0 ei dJ =>
K (.slice K0 ei dJ) r8) Kp) Kp) Kp) Kp) :
 aa Tryz.prog 40 #[.pointer (some ⟨b0, o0, none⟩), .int .i64 x1, .int .i64 x2] M K Kp := vw [] Tryz.func40 h
theorem Cy {b0 o0 : Nat} {x1 : Int} {x2 : Int} (h :
aX M KP fun k1 M2 =>
aX M2 KQ fun k3 M4 =>
sT M4 k3 0 (.pointer (some ⟨k1, 0, none⟩)) fun M5 =>
aa Tryz.prog 28 #[(.pointer (some ⟨b0, o0, none⟩))] M5 (fun v6 M7 =>
∃ n8 n9 : Int, (v6 = (.tuple #[(iV n8), (iV n9)])) ∧
rP M7 k3 0 fun yG =>
aa Tryz.prog 84 #[(.pointer yG), (iV n8)] M7 (fun v11 jP =>
(v11 = (.tuple #[])) ∧
rP jP k3 0 fun Fp =>
aa Tryz.prog 84 #[(.pointer Fp), (iV n9)] jP (fun Wh r8 =>
(Wh = (.tuple #[])) ∧
rP r8 k3 0 fun K0 =>
aa Tryz.prog 86 #[(.pointer (some ⟨b0, o0, none⟩))] r8 (fun SJ m6 =>
aK (some SJ) .u64 fun rY =>
((Mem.ld m6 ⟨k3, 0, none⟩) = (some (.pointer K0))) ∧
aX m6 (cl [(iV (IntKind.wrap .i64 rY))] 2) fun g7 jC =>
aa Tryz.prog 85 #[(.pointer K0), (.slice (some ⟨g7, 0, none⟩) 1 1)] jC (fun zd gB =>
(zd = (.tuple #[])) ∧
((Mem.ld gB ⟨k3, 0, none⟩) = (some (.pointer K0))) ∧
rP gB k3 0 fun ze =>
aa Tryz.prog 87 #[(.pointer ze), (.pointer (some ⟨b0, o0, none⟩))] gB (fun MB vr =>
(MB = (.tuple #[])) ∧
∃ Wj : IT, (∃ kF, Wj kF [(iV 0)] vr) ∧
∀ (mo : Nat) (_ : Nat → Value) (vR : Int) (oF : Mem), (Wj mo [(iV vR)] oF) → aS (decide (vR < x1))
 (rP oF k3 0 fun Ge =>
 aa Tryz.prog 89 #[(.pointer (some ⟨b0, o0, none⟩)), (iV vR)] oF (fun Ws pM =>
 ∃ ME : Option Addr, ∃ uA ia : Nat, ∃ Pf : Option Addr, ∃ zN En : Nat, ∃ Ep : Option Addr, ∃ qq zh : Nat, ∃ t45 : Bool, (Ws = (.agg #[(.slice ME uA ia), (.slice Pf zN En), (.slice Ep qq zh), (.bool t45)])) ∧
 ((Mem.ld pM ⟨k3, 0, none⟩) = (some (.pointer Ge))) ∧
 aa Tryz.prog 88 #[(.pointer Ge), (.agg #[(.slice ME uA ia), (.slice Pf zN En), (.slice Ep qq zh), (.bool t45)])] pM (fun XA uF =>
 (XA = (.tuple #[])) ∧
 ((Mem.ld uF ⟨k3, 0, none⟩) = (some (.pointer Ge))) ∧
 ∃ Dm : Nat, (Dm < mo) ∧
 Wj Dm [(iV (IntKind.wrap .i64 (vR + 1)))] uF) Kp) Kp)
 (∃ I49 : IT, (∃ zi, I49 zi [(iV 0)] oF) ∧
 ∀ (H8 : Nat) (_ : Nat → Value) (MF : Int) (Gc : Mem), (I49 H8 [(iV MF)] Gc) → aS (decide (MF < x2))
 (aa Tryz.prog 90 #[(.pointer (some ⟨b0, o0, none⟩)), (iV MF)] Gc (fun V9 UM =>
 ∃ RL : Int, ∃ MT : Option Addr, ∃ UN N8 : Nat, (V9 = (.tuple #[(iV RL), (.slice MT UN N8)])) ∧
 rP UM k3 0 fun Wl =>
 aa Tryz.prog 84 #[(.pointer Wl), (iV RL)] UM (fun SH w5 =>
 (SH = (.tuple #[])) ∧
 rP w5 k3 0 fun ZC =>
 aa Tryz.prog 91 #[(.pointer ZC), (.slice MT UN N8)] w5 (fun v65 UY =>
 (v65 = (.tuple #[])) ∧
 ∃ xd : Nat, (xd < H8) ∧
 I49 xd [(iV (IntKind.wrap .i64 (MF + 1)))] UY) Kp) Kp) Kp)
 (aa Tryz.prog 19 #[(.pointer (some ⟨b0, o0, none⟩))] Gc (fun v68 M69 =>
 az (some v68) fun ZE Gr Ji =>
 rP M69 k3 0 fun A73 =>
 aa Tryz.prog 84 #[(.pointer A73), (iV (Gr : Int))] M69 (fun v74 xJ =>
 (v74 = (.tuple #[])) ∧
 ∃ I76 : IT, (∃ SM, I76 SM [(iV 0)] xJ) ∧
 ∀ (Oc : Nat) (_ : Nat → Value) (RH : Int) (Jj : Mem), (I76 Oc [(iV RH)] Jj) → aS (decide (RH < Gr))
 ((0 ≤ RH) ∧
 (RH < Gr) ∧
 aE ZE fun Jf zQ =>
 rUUI Jj Jf (zQ + ((Int.toNat RH) * 3)) fun IS RQ n86 =>
 aX Jj Mp fun RM RT =>
 Fo RT RM (.int .u64 IS) (.int .u64 RQ) (iV n86) fun mh =>
 rP mh k3 0 fun SN =>
 rUUI mh RM 0 fun S9 Pg IU =>
 aX mh (cl [(iV (IntKind.wrap .i64 S9)), (iV (IntKind.wrap .i64 Pg)), (iV IU)] 2) fun U1 K2 =>
 aa Tryz.prog 85 #[(.pointer SN), (.slice (some ⟨U1, 0, none⟩) 3 3)] K2 (fun v98 Wn =>
 (v98 = (.tuple #[])) ∧
 ∃ Ta : Nat, (Ta < Oc) ∧
 I76 Ta [(iV (IntKind.wrap .i64 (RH + 1)))] Wn) Kp)
 (rP Jj k3 0 fun MJ =>
 aa Tryz.prog 23 #[(.pointer (some ⟨b0, o0, none⟩))] Jj (fun XB Ez =>
 az (some XB) fun A104 Tb wj =>
 ((Mem.ld Ez ⟨k3, 0, none⟩) = (some (.pointer MJ))) ∧
 aa Tryz.prog 92 #[(.pointer MJ), (.slice A104 Tb wj), (.func (.func 93) #[] #[(.pointer (some ⟨k3, 0, none⟩))])] Ez (fun v107 uS =>
 (v107 = (.tuple #[])) ∧
 ((Mem.ld uS ⟨k3, 0, none⟩) = (some (.pointer MJ))) ∧
 rP uS k3 0 fun A109 =>
 aE A109 fun GC Qj =>
 rS uS GC Qj fun XC AR PG =>
 K (.slice XC AR PG) uS) Kp) Kp)) Kp) Kp))) Kp) Kp) Kp) Kp) Kp) Kp) :
 aa Tryz.prog 41 #[.pointer (some ⟨b0, o0, none⟩), .int .i64 x1, .int .i64 x2] M K Kp := vw [(5, .bS [0, 0, 2, 6, 14, 31] (sy [1] (.cY 0 (sy [2, 3, 4, 5] .done)))), (2000000, .loop [(40, .c (.int .i64))]), (10, .bS [0, 0, 0, 6, 15] (sy [1, 2] (.cY 0 (sy [3, 4] .done)))), (2000002, .loop [(50, .c (.int .i64))]), (2000004, .loop [(74, .c (.int .i64))]), (26, .bS [0, 0, 2, 0, 15] (sy [1, 3] (.cY 0 (sy [2, 4] .done))))] Tryz.func41 h
theorem zw {x0 : Int} {b1 o1 : Nat} (h :
rP M b1 o1 fun A1 =>
aX M (cl [(iV x0)] 2) fun k2 M3 =>
aa Tryz.prog 85 #[(.pointer A1), (.slice (some ⟨k2, 0, none⟩) 1 1)] M3 (fun v4 M5 =>
(v4 = (.tuple #[])) ∧
K (.tuple #[]) M5) Kp) :
 aa Tryz.prog 93 #[.int .i64 x0, .pointer (some ⟨b1, o1, none⟩)] M K Kp := vw [] Tryz.func93 h
theorem AW {b0 o0 : Nat} (h :
aX M KP fun k1 M2 =>
aX M2 KQ fun k3 M4 =>
sT M4 k3 0 (.pointer (some ⟨k1, 0, none⟩)) fun M5 =>
rP M5 k3 0 fun A6 =>
aa Tryz.prog 35 #[(.pointer (some ⟨b0, o0, none⟩))] M5 (fun v7 M8 =>
aK (some v7) .i64 fun n9 =>
((Mem.ld M8 ⟨k3, 0, none⟩) = (some (.pointer A6))) ∧
aa Tryz.prog 84 #[(.pointer A6), (iV n9)] M8 (fun v10 iO =>
(v10 = (.tuple #[])) ∧
((Mem.ld iO ⟨k3, 0, none⟩) = (some (.pointer A6))) ∧
rP iO k3 0 fun nx =>
aa Tryz.prog 22 #[(.pointer (some ⟨b0, o0, none⟩))] iO (fun Fm jO =>
aK (some Fm) .i64 fun iA =>
((Mem.ld jO ⟨k3, 0, none⟩) = (some (.pointer nx))) ∧
aa Tryz.prog 84 #[(.pointer nx), (iV iA)] jO (fun MC lG =>
(MC = (.tuple #[])) ∧
((Mem.ld lG ⟨k3, 0, none⟩) = (some (.pointer nx))) ∧
rP lG k3 0 fun H7 =>
aa Tryz.prog 20 #[(.pointer (some ⟨b0, o0, none⟩))] lG (fun Jb mb =>
az (some Jb) fun zk gF iT =>
((Mem.ld mb ⟨k3, 0, none⟩) = (some (.pointer H7))) ∧
aa Tryz.prog 91 #[(.pointer H7), (.slice zk gF iT)] mb (fun Wg Fq =>
(Wg = (.tuple #[])) ∧
((Mem.ld Fq ⟨k3, 0, none⟩) = (some (.pointer H7))) ∧
rP Fq k3 0 fun Ft =>
aa Tryz.prog 126 #[(.pointer (some ⟨b0, o0, none⟩))] Fq (fun IW w4 =>
az (some IW) fun RI mq mu =>
((Mem.ld w4 ⟨k3, 0, none⟩) = (some (.pointer Ft))) ∧
aa Tryz.prog 125 #[(.pointer Ft), (.slice RI mq mu), (.func (.func 127) #[] #[(.pointer (some ⟨k3, 0, none⟩))])] w4 (fun v32 vq =>
(v32 = (.tuple #[])) ∧
((Mem.ld vq ⟨k3, 0, none⟩) = (some (.pointer Ft))) ∧
rP vq k3 0 fun A34 =>
aa Tryz.prog 129 #[(.pointer (some ⟨b0, o0, none⟩))] vq (fun v35 Cj =>
az (some v35) fun H9 ia uu =>
((Mem.ld Cj ⟨k3, 0, none⟩) = (some (.pointer A34))) ∧
aa Tryz.prog 128 #[(.pointer A34), (.slice H9 ia uu), (.func (.func 130) #[] #[(.pointer (some ⟨k3, 0, none⟩))])] Cj (fun Es uB =>
(Es = (.tuple #[])) ∧
((Mem.ld uB ⟨k3, 0, none⟩) = (some (.pointer A34))) ∧
rP uB k3 0 fun Ep =>
aE Ep fun qq zh =>
rS uB qq zh fun UT Ch KU =>
K (.slice UT Ch KU) uB) Kp) Kp) Kp) Kp) Kp) Kp) Kp) Kp) Kp) Kp) :
 aa Tryz.prog 83 #[.pointer (some ⟨b0, o0, none⟩)] M K Kp := vw [(2, .bS [0, 0, 2, 7] (sy [1] (.cY 0 (sy [2, 3] .done)))), (3, .bS [0, 0, 2, 7] (sy [1] (.cY 0 (sy [2, 3] .done)))), (4, .bS [0, 0, 2, 7] (sy [1] (.cY 0 (sy [2, 3] .done)))), (5, .bS [0, 0, 2, 0, 15] (sy [1, 3] (.cY 0 (sy [2, 4] .done)))), (6, .bS [0, 0, 2, 0, 15] (sy [1, 3] (.cY 0 (sy [2, 4] .done))))] Tryz.func83 h
theorem xM {nA : Int} {jb : Option Addr} {jc jd : Nat} {fR : Int} {Qi : Int} {b1 o1 : Nat} (h :
aX M (cl [(iV nA), (.slice jb jc jd), (iV fR), (iV Qi)] 263) fun k1 M2 =>
rP M2 b1 o1 fun A3 =>
rI M2 k1 0 fun n4 =>
aa Tryz.prog 84 #[(.pointer A3), (iV n4)] M2 (fun v5 M6 =>
(v5 = (.tuple #[])) ∧
rP M6 b1 o1 fun A7 =>
rS M6 k1 1 fun A8 k9 c6 =>
aa Tryz.prog 91 #[(.pointer A7), (.slice A8 k9 c6)] M6 (fun v11 jP =>
(v11 = (.tuple #[])) ∧
rP jP b1 o1 fun Fp =>
rI jP k1 2 fun jX =>
aa Tryz.prog 84 #[(.pointer Fp), (iV jX)] jP (fun ur dZ =>
(ur = (.tuple #[])) ∧
rP dZ b1 o1 fun Ce =>
rI dZ k1 3 fun jY =>
aa Tryz.prog 84 #[(.pointer Ce), (iV jY)] dZ (fun Jb mb =>
(Jb = (.tuple #[])) ∧
K (.tuple #[]) mb) Kp) Kp) Kp) Kp) :
 aa Tryz.prog 127 #[.agg #[.int .i64 nA, .slice jb jc jd, .int .i64 fR, .int .i64 Qi], .pointer (some ⟨b1, o1, none⟩)] M K Kp := vw [] Tryz.func127 h
theorem xN {nA : Int} {AE : Int} {fR : Int} {b1 o1 : Nat} (h :
aX M (cl [(iV nA), (iV AE), (iV fR)] 268) fun k1 M2 =>
rP M2 b1 o1 fun A3 =>
rI M2 k1 0 fun n4 =>
aa Tryz.prog 84 #[(.pointer A3), (iV n4)] M2 (fun v5 M6 =>
(v5 = (.tuple #[])) ∧
rP M6 b1 o1 fun A7 =>
rI M6 k1 1 fun n8 =>
aa Tryz.prog 84 #[(.pointer A7), (iV n8)] M6 (fun v9 gy =>
(v9 = (.tuple #[])) ∧
rP gy b1 o1 fun Jc =>
rI gy k1 2 fun ik =>
aa Tryz.prog 84 #[(.pointer Jc), (iV ik)] gy (fun Fm jO =>
(Fm = (.tuple #[])) ∧
K (.tuple #[]) jO) Kp) Kp) Kp) :
 aa Tryz.prog 130 #[.agg #[.int .i64 nA, .int .i64 AE, .int .i64 fR], .pointer (some ⟨b1, o1, none⟩)] M K Kp := vw [] Tryz.func130 h
theorem uU {b0 o0 : Nat} {x1 : Int} (h :
aX M (cl [(iV x1)] 2) fun k1 M2 =>
aa Tryz.prog 85 #[(.pointer (some ⟨b0, o0, none⟩)), (.slice (some ⟨k1, 0, none⟩) 1 1)] M2 (fun v3 M4 =>
(v3 = (.tuple #[])) ∧
K (.tuple #[]) M4) Kp) :
 aa Tryz.prog 84 #[.pointer (some ⟨b0, o0, none⟩), .int .i64 x1] M K Kp := vw [] Tryz.func84 h
theorem uV {b0 o0 : Nat} {B1 : Option Addr} {m1 c1 : Nat} (h :
rS M b0 o0 fun A1 k2 k3 =>
aA 53 A1 k2 k3 B1 m1 c1 M (fun v4 M5 =>
az (some v4) fun A6 k7 k8 =>
sT M5 b0 o0 (.slice A6 k7 k8) fun M9 =>
K (.tuple #[]) M9) Kp) :
 aa Tryz.prog 85 #[.pointer (some ⟨b0, o0, none⟩), .slice B1 m1 c1] M K Kp := vw [] Tryz.func85 h
theorem tF {b0 o0 : Nat} {B1 : Option Addr} {m1 c1 : Nat} (h :
aa Tryz.prog 84 #[(.pointer (some ⟨b0, o0, none⟩)), (iV (m1 : Int))] M (fun v1 M2 =>
(v1 = (.tuple #[])) ∧
∃ I3 : IT, (∃ k4, I3 k4 [(iV 0)] M2) ∧
∀ (k5 : Nat) (_ : Nat → Value) (n7 : Int) (M8 : Mem), (I3 k5 [(iV n7)] M8) → aS (decide (n7 < m1))
 ((0 ≤ n7) ∧
 (n7 < m1) ∧
 aE B1 fun k9 c6 =>
 rI M8 k9 (c6 + (Int.toNat n7)) fun eD =>
 aa Tryz.prog 84 #[(.pointer (some ⟨b0, o0, none⟩)), (iV eD)] M8 (fun zK jy =>
 (zK = (.tuple #[])) ∧
 ∃ eH : Nat, (eH < k5) ∧
 I3 eH [(iV (IntKind.wrap .i64 (n7 + 1)))] jy) Kp)
 (K (.tuple #[]) M8)) Kp) :
 aa Tryz.prog 91 #[.pointer (some ⟨b0, o0, none⟩), .slice B1 m1 c1] M K Kp := vw [(2000000, .loop [(12, .c (.int .i64))])] Tryz.func91 h
theorem my {b0 o0 : Nat} {b1 o1 : Nat} (h :
aa Tryz.prog 73 #[(.pointer (some ⟨b1, o1, none⟩))] M (fun v1 M2 =>
aK (some v1) .i64 fun n3 =>
aa Tryz.prog 84 #[(.pointer (some ⟨b0, o0, none⟩)), (iV n3)] M2 (fun v4 M5 =>
(v4 = (.tuple #[])) ∧
aa Tryz.prog 73 #[(.pointer (some ⟨b1, o1, none⟩))] M5 (fun v6 M7 =>
aK (some v6) .i64 fun n8 =>
∃ I9 : IT, (∃ c6, I9 c6 [(iV 0)] M7) ∧
∀ (dQ : Nat) (_ : Nat → Value) (iq : Int) (jO : Mem), (I9 dQ [(iV iq)] jO) → aS (decide (iq < n8))
 (aa Tryz.prog 119 #[(.pointer (some ⟨b1, o1, none⟩)), (iV iq)] jO (fun ur dZ =>
 aK (some ur) .i64 fun iB =>
 aa Tryz.prog 84 #[(.pointer (some ⟨b0, o0, none⟩)), (iV iB)] dZ (fun Ci jx =>
 (Ci = (.tuple #[])) ∧
 aa Tryz.prog 132 #[(.pointer (some ⟨b1, o1, none⟩)), (iV iq)] jx (fun v20 jC =>
 az (some v20) fun MD iT lq =>
 aa Tryz.prog 131 #[(.pointer (some ⟨b0, o0, none⟩)), (.slice MD iT lq), (.func (.func 133) #[(.pointer (some ⟨b0, o0, none⟩))] #[])] jC (fun MB vr =>
 (MB = (.tuple #[])) ∧
 ∃ nw : Nat, (nw < dQ) ∧
 I9 nw [(iV (IntKind.wrap .i64 (iq + 1)))] vr) Kp) Kp) Kp) Kp)
 (K (.tuple #[]) jO)) Kp) Kp) Kp) :
 aa Tryz.prog 87 #[.pointer (some ⟨b0, o0, none⟩), .pointer (some ⟨b1, o1, none⟩)] M K Kp := vw [(2000000, .loop [(11, .c (.int .i64))])] Tryz.func87 h
theorem oN {b0 o0 : Nat} {B1_0 : Option Addr} {m1_0 c1_0 : Nat} {B1_1 : Option Addr} {m1_1 c1_1 : Nat} {B1_2 : Option Addr} {m1_2 c1_2 : Nat} {q1_3 : Bool} (h :
aX M (cl [(.pointer (some ⟨b0, o0, none⟩))] 187) fun k1 M2 =>
aX M2 (cl [(.slice B1_0 m1_0 c1_0), (.slice B1_1 m1_1 c1_1), (.slice B1_2 m1_2 c1_2), (.bool q1_3)] 197) fun k3 M4 =>
rB M4 k3 3 fun t5 =>
aS t5
 (rP M4 k1 0 fun A6 =>
 aX M4 (cl [(iV 1)] 2) fun k7 M8 =>
 aa Tryz.prog 85 #[(.pointer A6), (.slice (some ⟨k7, 0, none⟩) 1 1)] M8 (fun v9 gy =>
 (v9 = (.tuple #[])) ∧
 rP gy k1 0 fun Jc =>
 rS gy k3 0 fun nx de eH =>
 aa Tryz.prog 92 #[(.pointer Jc), (.slice nx de eH), (.func (.func 134) #[] #[(.pointer (some ⟨k1, 0, none⟩))])] gy (fun ur dZ =>
 (ur = (.tuple #[])) ∧
 rP dZ k1 0 fun Ce =>
 rS dZ k3 1 fun H7 iw g7 =>
 rP dZ k1 0 fun zk =>
 aa Tryz.prog 135 #[(.pointer Ce), (.slice H7 iw g7), (.func (.func 136) #[(.pointer zk)] #[])] dZ (fun zd gB =>
 (zd = (.tuple #[])) ∧
 rP gB k1 0 fun ze =>
 rS gB k3 2 fun Mw jW nw =>
 rP gB k1 0 fun Wa =>
 aa Tryz.prog 135 #[(.pointer ze), (.slice Mw jW nw), (.func (.func 136) #[(.pointer Wa)] #[])] gB (fun V2 pe =>
 (V2 = (.tuple #[])) ∧
 K (.tuple #[]) pe) Kp) Kp) Kp) Kp)
 (rP M4 k1 0 fun Ms =>
 aX M4 UI fun sF vq =>
 aa Tryz.prog 85 #[(.pointer Ms), (.slice (some ⟨sF, 0, none⟩) 1 1)] vq (fun Ws pM =>
 (Ws = (.tuple #[])) ∧
 rP pM k1 0 fun ME =>
 rS pM k3 0 fun H9 ia uu =>
 aa Tryz.prog 92 #[(.pointer ME), (.slice H9 ia uu), (.func (.func 134) #[] #[(.pointer (some ⟨k1, 0, none⟩))])] pM (fun Es uB =>
 (Es = (.tuple #[])) ∧
 rP uB k1 0 fun Ep =>
 rS uB k3 1 fun U3 zh Cg =>
 rP uB k1 0 fun A46 =>
 aa Tryz.prog 135 #[(.pointer Ep), (.slice U3 zh Cg), (.func (.func 136) #[(.pointer A46)] #[])] uB (fun v47 Pd =>
 (v47 = (.tuple #[])) ∧
 rP Pd k1 0 fun Wv =>
 rS Pd k3 2 fun ZG H8 lU =>
 rP Pd k1 0 fun A53 =>
 aa Tryz.prog 135 #[(.pointer Wv), (.slice ZG H8 lU), (.func (.func 136) #[(.pointer A53)] #[])] Pd (fun MM r7 =>
 (MM = (.tuple #[])) ∧
 K (.tuple #[]) r7) Kp) Kp) Kp) Kp)) :
 aa Tryz.prog 88 #[.pointer (some ⟨b0, o0, none⟩), .agg #[.slice B1_0 m1_0 c1_0, .slice B1_1 m1_1 c1_1, .slice B1_2 m1_2 c1_2, .bool q1_3]] M K Kp := vw [] Tryz.func88 h
theorem mV {x0 : Int} {b1 o1 : Nat} (h :
rP M b1 o1 fun A1 =>
aX M (cl [(iV x0)] 2) fun k2 M3 =>
aa Tryz.prog 85 #[(.pointer A1), (.slice (some ⟨k2, 0, none⟩) 1 1)] M3 (fun v4 M5 =>
(v4 = (.tuple #[])) ∧
K (.tuple #[]) M5) Kp) :
 aa Tryz.prog 134 #[.int .i64 x0, .pointer (some ⟨b1, o1, none⟩)] M K Kp := vw [] Tryz.func134 h
theorem qP {b0 o0 : Nat} {cT : Int} {cU : Int} {cV : Int} {eR : Int} {x1_4 : Int} {x1_5 : Int} {x1_6 : Int} {x1_7 : Int} {x1_8 : Int} {x1_9 : Int} {U6 : Int} (h :
aX M (cl [(iV cT), (iV cU), (iV cV), (iV eR), (iV x1_4), (iV x1_5), (iV x1_6), (iV x1_7), (iV x1_8), (iV x1_9), (iV U6)] 275) fun k1 M2 =>
rI M2 k1 0 fun n3 =>
aa Tryz.prog 84 #[(.pointer (some ⟨b0, o0, none⟩)), (iV n3)] M2 (fun v4 M5 =>
(v4 = (.tuple #[])) ∧
rI M5 k1 1 fun n6 =>
aa Tryz.prog 84 #[(.pointer (some ⟨b0, o0, none⟩)), (iV n6)] M5 (fun v7 M8 =>
(v7 = (.tuple #[])) ∧
((0 : Int) ≤ 8) ∧
((8 : Int) ≤ 8) ∧
((0 : Int) ≤ 8) ∧
((8 : Int) ≤ 8) ∧
((0 : Int) ≤ 0) ∧
((0 : Int) ≤ 8) ∧
aa Tryz.prog 85 #[(.pointer (some ⟨b0, o0, none⟩)), (.slice (kP (some ⟨k1, 2, none⟩) 0 8 1) 8 8)] M8 (fun v9 gy =>
(v9 = (.tuple #[])) ∧
rI gy k1 10 fun eD =>
aa Tryz.prog 84 #[(.pointer (some ⟨b0, o0, none⟩)), (iV eD)] gy (fun zK jy =>
(zK = (.tuple #[])) ∧
K (.tuple #[]) jy) Kp) Kp) Kp) Kp) :
 aa Tryz.prog 133 #[.pointer (some ⟨b0, o0, none⟩), .agg #[.int .i64 cT, .int .i64 cU, .int .i64 cV, .int .i64 eR, .int .i64 x1_4, .int .i64 x1_5, .int .i64 x1_6, .int .i64 x1_7, .int .i64 x1_8, .int .i64 x1_9, .int .i64 U6]] M K Kp := vw [] Tryz.func133 h
theorem tG {b0 o0 : Nat} {cT : Int} {cU : Int} {cV : Int} (h :
aX M (cl [(iV cT), (iV cU), (iV cV)] 280) fun k1 M2 =>
rI M2 k1 0 fun n3 =>
aa Tryz.prog 84 #[(.pointer (some ⟨b0, o0, none⟩)), (iV n3)] M2 (fun v4 M5 =>
(v4 = (.tuple #[])) ∧
rI M5 k1 1 fun n6 =>
aa Tryz.prog 84 #[(.pointer (some ⟨b0, o0, none⟩)), (iV n6)] M5 (fun v7 M8 =>
(v7 = (.tuple #[])) ∧
rI M8 k1 2 fun n9 =>
aX M8 (cl [(iV n9)] 2) fun c6 iO =>
aa Tryz.prog 85 #[(.pointer (some ⟨b0, o0, none⟩)), (.slice (some ⟨c6, 0, none⟩) 1 1)] iO (fun zK jy =>
(zK = (.tuple #[])) ∧
K (.tuple #[]) jy) Kp) Kp) Kp) :
 aa Tryz.prog 136 #[.pointer (some ⟨b0, o0, none⟩), .agg #[.int .i64 cT, .int .i64 cU, .int .i64 cV]] M K Kp := vw [] Tryz.func136 h
theorem tH {b0 o0 : Nat} {B1 : Option Addr} {m1 c1 : Nat} {u2 : Value} (h :
aa Tryz.prog 84 #[(.pointer (some ⟨b0, o0, none⟩)), (iV (m1 : Int))] M (fun v1 M2 =>
(v1 = (.tuple #[])) ∧
∃ I3 : IT, (∃ k4, I3 k4 [(iV 0)] M2) ∧
∀ (k5 : Nat) (_ : Nat → Value) (n7 : Int) (M8 : Mem), (I3 k5 [(iV n7)] M8) → aS (decide (n7 < m1))
 ((0 ≤ n7) ∧
 (n7 < m1) ∧
 aE B1 fun k9 c6 =>
 rI M8 k9 (c6 + (Int.toNat n7)) fun eD =>
 gr Cx u2 [(iV eD)] M8 (fun zK jy =>
 (zK = (.tuple #[])) ∧
 ∃ eH : Nat, (eH < k5) ∧
 I3 eH [(iV (IntKind.wrap .i64 (n7 + 1)))] jy) Kp)
 (K (.tuple #[]) M8)) Kp) :
 aa Tryz.prog 92 #[.pointer (some ⟨b0, o0, none⟩), .slice B1 m1 c1, u2] M K Kp := vw [(2000000, .loop [(14, .c (.int .i64))])] Tryz.func92 h
theorem ke {b0 o0 : Nat} {B1 : Option Addr} {m1 c1 : Nat} {u2 : Value} (h :
aa Tryz.prog 84 #[(.pointer (some ⟨b0, o0, none⟩)), (iV (m1 : Int))] M (fun v1 M2 =>
(v1 = (.tuple #[])) ∧
∃ I3 : IT, (∃ k4, I3 k4 [(iV 0)] M2) ∧
∀ (k5 : Nat) (_ : Nat → Value) (n7 : Int) (M8 : Mem), (I3 k5 [(iV n7)] M8) → aS (decide (n7 < m1))
 ((0 ≤ n7) ∧
 (n7 < m1) ∧
 aE B1 fun k9 c6 =>
 UJ M8 k9 (c6 + ((Int.toNat n7) * 4)) fun eD nx de eH iA kT =>
 aX M8 IJ fun ei m6 =>
 kI m6 ei (iV eD) (.slice nx de eH) (iV iA) (iV kT) fun dn =>
 UJ dn ei 0 fun oG ze nZ jW w7 ux =>
 gr Cx u2 [(.agg #[(iV oG), (.slice ze nZ jW), (iV w7), (iV ux)])] dn (fun V2 pe =>
 (V2 = (.tuple #[])) ∧
 ∃ mu : Nat, (mu < k5) ∧
 I3 mu [(iV (IntKind.wrap .i64 (n7 + 1)))] pe) Kp)
 (K (.tuple #[]) M8)) Kp) :
 aa Tryz.prog 125 #[.pointer (some ⟨b0, o0, none⟩), .slice B1 m1 c1, u2] M K Kp := vw [(2000000, .loop [(14, .c (.int .i64))])] Tryz.func125 h
theorem lA {b0 o0 : Nat} {B1 : Option Addr} {m1 c1 : Nat} {u2 : Value} (h :
aa Tryz.prog 84 #[(.pointer (some ⟨b0, o0, none⟩)), (iV (m1 : Int))] M (fun v1 M2 =>
(v1 = (.tuple #[])) ∧
∃ I3 : IT, (∃ k4, I3 k4 [(iV 0)] M2) ∧
∀ (k5 : Nat) (_ : Nat → Value) (n7 : Int) (M8 : Mem), (I3 k5 [(iV n7)] M8) → aS (decide (n7 < m1))
 ((0 ≤ n7) ∧
 (n7 < m1) ∧
 aE B1 fun k9 c6 =>
 kJ M8 k9 (c6 + ((Int.toNat n7) * 3)) fun eD ik iq =>
 aX M8 Mq fun eH r8 =>
 Fo r8 eH (iV eD) (iV ik) (iV iq) fun m6 =>
 kJ m6 eH 0 fun rY fB kD =>
 gr Cx u2 [(.agg #[(iV rY), (iV fB), (iV kD)])] m6 (fun zd gB =>
 (zd = (.tuple #[])) ∧
 ∃ lq : Nat, (lq < k5) ∧
 I3 lq [(iV (IntKind.wrap .i64 (n7 + 1)))] gB) Kp)
 (K (.tuple #[]) M8)) Kp) :
 aa Tryz.prog 128 #[.pointer (some ⟨b0, o0, none⟩), .slice B1 m1 c1, u2] M K Kp := vw [(2000000, .loop [(14, .c (.int .i64))])] Tryz.func128 h
theorem mz {b0 o0 : Nat} {B1 : Option Addr} {m1 c1 : Nat} {u2 : Value} (h :
aa Tryz.prog 84 #[(.pointer (some ⟨b0, o0, none⟩)), (iV (m1 : Int))] M (fun v1 M2 =>
(v1 = (.tuple #[])) ∧
∃ I3 : IT, (∃ k4, I3 k4 [(iV 0)] M2) ∧
∀ (k5 : Nat) (_ : Nat → Value) (n7 : Int) (M8 : Mem), (I3 k5 [(iV n7)] M8) → aS (decide (n7 < m1))
 ((0 ≤ n7) ∧
 (n7 < m1) ∧
 aE B1 fun k9 c6 =>
 oA M8 k9 (c6 + ((Int.toNat n7) * 11)) fun eD ik iq jX iA kT iB jY rY fB kD =>
 aX M8 vJ fun gF gB =>
 sT11 gB gF (iV eD) (iV ik) (iV iq) (iV jX) (iV iA) (iV kT) (iV iB) (iV jY) (iV rY) (iV fB) (iV kD) fun pE =>
 oA pE gF 0 fun KY w9 Mu Ga IP SI n41 SG Gb Gq B6 =>
 gr Cx u2 [(.agg #[(iV KY), (iV w9), (iV Mu), (iV Ga), (iV IP), (iV SI), (iV n41), (iV SG), (iV Gb), (iV Gq), (iV B6)])] pE (fun XA uF =>
 (XA = (.tuple #[])) ∧
 ∃ Dm : Nat, (Dm < k5) ∧
 I3 Dm [(iV (IntKind.wrap .i64 (n7 + 1)))] uF) Kp)
 (K (.tuple #[]) M8)) Kp) :
 aa Tryz.prog 131 #[.pointer (some ⟨b0, o0, none⟩), .slice B1 m1 c1, u2] M K Kp := vw [(2000000, .loop [(14, .c (.int .i64))])] Tryz.func131 h
theorem mW {b0 o0 : Nat} {B1 : Option Addr} {m1 c1 : Nat} {u2 : Value} (h :
aa Tryz.prog 84 #[(.pointer (some ⟨b0, o0, none⟩)), (iV (m1 : Int))] M (fun v1 M2 =>
(v1 = (.tuple #[])) ∧
∃ I3 : IT, (∃ k4, I3 k4 [(iV 0)] M2) ∧
∀ (k5 : Nat) (_ : Nat → Value) (n7 : Int) (M8 : Mem), (I3 k5 [(iV n7)] M8) → aS (decide (n7 < m1))
 ((0 ≤ n7) ∧
 (n7 < m1) ∧
 aE B1 fun k9 c6 =>
 kJ M8 k9 (c6 + ((Int.toNat n7) * 3)) fun eD ik iq =>
 aX M8 jH fun eH r8 =>
 Fo r8 eH (iV eD) (iV ik) (iV iq) fun m6 =>
 kJ m6 eH 0 fun rY fB kD =>
 gr Cx u2 [(.agg #[(iV rY), (iV fB), (iV kD)])] m6 (fun zd gB =>
 (zd = (.tuple #[])) ∧
 ∃ lq : Nat, (lq < k5) ∧
 I3 lq [(iV (IntKind.wrap .i64 (n7 + 1)))] gB) Kp)
 (K (.tuple #[]) M8)) Kp) :
 aa Tryz.prog 135 #[.pointer (some ⟨b0, o0, none⟩), .slice B1 m1 c1, u2] M K Kp := vw [(2000000, .loop [(14, .c (.int .i64))])] Tryz.func135 h
end Go.Proofs
namespace Go.Proofs
open Go.AF
set_option maxRecDepth 100000
variable {M : Mem} {K : Value → Mem → Prop} {Kp : List PanicEntry → Mem → Prop}
theorem tI {jZ : Option Addr} {j0 j5 : Nat} {jb : Option Addr} {jc jd : Nat} {fR : Int} {j6 : Option Addr} {j7 j8 : Nat} (h :
aX M (cl [(.slice jZ j0 j5), (.slice jb jc jd), (iV fR), (.slice j6 j7 j8)] 59) fun k1 M2 =>
aX M2 Dd fun k3 M4 =>
rS M4 k1 1 fun A5 k6 k7 =>
rI M4 k1 2 fun n8 =>
aX M4 (cl [] 3) fun k9 gy =>
(True) ∧
aA 36 (some ⟨k9, 0, none⟩) 0 0 A5 k6 k7 gy (fun v11 jP =>
az (some v11) fun Fp eH hU =>
eI jP k1 2 n8 ∧
aX jP Dd fun eN lG =>
kI lG eN (.slice none 0 0) (.slice Fp eH hU) (iV n8) (.slice none 0 0) fun jC =>
eI jC k1 2 n8 ∧
rS jC k1 0 fun MD iT lq =>
∃ Wu : IT, (∃ jW, Wu jW [(iV 0)] jC) ∧
∀ (nw : Nat) (_ : Nat → Value) (vW : Int) (pe : Mem), (Wu nw [(iV vW)] pe) → aS (decide (vW < iT))
 ((0 ≤ vW) ∧
 (vW < iT) ∧
 aE MD fun mu sF =>
 rS pe mu (sF + (Int.toNat vW)) fun Ge vS zg =>
 aX pe (cl [] 27) fun Mz Cf =>
 ∃ I38 : IT, (∃ uu, I38 uu [(.slice (some ⟨Mz, 0, none⟩) 0 0), (iV 0)] Cf) ∧
 ∀ (zN : Nat) (_ : Nat → Value) (Ep : Option Addr) (qq : Nat) (zh : Nat) (B6 : Int) (Ia : Mem), (I38 zN [(.slice Ep qq zh), (iV B6)] Ia) → aS (decide (B6 < vS))
 ((0 ≤ B6) ∧
 (B6 < vS) ∧
 aE Ge fun KU Dm =>
 bM Ia KU (Dm + ((Int.toNat B6) * 4)) fun MI Gm Cr UX =>
 aX Ia iM fun rX Gc =>
 kI Gc rX (iV MI) (iV Gm) (iV Cr) (iV UX) fun U0 =>
 bM U0 rX 0 fun Eo Pe Mx Oa =>
 aX U0 (cl [(iV Eo), (iV Pe), (iV Mx), (iV Oa)] 27) fun N9 PC =>
 aA 28 Ep qq zh (some ⟨N9, 0, none⟩) 1 1 PC (fun v65 UY =>
 az (some v65) fun A67 K3 MN =>
 ∃ zn : Nat, (zn < zN) ∧
 I38 zn [(.slice A67 K3 MN), (iV (IntKind.wrap .i64 (B6 + 1)))] UY) Kp)
 (rS Ia eN 0 fun MH Ji PE =>
 aX Ia (cl [(.slice Ep qq zh)] 28) fun U2 xJ =>
 aA 35 MH Ji PE (some ⟨U2, 0, none⟩) 1 1 xJ (fun v76 SQ =>
 az (some v76) fun A78 PF Ic =>
 sT SQ eN 0 (.slice A78 PF Ic) fun Jj =>
 ∃ Jf : Nat, (Jf < nw) ∧
 Wu Jf [(iV (IntKind.wrap .i64 (vW + 1)))] Jj) Kp))
 (rS pe k1 3 fun A83 k84 Oe =>
 ∃ I86 : IT, (∃ RM, I86 RM [(iV 0)] pe) ∧
 ∀ (MG : Nat) (_ : Nat → Value) (U7 : Int) (mh : Mem), (I86 MG [(iV U7)] mh) → aS (decide (U7 < k84))
 ((0 ≤ U7) ∧
 (U7 < k84) ∧
 aE A83 fun SX SY =>
 kJ mh SX (SY + ((Int.toNat U7) * 3)) fun Pg IU My =>
 aX mh xz fun k97 Dp =>
 Fo Dp k97 (iV Pg) (iV IU) (iV My) fun iS =>
 rS iS eN 3 fun AQ nG Cu =>
 kJ iS k97 0 fun n105 n106 EM =>
 aX iS (cl [(iV n105), (iV n106), (iV EM)] 165) fun k108 vU =>
 aA 37 AQ nG Cu (some ⟨k108, 0, none⟩) 1 1 vU (fun v110 oL =>
 az (some v110) fun XC AR PG =>
 sT oL eN 3 (.slice XC AR PG) fun EG =>
 ∃ MR : Nat, (MR < MG) ∧
 I86 MR [(iV (IntKind.wrap .i64 (U7 + 1)))] EG) Kp)
 (rS mh eN 0 fun Qk Ju EL =>
 rS mh eN 1 fun A120 Tc XD =>
 rI mh eN 2 fun XE =>
 rS mh eN 3 fun A124 Wy k126 =>
 kI mh k3 (.slice Qk Ju EL) (.slice A120 Tc XD) (iV XE) (.slice A124 Wy k126) fun tD =>
 pb tD k3 0 fun Gw Gx Gy XF Cv tE XG A138 k139 k140 =>
 K (.agg #[(.slice Gw Gx Gy), (.slice XF Cv tE), (iV XG), (.slice A138 k139 k140)]) tD))) Kp) :
 aa Tryz.prog 25 #[.agg #[.slice jZ j0 j5, .slice jb jc jd, .int .i64 fR, .slice j6 j7 j8]] M K Kp := vw [(1, .bS [0, 0, 2, 7, 0, 16, 63, 0, 255] (sy [1, 4, 2] (.cY 5 (sy [0] (.late 3 (sy [6, 7, 8] .done)))))), (2000000, .loop [(21, .c (.int .i64))]), (2000002, .loop [(6, .c .sl), (28, .c (.int .i64))]), (2000004, .loop [(55, .c (.int .i64))])] Tryz.func25 h
theorem qQ {jZ : Option Addr} {j0 j5 : Nat} {jb : Option Addr} {jc jd : Nat} {fR : Int} {j6 : Option Addr} {j7 j8 : Nat} (h :
aX M (cl [(.slice jZ j0 j5), (.slice jb jc jd), (iV fR), (.slice j6 j7 j8)] 59) fun k1 M2 =>
aX M2 xA fun k3 M4 =>
rI M4 k1 2 fun n5 =>
aa Tryz.prog 66 #[(iV n5), (iV 4)] M4 (fun v6 M7 =>
aK (some v6) .i64 fun n8 =>
aX M7 xA fun k9 gy =>
kI gy k9 (.slice none 0 0) (.slice none 0 0) (iV n8) (.slice none 0 0) fun jO =>
∃ J15 : List Value → Mem → Prop, (∃ I16 : IT, (∃ ei, I16 ei [(iV 0)] jO) ∧
 ∀ (dJ : Nat) (_ : Nat → Value) (fB : Int) (jC : Mem), (I16 dJ [(iV fB)] jC) → rS jC k1 1 fun MD iT lq =>
 aS (decide (fB < iT))
 (aS (decide (fB < 4))
 (∃ J25 : List Value → Mem → Prop, (rS jC k1 1 fun Ft nw kF =>
 (0 ≤ fB) ∧
 (fB < nw) ∧
 aE Ft fun mo mq =>
 rI jC mo (mq + (Int.toNat fB)) fun vR =>
 (rS jC k9 1 fun A32 pB vS =>
 aa Tryz.prog 66 #[(iV vR), (iV 4)] jC (fun v35 Cj =>
 aK (some v35) .i64 fun Mu =>
 aX Cj (cl [(iV Mu)] 3) fun ia ZB =>
 aA 36 A32 pB vS (some ⟨ia, 0, none⟩) 1 1 ZB (fun Es uB =>
 az (some Es) fun Ep qq zh =>
 sT uB k9 1 (.slice Ep qq zh) fun vt =>
 J25 [] vt) Kp) Kp) ∧
 (aa Tryz.prog 66 #[(iV vR), (iV 4)] jC (fun XA uF =>
 aK (some XA) .i64 fun Eu =>
 rS uF k9 1 fun Wv zi H8 =>
 aX uF (cl [(iV Eu)] 3) fun lU Je =>
 aA 36 Wv zi H8 (some ⟨lU, 0, none⟩) 1 1 Je (fun MM r7 =>
 az (some MM) fun Ps xF Gg =>
 sT r7 k9 1 (.slice Ps xF Gg) fun B7 =>
 J25 [] B7) Kp) Kp) ∧
 True) ∧
 ∀ junk60 : Nat → Value, ∀ Dh : Mem, (J25 [] Dh) → ∃ SL : Nat, (SL < dJ) ∧
 I16 SL [(iV (IntKind.wrap .i64 (fB + 1)))] Dh)
 (J15 [] jC))
 (J15 [] jC)) ∧
∀ junk63 : Nat → Value, ∀ PC : Mem, (J15 [] PC) → ∃ J65 : List Value → Mem → Prop, (∃ I66 : IT, (∃ xd, I66 xd [(iV 0)] PC) ∧
 ∀ (K3 : Nat) (_ : Nat → Value) (XH : Int) (RP : Mem), (I66 K3 [(iV XH)] RP) → rS RP k1 3 fun A72 PE U2 =>
 aS (decide (XH < PE))
 (aS (decide (XH < 8))
 (rS RP k1 3 fun ZJ U8 SM =>
 (0 ≤ XH) ∧
 (XH < U8) ∧
 aE ZJ fun Oc PF =>
 kJ RP Oc (PF + ((Int.toNat XH) * 3)) fun RH ZK IQ =>
 aX RP xz fun zQ Gv =>
 Fo Gv zQ (iV RH) (iV ZK) (iV IQ) fun GB =>
 rII GB zQ 0 fun n88 U9 =>
 rS GB k9 1 fun ZH SW SX =>
 rI GB zQ 2 fun S9 =>
 (True) ∧
 aa Tryz.prog 66 #[(iV n88), (iV 3)] GB (fun v94 Js =>
 aK (some v94) .i64 fun My =>
 eI Js zQ 2 S9 ∧
 eS Js k9 1 ZH SW SX ∧
 eI Js zQ 1 U9 ∧
 (True) ∧
 aa Tryz.prog 66 #[(iV U9), (iV (SW : Int))] Js (fun v97 Dp =>
 aK (some v97) .i64 fun RR =>
 eI Dp zQ 2 S9 ∧
 eS Dp k9 1 ZH SW SX ∧
 eI Dp zQ 1 U9 ∧
 (True) ∧
 aa Tryz.prog 66 #[(iV S9), (iV 8)] Dp (fun XI iS =>
 aK (some XI) .i64 fun Pj =>
 eI iS zQ 2 S9 ∧
 eS iS k9 1 ZH SW SX ∧
 eI iS zQ 1 U9 ∧
 aX iS xz fun nG Ww =>
 Fo Ww nG (iV My) (iV RR) (iV Pj) fun EC =>
 eI EC zQ 2 S9 ∧
 eS EC k9 1 ZH SW SX ∧
 eI EC zQ 1 U9 ∧
 rS EC k9 1 fun A108 Jn GC =>
 ∃ XJ : List Value → Mem → Prop, (aS ((Jn : Int) == 0)
 (sT EC nG 0 (iV 2) fun M112 =>
 sT M112 nG 1 (iV 0) fun M113 =>
 sT M113 nG 2 (iV 0) fun zu =>
 XJ [] zu)
 (XJ [] EC)) ∧
 ∀ junk115 : Nat → Value, ∀ wv : Mem, (XJ [] wv) → rS wv k9 3 fun Qk Ju EL =>
 kJ wv nG 0 fun AO AP PI =>
 aX wv (cl [(iV AO), (iV AP), (iV PI)] 163) fun EH xL =>
 aA 57 Qk Ju EL (some ⟨EH, 0, none⟩) 1 1 xL (fun v125 M126 =>
 az (some v125) fun A127 k128 Qf =>
 sT M126 k9 3 (.slice A127 k128 Qf) fun tD =>
 ∃ k131 : Nat, (k131 < K3) ∧
 I66 k131 [(iV (IntKind.wrap .i64 (XH + 1)))] tD) Kp) Kp) Kp) Kp)
 (J65 [] RP))
 (J65 [] RP)) ∧
∀ junk132 : Nat → Value, ∀ Ql : Mem, (J65 [] Ql) → rS Ql k1 0 fun XF Cv tE =>
rS Ql k1 0 fun A137 Cz k139 =>
((0 : Int) ≤ tE) ∧
((tE : Int) ≤ tE) ∧
((0 : Int) ≤ (if (5 : Int) < (Cz : Int) then 5 else (Cz : Int))) ∧
(((if (5 : Int) < (Cz : Int) then 5 else (Cz : Int)) : Int) ≤ (tE : Int)) ∧
((0 : Int) ≤ 0) ∧
((0 : Int) ≤ (if (5 : Int) < (Cz : Int) then 5 else (Cz : Int))) ∧
∃ XK : List Value → Mem → Prop, (aS (((((Int.toNat (if (5 : Int) < (Cz : Int) then 5 else (Cz : Int))) - 0) : Nat) : Int) == 0)
 (aX Ql iM fun XL PT =>
 aX PT (cl [(.slice (some ⟨XL, 0, none⟩) 1 1)] 61) fun Td M144 =>
 XK [(.slice (some ⟨Td, 0, none⟩) 1 1)] M144)
 (XK [(.slice (kP XF 0 (Int.toNat (tE : Int)) 1) ((Int.toNat (if (5 : Int) < (Cz : Int) then 5 else (Cz : Int))) - 0) ((Int.toNat (tE : Int)) - 0))] Ql)) ∧
∀ junk145 : Nat → Value, ∀ A146 : Option Addr, ∀ Qm : Nat, ∀ PW : Nat, ∀ Gz : Mem, (XK [(.slice A146 Qm PW)] Gz) → be Tryz.prog (Go.Instr.makeSlice 56 (iV (Qm : Int)) (iV (Qm : Int))) Gz (fun v150 AT =>
az (some v150) fun PX PY PL =>
sT AT k9 0 (.slice PX PY PL) fun M155 =>
∃ XM : IT, (∃ Jq, XM Jq [(iV 0)] M155) ∧
∀ (k158 : Nat) (_ : Nat → Value) (AX : Int) (xK : Mem), (XM k158 [(iV AX)] xK) → aS (decide (AX < Qm))
 ((0 ≤ AX) ∧
 (AX < Qm) ∧
 aE A146 fun EK PZ =>
 rS xK EK (PZ + (Int.toNat AX)) fun A164 CA MU =>
 ((0 : Int) ≤ MU) ∧
 ((MU : Int) ≤ MU) ∧
 ((0 : Int) ≤ (if (20 : Int) < (CA : Int) then 20 else (CA : Int))) ∧
 (((if (20 : Int) < (CA : Int) then 20 else (CA : Int)) : Int) ≤ (MU : Int)) ∧
 ((0 : Int) ≤ 0) ∧
 ((0 : Int) ≤ (if (20 : Int) < (CA : Int) then 20 else (CA : Int))) ∧
 ∃ XN : List Value → Mem → Prop, (aS (((((Int.toNat (if (20 : Int) < (CA : Int) then 20 else (CA : Int))) - 0) : Nat) : Int) == 0)
 (aX xK iM fun k168 M169 =>
 XN [(.slice (some ⟨k168, 0, none⟩) 1 1)] M169)
 (XN [(.slice (kP A164 0 (Int.toNat (MU : Int)) 4) ((Int.toNat (if (20 : Int) < (CA : Int) then 20 else (CA : Int))) - 0) ((Int.toNat (MU : Int)) - 0))] xK)) ∧
 ∀ junk170 : Nat → Value, ∀ Qn : Option Addr, ∀ GJ : Nat, ∀ GD : Nat, ∀ M174 : Mem, (XN [(.slice Qn GJ GD)] M174) → aX M174 (cl [] 63) fun k175 M176 =>
 ∃ XO : IT, (∃ k178, XO k178 [(.slice (some ⟨k175, 0, none⟩) 0 0), (iV 0)] M176) ∧
 ∀ (k179 : Nat) (_ : Nat → Value) (XP : Option Addr) (MW : Nat) (XQ : Nat) (MX : Int) (Qo : Mem), (XO k179 [(.slice XP MW XQ), (iV MX)] Qo) → aS (decide (MX < GJ))
 ((0 ≤ MX) ∧
 (MX < GJ) ∧
 aE Qn fun k186 k187 =>
 bM Qo k186 (k187 + ((Int.toNat MX) * 4)) fun Jr XR XS XT =>
 aX Qo iM fun WU XU =>
 kI XU WU (iV Jr) (iV XR) (iV XS) (iV XT) fun P7 =>
 pb P7 k9 0 fun A198 k199 XV A201 k202 k203 XW WW WX k207 =>
 bM P7 WU 0 fun XX XY XZ X0 =>
 aa Tryz.prog 67 #[(.agg #[(.slice A198 k199 XV), (.slice A201 k202 k203), (iV XW), (.slice WW WX k207)]), (.slice Qn GJ GD), (.agg #[(iV XX), (iV XY), (iV XZ), (iV X0)])] P7 (fun v212 W0 =>
 ∃ Te Tf Tg n217 : Int, (v212 = (.agg #[(iV Te), (iV Tf), (iV Tg), (iV n217)])) ∧
 aX W0 (cl [(iV Te), (iV Tf), (iV Tg), (iV n217)] 63) fun k218 M219 =>
 aA 61 XP MW XQ (some ⟨k218, 0, none⟩) 1 1 M219 (fun v220 M221 =>
 az (some v220) fun A222 W2 k224 =>
 ∃ k225 : Nat, (k225 < k179) ∧
 XO k225 [(.slice A222 W2 k224), (iV (IntKind.wrap .i64 (MX + 1)))] M221) Kp) Kp)
 (rS Qo k9 0 fun W4 W5 k228 =>
 (0 ≤ AX) ∧
 (AX < W5) ∧
 aE W4 fun k229 W6 =>
 sT Qo k229 (W6 + (Int.toNat AX)) (.slice XP MW XQ) fun M231 =>
 ∃ k232 : Nat, (k232 < k158) ∧
 XM k232 [(iV (IntKind.wrap .i64 (AX + 1)))] M231))
 (rS xK k9 0 fun A233 W7 k235 =>
 rS xK k9 1 fun A236 W8 k238 =>
 rI xK k9 2 fun n239 =>
 rS xK k9 3 fun A240 k241 k242 =>
 kI xK k3 (.slice A233 W7 k235) (.slice A236 W8 k238) (iV n239) (.slice A240 k241 k242) fun M246 =>
 pb M246 k3 0 fun A247 Xe k249 A250 k251 k252 n253 A254 k255 Xg =>
 K (.agg #[(.slice A247 Xe k249), (.slice A250 k251 k252), (iV n253), (.slice A254 k255 Xg)]) M246)) Kp) Kp) :
 aa Tryz.prog 24 #[.agg #[.slice jZ j0 j5, .slice jb jc jd, .int .i64 fR, .slice j6 j7 j8]] M K Kp := vw [(1000000, .cut []), (2000000, .loop [(4, .c (.int .i64))]), (5, .FX [0, 1, 0, 4, 0, 28, 60, 124, 252, 511, 1023, 2047] (sy [0, 2, 4, 3, 5, 6] (.fork 1 (sy [7, 8, 9, 10, 11] .done) (.fork 7 (sy [1, 8, 9, 10, 11] .done) .dead))) []), (1000002, .cut []), (2000002, .loop [(5, .c (.int .i64))]), (10, .bS [0, 1, 3, 0, 8, 0, 32, 96, 255, 0, 512, 2047, 4095, 0, 16383] (sy [0, 3, 5, 9, 1] (.cY 4 (.cY 6 (sy [7] (.cY 10 (.late 2 (.late 8 (.late 11 (sy [12, 13, 14] .done)))))))))), (3000072, .cut []), (3000089, .cut [(8, .c .sl)]), (2000004, .loop [(99, .c (.int .i64))]), (3000111, .cut [(10, .c .sl)]), (2000006, .loop [(11, .c .sl), (117, .c (.int .i64))])] Tryz.func24 h
theorem tJ {x0 : Int} {x1 : Int} (h :
aS (decide ((x1 : Int) < 1))
 (K (iV 0) M)
 (((x1 : Int) ≠ 0) ∧
 ((x1 : Int) ≠ 0) ∧
 K (iV (Int.tmod (IntKind.wrap .i64 ((Int.tmod x0 x1) + x1)) x1)) M)) :
 aa Tryz.prog 66 #[.int .i64 x0, .int .i64 x1] M K Kp := vw [] Tryz.func66 h
theorem tK {jZ : Option Addr} {j0 j5 : Nat} {jb : Option Addr} {jc jd : Nat} {fR : Int} {j6 : Option Addr} {j7 j8 : Nat} {B1 : Option Addr} {m1 c1 : Nat} {Px : Int} {Py : Int} {Pz : Int} {PB : Int} (h :
aX M (cl [(.slice jZ j0 j5), (.slice jb jc jd), (iV fR), (.slice j6 j7 j8)] 59) fun k1 M2 =>
aX M2 (cl [(iV Px), (iV Py), (iV Pz), (iV PB)] 63) fun k3 M4 =>
aX M4 iM fun k5 M6 =>
rI M6 k3 0 fun n7 =>
aa Tryz.prog 66 #[(iV n7), (iV 23)] M6 (fun v8 M9 =>
aK (some v8) .i64 fun jA =>
sT M9 k3 0 (iV jA) fun iO =>
rI iO k3 1 fun ik =>
rI iO k3 2 fun iq =>
rI iO k3 3 fun jX =>
aa Tryz.prog 66 #[(iV ik), (iV 8)] iO (fun ur dZ =>
aK (some ur) .i64 fun iB =>
eI dZ k3 3 jX ∧
eI dZ k3 2 iq ∧
aa Tryz.prog 66 #[(iV iq), (iV 8)] dZ (fun Ci jx =>
aK (some Ci) .i64 fun fB =>
eI jx k3 3 jX ∧
eI jx k3 2 iq ∧
aa Tryz.prog 66 #[(iV jX), (iV 8)] jx (fun Wi dn =>
aK (some Wi) .i64 fun oG =>
eI dn k3 3 jX ∧
eI dn k3 2 iq ∧
rSS dn k1 0 fun ze nZ jW RJ kF mo =>
rS dn k1 3 fun zO mu sF =>
rI dn k3 0 fun sG =>
aS (sG == 1)
 (rI dn k3 2 fun Pt =>
 kI dn k5 (iV 1) (iV iB) (iV Pt) (iV 0) fun me =>
 bM me k5 0 fun IP SI n41 SG =>
 K (.agg #[(iV IP), (iV SI), (iV n41), (iV SG)]) me)
 (aS (sG == 2)
 (sT dn k5 0 (iV 2) fun zP =>
 sT zP k5 1 (iV iB) fun Cs =>
 sT Cs k5 2 (iV fB) fun vt =>
 sT vt k5 3 (iV 0) fun Ia =>
 bM Ia k5 0 fun Gf Eu MI Gm =>
 K (.agg #[(iV Gf), (iV Eu), (iV MI), (iV Gm)]) Ia)
 (aS (sG == 3)
 (rI dn k3 0 fun Cr =>
 kI dn k5 (iV Cr) (iV iB) (iV fB) (iV oG) fun r7 =>
 bM r7 k5 0 fun PM RL Gd Eo =>
 K (.agg #[(iV PM), (iV RL), (iV Gd), (iV Eo)]) r7)
 (aS (sG == 4)
 (rI dn k3 0 fun Pe =>
 kI dn k5 (iV Pe) (iV iB) (iV fB) (iV oG) fun PC =>
 bM PC k5 0 fun zf n66 Gn Pu =>
 K (.agg #[(iV zf), (iV n66), (iV Gn), (iV Pu)]) PC)
 (aS (sG == 5)
 (rI dn k3 0 fun U4 =>
 kI dn k5 (iV U4) (iV iB) (iV fB) (iV oG) fun B8 =>
 bM B8 k5 0 fun Od SE KV Di =>
 K (.agg #[(iV Od), (iV SE), (iV KV), (iV Di)]) B8)
 (aS (sG == 6)
 (rI dn k3 0 fun Fu =>
 kI dn k5 (iV Fu) (iV iB) (iV fB) (iV oG) fun SU =>
 bM SU k5 0 fun UQ IS RQ n86 =>
 K (.agg #[(iV UQ), (iV IS), (iV RQ), (iV n86)]) SU)
 (aS (sG == 7)
 (rI dn k3 1 fun n87 =>
 aa Tryz.prog 66 #[(iV n87), (iV (m1 : Int))] dn (fun v88 Gs =>
 aK (some v88) .i64 fun U7 =>
 kI Gs k5 (iV 7) (iV U7) (iV 0) (iV 0) fun M94 =>
 bM M94 k5 0 fun IU My n97 ZA =>
 K (.agg #[(iV IU), (iV My), (iV n97), (iV ZA)]) M94) Kp)
 (aS (sG == 8)
 (rI dn k3 2 fun RR =>
 aa Tryz.prog 66 #[(iV RR), (iV (m1 : Int))] dn (fun XI iS =>
 aK (some XI) .i64 fun Pj =>
 kI iS k5 (iV 8) (iV iB) (iV Pj) (iV 0) fun MK =>
 bM MK k5 0 fun EM AN Qp Pk =>
 K (.agg #[(iV EM), (iV AN), (iV Qp), (iV Pk)]) MK) Kp)
 (aS (sG == 9)
 (rI dn k3 1 fun Wx =>
 rI dn k3 0 fun AB =>
 aa Tryz.prog 66 #[(iV Wx), (iV (nZ : Int))] dn (fun v113 zu =>
 aK (some v113) .i64 fun n115 =>
 eI zu k3 0 AB ∧
 kI zu k5 (iV AB) (iV n115) (iV fB) (iV oG) fun ED =>
 eI ED k3 0 AB ∧
 bM ED k5 0 fun AO AP PI XE =>
 K (.agg #[(iV AO), (iV AP), (iV PI), (iV XE)]) ED) Kp)
 (aS (sG == 11)
 (rI dn k3 1 fun n124 =>
 rI dn k3 0 fun Jt =>
 aa Tryz.prog 66 #[(iV n124), (iV (nZ : Int))] dn (fun Wz SZ =>
 aK (some Wz) .i64 fun zp =>
 eI SZ k3 0 Jt ∧
 kI SZ k5 (iV Jt) (iV zp) (iV fB) (iV oG) fun X1 =>
 eI X1 k3 0 Jt ∧
 bM X1 k5 0 fun n133 n134 n135 n136 =>
 K (.agg #[(iV n133), (iV n134), (iV n135), (iV n136)]) X1) Kp)
 (aS (sG == 10)
 (rI dn k3 0 fun XG =>
 kI dn k5 (iV XG) (iV iB) (iV 0) (iV 0) fun MP =>
 bM MP k5 0 fun WC n143 PU PV =>
 K (.agg #[(iV WC), (iV n143), (iV PU), (iV PV)]) MP)
 (aS (sG == 17)
 (rI dn k3 0 fun EJ =>
 kI dn k5 (iV EJ) (iV iB) (iV 0) (iV 0) fun M150 =>
 bM M150 k5 0 fun WD Jm n153 n154 =>
 K (.agg #[(iV WD), (iV Jm), (iV n153), (iV n154)]) M150)
 (aS (sG == 20)
 (rI dn k3 0 fun n155 =>
 kI dn k5 (iV n155) (iV iB) (iV 0) (iV 0) fun MY =>
 bM MY k5 0 fun AX n161 n162 n163 =>
 K (.agg #[(iV AX), (iV n161), (iV n162), (iV n163)]) MY)
 (aS (sG == 13)
 (aS ((kF : Int) == 0)
 (sT dn k5 0 (iV 0) fun AU =>
 sT AU k5 1 (iV 0) fun P0 =>
 sT P0 k5 2 (iV 0) fun P2 =>
 sT P2 k5 3 (iV 0) fun Cw =>
 bM Cw k5 0 fun n168 P3 P4 P5 =>
 K (.agg #[(iV n168), (iV P3), (iV P4), (iV P5)]) Cw)
 (rI dn k3 1 fun n172 =>
 rI dn k3 0 fun X3 =>
 (True) ∧
 aa Tryz.prog 66 #[(iV n172), (iV (kF : Int))] dn (fun Qq MZ =>
 aK (some Qq) .i64 fun n176 =>
 eI MZ k3 0 X3 ∧
 aX MZ iM fun wz Jv =>
 kI Jv wz (iV X3) (iV n176) (iV 0) (iV 0) fun CB =>
 eI CB k3 0 X3 ∧
 rI CB k3 0 fun n183 =>
 aS (decide (n183 < 15))
 (sT CB wz 2 (iV fB) fun EN =>
 rI EN k3 0 fun P6 =>
 aS (P6 == 14)
 (sT EN wz 3 (iV oG) fun M186 =>
 bM M186 wz 0 fun X4 Jr XR XS =>
 kI M186 k5 (iV X4) (iV Jr) (iV XR) (iV XS) fun M194 =>
 bM M194 k5 0 fun n195 n196 n197 S2 =>
 K (.agg #[(iV n195), (iV n196), (iV n197), (iV S2)]) M194)
 (rI EN wz 0 fun n199 =>
 rI EN wz 1 fun n200 =>
 rI EN wz 2 fun S3 =>
 rI EN wz 3 fun P8 =>
 kI EN k5 (iV n199) (iV n200) (iV S3) (iV P8) fun Th =>
 bM Th k5 0 fun n207 XX XY XZ =>
 K (.agg #[(iV n207), (iV XX), (iV XY), (iV XZ)]) Th))
 (rI CB k3 0 fun X0 =>
 aS (X0 == 14)
 (sT CB wz 3 (iV oG) fun S4 =>
 bM S4 wz 0 fun n213 Te Tf Tg =>
 kI S4 k5 (iV n213) (iV Te) (iV Tf) (iV Tg) fun M220 =>
 bM M220 k5 0 fun n221 n222 n223 W3 =>
 K (.agg #[(iV n221), (iV n222), (iV n223), (iV W3)]) M220)
 (rI CB wz 0 fun n225 =>
 rI CB wz 1 fun n226 =>
 rI CB wz 2 fun n227 =>
 rI CB wz 3 fun n228 =>
 kI CB k5 (iV n225) (iV n226) (iV n227) (iV n228) fun M232 =>
 bM M232 k5 0 fun n233 n234 n235 n236 =>
 K (.agg #[(iV n233), (iV n234), (iV n235), (iV n236)]) M232))) Kp))
 (aS (sG == 14)
 (aS ((kF : Int) == 0)
 (sT dn k5 0 (iV 0) fun M237 =>
 sT M237 k5 1 (iV 0) fun W9 =>
 sT W9 k5 2 (iV 0) fun Xa =>
 sT Xa k5 3 (iV 0) fun S6 =>
 bM S6 k5 0 fun n241 n242 Xb Xc =>
 K (.agg #[(iV n241), (iV n242), (iV Xb), (iV Xc)]) S6)
 (rI dn k3 1 fun Xd =>
 rI dn k3 0 fun X5 =>
 (True) ∧
 aa Tryz.prog 66 #[(iV Xd), (iV (kF : Int))] dn (fun v247 M248 =>
 aK (some v247) .i64 fun n249 =>
 eI M248 k3 0 X5 ∧
 aX M248 iM fun wA M251 =>
 kI M251 wA (iV X5) (iV n249) (iV 0) (iV 0) fun CC =>
 eI CC k3 0 X5 ∧
 rI CC k3 0 fun n256 =>
 aS (decide (n256 < 15))
 (sT CC wA 2 (iV fB) fun Jw =>
 rI Jw k3 0 fun n258 =>
 aS (n258 == 14)
 (sT Jw wA 3 (iV oG) fun M259 =>
 bM M259 wA 0 fun n260 n261 n262 n263 =>
 kI M259 k5 (iV n260) (iV n261) (iV n262) (iV n263) fun GH =>
 bM GH k5 0 fun Xj Xk Xl n271 =>
 K (.agg #[(iV Xj), (iV Xk), (iV Xl), (iV n271)]) GH)
 (rI Jw wA 0 fun n272 =>
 rI Jw wA 1 fun n273 =>
 rI Jw wA 2 fun Xm =>
 rI Jw wA 3 fun n275 =>
 kI Jw k5 (iV n272) (iV n273) (iV Xm) (iV n275) fun M279 =>
 bM M279 k5 0 fun n280 n281 Xn n283 =>
 K (.agg #[(iV n280), (iV n281), (iV Xn), (iV n283)]) M279))
 (rI CC k3 0 fun n284 =>
 aS (n284 == 14)
 (sT CC wA 3 (iV oG) fun S8 =>
 bM S8 wA 0 fun n286 n287 n288 n289 =>
 kI S8 k5 (iV n286) (iV n287) (iV n288) (iV n289) fun M293 =>
 bM M293 k5 0 fun Xo Xp n296 n297 =>
 K (.agg #[(iV Xo), (iV Xp), (iV n296), (iV n297)]) M293)
 (rI CC wA 0 fun n298 =>
 rI CC wA 1 fun n299 =>
 rI CC wA 2 fun n300 =>
 rI CC wA 3 fun n301 =>
 kI CC k5 (iV n298) (iV n299) (iV n300) (iV n301) fun M305 =>
 bM M305 k5 0 fun n306 n307 n308 n309 =>
 K (.agg #[(iV n306), (iV n307), (iV n308), (iV n309)]) M305))) Kp))
 (aS (sG == 15)
 (aS ((kF : Int) == 0)
 (sT dn k5 0 (iV 0) fun M310 =>
 sT M310 k5 1 (iV 0) fun M311 =>
 sT M311 k5 2 (iV 0) fun M312 =>
 sT M312 k5 3 (iV 0) fun M313 =>
 bM M313 k5 0 fun n314 n315 n316 n317 =>
 K (.agg #[(iV n314), (iV n315), (iV n316), (iV n317)]) M313)
 (rI dn k3 1 fun n318 =>
 rI dn k3 0 fun X6 =>
 (True) ∧
 aa Tryz.prog 66 #[(iV n318), (iV (kF : Int))] dn (fun v320 M321 =>
 aK (some v320) .i64 fun n322 =>
 eI M321 k3 0 X6 ∧
 aX M321 iM fun wB M324 =>
 kI M324 wB (iV X6) (iV n322) (iV 0) (iV 0) fun CD =>
 eI CD k3 0 X6 ∧
 rI CD k3 0 fun n329 =>
 aS (decide (n329 < 15))
 (sT CD wB 2 (iV fB) fun Jx =>
 rI Jx k3 0 fun n331 =>
 aS (n331 == 14)
 (sT Jx wB 3 (iV oG) fun M332 =>
 bM M332 wB 0 fun n333 n334 n335 n336 =>
 kI M332 k5 (iV n333) (iV n334) (iV n335) (iV n336) fun M340 =>
 bM M340 k5 0 fun n341 n342 n343 n344 =>
 K (.agg #[(iV n341), (iV n342), (iV n343), (iV n344)]) M340)
 (rI Jx wB 0 fun n345 =>
 rI Jx wB 1 fun n346 =>
 rI Jx wB 2 fun n347 =>
 rI Jx wB 3 fun n348 =>
 kI Jx k5 (iV n345) (iV n346) (iV n347) (iV n348) fun M352 =>
 bM M352 k5 0 fun n353 n354 n355 n356 =>
 K (.agg #[(iV n353), (iV n354), (iV n355), (iV n356)]) M352))
 (rI CD k3 0 fun n357 =>
 aS (n357 == 14)
 (sT CD wB 3 (iV oG) fun M358 =>
 bM M358 wB 0 fun n359 n360 n361 n362 =>
 kI M358 k5 (iV n359) (iV n360) (iV n361) (iV n362) fun M366 =>
 bM M366 k5 0 fun n367 n368 n369 n370 =>
 K (.agg #[(iV n367), (iV n368), (iV n369), (iV n370)]) M366)
 (rI CD wB 0 fun n371 =>
 rI CD wB 1 fun n372 =>
 rI CD wB 2 fun n373 =>
 rI CD wB 3 fun n374 =>
 kI CD k5 (iV n371) (iV n372) (iV n373) (iV n374) fun M378 =>
 bM M378 k5 0 fun n379 n380 n381 n382 =>
 K (.agg #[(iV n379), (iV n380), (iV n381), (iV n382)]) M378))) Kp))
 (aS (sG == 16)
 (aS ((mu : Int) == 0)
 (sT dn k5 0 (iV 0) fun M383 =>
 sT M383 k5 1 (iV 0) fun M384 =>
 sT M384 k5 2 (iV 0) fun M385 =>
 sT M385 k5 3 (iV 0) fun M386 =>
 bM M386 k5 0 fun n387 n388 n389 n390 =>
 K (.agg #[(iV n387), (iV n388), (iV n389), (iV n390)]) M386)
 (rI dn k3 1 fun n391 =>
 aa Tryz.prog 66 #[(iV n391), (iV (mu : Int))] dn (fun v392 M393 =>
 aK (some v392) .i64 fun n394 =>
 rI M393 k3 2 fun n395 =>
 aa Tryz.prog 66 #[(iV n395), (iV (IntKind.wrap .i64 ((mu : Int) - n394)))] M393 (fun v396 M397 =>
 aK (some v396) .i64 fun n398 =>
 kI M397 k5 (iV 16) (iV n394) (iV (IntKind.wrap .i64 (1 + n398))) (iV oG) fun M402 =>
 bM M402 k5 0 fun n403 n404 n405 n406 =>
 K (.agg #[(iV n403), (iV n404), (iV n405), (iV n406)]) M402) Kp) Kp))
 (aS (sG == 18)
 (rI dn k1 2 fun n407 =>
 aS (n407 == 0)
 (sT dn k5 0 (iV 0) fun M408 =>
 sT M408 k5 1 (iV 0) fun M409 =>
 sT M409 k5 2 (iV 0) fun M410 =>
 sT M410 k5 3 (iV 0) fun M411 =>
 bM M411 k5 0 fun n412 n413 n414 n415 =>
 K (.agg #[(iV n412), (iV n413), (iV n414), (iV n415)]) M411)
 (rI dn k3 1 fun n416 =>
 rI dn k1 2 fun n417 =>
 rI dn k3 0 fun X7 =>
 aa Tryz.prog 66 #[(iV n416), (iV n417)] dn (fun v419 M420 =>
 aK (some v419) .i64 fun n421 =>
 eI M420 k3 0 X7 ∧
 kI M420 k5 (iV X7) (iV n421) (iV 0) (iV 0) fun X8 =>
 eI X8 k3 0 X7 ∧
 bM X8 k5 0 fun n426 n427 n428 n429 =>
 K (.agg #[(iV n426), (iV n427), (iV n428), (iV n429)]) X8) Kp))
 (aS (sG == 19)
 (rI dn k1 2 fun n430 =>
 aS (n430 == 0)
 (sT dn k5 0 (iV 0) fun M431 =>
 sT M431 k5 1 (iV 0) fun M432 =>
 sT M432 k5 2 (iV 0) fun M433 =>
 sT M433 k5 3 (iV 0) fun M434 =>
 bM M434 k5 0 fun n435 n436 n437 n438 =>
 K (.agg #[(iV n435), (iV n436), (iV n437), (iV n438)]) M434)
 (rI dn k3 1 fun n439 =>
 rI dn k1 2 fun n440 =>
 rI dn k3 0 fun X9 =>
 aa Tryz.prog 66 #[(iV n439), (iV n440)] dn (fun v442 M443 =>
 aK (some v442) .i64 fun n444 =>
 eI M443 k3 0 X9 ∧
 kI M443 k5 (iV X9) (iV n444) (iV 0) (iV 0) fun Ya =>
 eI Ya k3 0 X9 ∧
 bM Ya k5 0 fun n449 n450 n451 n452 =>
 K (.agg #[(iV n449), (iV n450), (iV n451), (iV n452)]) Ya) Kp))
 (aS (sG == 21)
 (rI dn k3 2 fun n453 =>
 aa Tryz.prog 66 #[(iV n453), (iV 1000)] dn (fun v454 M455 =>
 aK (some v454) .i64 fun n456 =>
 kI M455 k5 (iV 21) (iV iB) (iV (IntKind.wrap .i64 (1 + n456))) (iV 0) fun M460 =>
 bM M460 k5 0 fun n461 n462 n463 n464 =>
 K (.agg #[(iV n461), (iV n462), (iV n463), (iV n464)]) M460) Kp)
 (aS (sG == 22)
 (rI dn k3 1 fun n465 =>
 aa Tryz.prog 66 #[(iV n465), (iV 1000)] dn (fun v466 M467 =>
 aK (some v466) .i64 fun n468 =>
 kI M467 k5 (iV 22) (iV n468) (iV 0) (iV 0) fun M472 =>
 bM M472 k5 0 fun n473 n474 n475 n476 =>
 K (.agg #[(iV n473), (iV n474), (iV n475), (iV n476)]) M472) Kp)
 (rI dn k3 0 fun n477 =>
 kI dn k5 (iV n477) (iV 0) (iV 0) (iV 0) fun M481 =>
 bM M481 k5 0 fun n482 n483 n484 n485 =>
 K (.agg #[(iV n482), (iV n483), (iV n484), (iV n485)]) M481)))))))))))))))))))))) Kp) Kp) Kp) Kp) :
 aa Tryz.prog 67 #[.agg #[.slice jZ j0 j5, .slice jb jc jd, .int .i64 fR, .slice j6 j7 j8], .slice B1 m1 c1, .agg #[.int .i64 Px, .int .i64 Py, .int .i64 Pz, .int .i64 PB]] M K Kp := vw [(2, .bS [0, 1, 3, 0, 8, 31, 0, 64, 255, 511, 1023, 2047] (sy [0, 3, 6, 1] (.cY 4 (.cY 7 (sy [2, 5, 8, 9, 10, 11] .done))))), (3, .bS [0, 1, 3, 0, 8, 24, 0, 64, 192, 7, 575, 2047] (sy [0, 3, 6, 1, 2, 9, 4, 5, 10, 7, 8, 11] .done)), (20, .bS [0, 1, 0, 4, 0, 28, 0, 0, 255, 511] (sy [0, 2, 4, 6, 7, 3] (.cY 1 (sy [5, 8, 9] .done)))), (30, .bS [0, 1, 0, 4, 0, 28, 63, 0, 255] (sy [0, 2, 4, 3] (.cY 1 (.late 5 (sy [6, 7, 8] .done))))), (45, .bS [0, 1, 0, 4, 0, 16, 60, 127, 255] (sy [0, 2, 4, 3, 5] (.cY 1 (sy [6, 7, 8] .done))))] Tryz.func67 h
end Go.Proofs
namespace Go.Proofs
open Go.AF
set_option maxRecDepth 100000
theorem tL {x0 : Int} {M : Mem} {K : Value → Mem → Prop} {Kp : List PanicEntry → Mem → Prop} (h :
aX M F8 fun k1 M2 =>
sT5 M2 k1 (iV (if ((if (16 : Int) < x0 then 16 else x0) : Int) > 0 then (if (16 : Int) < x0 then 16 else x0) else 0)) (.slice none 0 0) (.slice none 0 0) (.slice none 0 0) (.bool false) fun M7 =>
V0 M7 k1 0 fun n8 A9 c6 dQ nx de eH pg eN ei t18 =>
K (.agg #[(iV n8), (.slice A9 c6 dQ), (.slice nx de eH), (.slice pg eN ei), (.bool t18)]) M7) :
 aa Tryz.prog 161 #[.int .i64 x0] M K Kp := vw [] Tryz.func161 h
end Go.Proofs
namespace Go.Proofs
open Go.AF
set_option maxRecDepth 100000
set_option maxHeartbeats 1000000
attribute [local irreducible] aK dH fa cw az fk aE aP aX be bK aS
def yL (R : Mem) (vs : List Value) (c : aV) : Prop := ∃ A ca B cb D cd, vs = [.int .i64 (c.room : Int), .slice A c.buf.length ca, .slice B c.snd.length cb, .slice D c.dF.length cd, .bool c.closed] ∧
 RS aZ R A ca c.buf ∧ RS eG R B cb c.snd ∧ RS eG R D cd c.dF
theorem yL.le {R R' : Mem} {vs : List Value} {c : aV} (h : yL R vs c) (hle : R.le R') : yL R' vs c := by
 obtain ⟨A, ca, B, cb, D, cd, e, h1, h2, h3⟩ := h
 exact ⟨A, ca, B, cb, D, cd, e, h1.le hle, h2.le hle, h3.le hle⟩
section
variable {R : Mem} {L L' : List HP} {M : Mem} {K : Value → Mem → Prop} {Kp : List PanicEntry → Mem → Prop} {c : aV} {vs : List Value}
theorem Dq {room : Int} (h : Hp R L M) (k : ∀ vs M', Hp R L M' → yL R vs (.new room) → K (.agg vs.toArray) M') : aa Tryz.prog 161 #[.int .i64 room] M K Kp := by
 refine tL ?_
 repeat (first|(refine ae h ?_;clear h;intro kb M h)|(refine au h ?_;clear h;intro M h)|refine St.to h ?_|(apply Exists.intro;(repeat apply Exists.intro);refine And.intro rfl ?_)|refine av ?_|refine ai ?_|refine aj ?_)
 have e : (if (if (16 : Int) < room then 16 else room) > 0 then (if (16 : Int) < room then 16 else room) else 0) = ((Ay room : Nat) : Int) := by unfold Ay; omega
 rw [e] at h ⊢
 exact k _ _ h.oy ⟨none, 0, none, 0, none, 0, rfl, RS.nil _ _, RS.nil _ _, RS.nil _ _⟩
end
structure RC where
 room : Int
 A : Option Addr
 na : Nat
 ca : Nat
 B : Option Addr
 nb : Nat
 cb : Nat
 D : Option Addr
 nd : Nat
 cd : Nat
 closed : Bool
def Yb : fO RC := ⟨5, fun w => [.int .i64 w.room, .slice w.A w.na w.ca, .slice w.B w.nb w.cb, .slice w.D w.nd w.cd, .bool w.closed], fun _ => rfl, fun w v hv => by
 simp only [List.mem_cons, List.not_mem_nil, or_false] at hv; obtain rfl | rfl | rfl | rfl | rfl := hv <;> rfl⟩
def Ti (R : Mem) (r : RC) (c : aV) : Prop := yL R (Yb.f r) c
theorem Ti.le {R R' : Mem} {r : RC} {c : aV} (h : Ti R r c) (hle : R.le R') : Ti R' r c := yL.le h hle
theorem yL.rc {R : Mem} {vs : List Value} {c : aV} (h : yL R vs c) : ∃ r, vs = Yb.f r ∧ Ti R r c := by
 obtain ⟨A, ca, B, cb, D, cd, rfl, q1, q2, q3⟩ := id h
 exact ⟨⟨c.room, A, c.buf.length, ca, B, c.snd.length, cb, D, c.dF.length, cd, c.closed⟩, rfl, h⟩
def Jy (R : Mem) (xs : List RC) (cs : List aV) : Prop := xs.length = cs.length ∧ ∀ (i : Nat) (r : RC) (c : aV), xs[i]? = some r → cs[i]? = some c → Ti R r c
theorem Jy.le {R R' : Mem} {xs : List RC} {cs : List aV} (h : Jy R xs cs) (hle : R.le R') : Jy R' xs cs := ⟨h.1, fun i r c h1 h2 => (h.2 i r c h1 h2).le hle⟩
theorem Jy.nil (R : Mem) : Jy R [] [] := ⟨rfl, fun i r c h => by simp at h⟩
theorem Jy.snoc {R : Mem} {xs : List RC} {cs : List aV} {r : RC} {c : aV} (h : Jy R xs cs) (hr : Ti R r c) : Jy R (xs ++ [r]) (cs ++ [c]) := by
 refine ⟨by simp [h.1], fun i r' c' h1 h2 => ?_⟩
 rcases Nat.lt_or_ge i xs.length with hl | hl
 ·rw [List.getElem?_append_left hl] at h1; rw [List.getElem?_append_left (by rw [← h.1]; exact hl)] at h2; exact h.2 i _ _ h1 h2
 ·rw [List.getElem?_append_right hl] at h1; rw [List.getElem?_append_right (by rw [← h.1]; exact hl)] at h2
  have : i - xs.length = 0 := by
   obtain ⟨hh, _⟩ := List.getElem?_eq_some_iff.1 h1; simp at hh; omega
  rw [this] at h1; rw [← h.1, this] at h2
  cases h1; cases h2; exact hr
end Go.Proofs
namespace Go.Proofs
open Go.AF
set_option maxRecDepth 100000
theorem pR {x0 : Int} {x1 : Int} {M : Mem} {K : Value → Mem → Prop} {Kp : List PanicEntry → Mem → Prop} (h :
aX M vK fun k1 M2 =>
sT11 M2 k1 (iV x0) (iV 0) (iV 0) (iV 0) (iV 0) (iV 0) (iV 0) (iV 0) (iV 0) (iV 0) (iV 0) fun jy =>
((0 : Int) ≤ 0) ∧
((0 : Int) < 8) ∧
sT jy k1 (2 + 0) (iV x1) fun jO =>
oA jO k1 0 fun iA kT iB jY rY fB kD oE oG zl m7 =>
aX jO (cl [(iV iA), (iV kT), (iV iB), (iV jY), (iV rY), (iV fB), (iV kD), (iV oE), (iV oG), (iV zl), (iV m7)] 347) fun jW w6 =>
K (.slice (some ⟨jW, 0, none⟩) 1 1) w6) :
 aa Tryz.prog 160 #[.int .i64 x0, .int .i64 x1] M K Kp := vw [] Tryz.func160 h
theorem tM {jZ : Option Addr} {j0 j5 : Nat} {jb : Option Addr} {jc jd : Nat} {fR : Int} {j6 : Option Addr} {j7 j8 : Nat} {M : Mem} {K : Value → Mem → Prop} {Kp : List PanicEntry → Mem → Prop} (h :
aX M (cl [(.slice jZ j0 j5), (.slice jb jc jd), (iV fR), (.slice j6 j7 j8)] 59) fun k1 M2 =>
aX M2 kS fun k3 M4 =>
pb M4 k1 0 fun A5 k6 k7 A8 k9 c6 eD nx de eH =>
(True) ∧
aa Tryz.prog 160 #[(iV 0), (iV 0)] M4 (fun ur dZ =>
az (some ur) fun Ce dJ iw =>
((Mem.fN dZ ⟨k1, 0, none⟩ 0 4) = some [(.slice A5 k6 k7), (.slice A8 k9 c6), (iV eD), (.slice nx de eH)]) ∧
aX dZ (cl [(iV 1), (.slice Ce dJ iw), (iV 0), (iV 0), (iV 0), (iV 0)] 315) fun g7 jC =>
aX jC kS fun gF gB =>
Fz gB gF 0 [(.slice A5 k6 k7), (.slice A8 k9 c6), (iV eD), (.slice nx de eH), (.slice (some ⟨g7, 0, none⟩) 1 1), (.int .u64 0), (.slice none 0 0), (.slice none 0 0), (.slice none 0 0), (.int .u64 0), (.slice none 0 0), (iV 0), (iV 0), (.slice none 0 0)] 14 fun kL =>
((Mem.fN kL ⟨k1, 0, none⟩ 0 4) = some [(.slice A5 k6 k7), (.slice A8 k9 c6), (iV eD), (.slice nx de eH)]) ∧
rS kL k1 1 fun Mw jW nw =>
∃ I28 : IT, (∃ mo, I28 mo [(iV 0)] kL) ∧
∀ (mq : Nat) (_ : Nat → Value) (n32 : Int) (vq : Mem), (I28 mq [(iV n32)] vq) → aS (decide (n32 < jW))
 ((0 ≤ n32) ∧
 (n32 < jW) ∧
 aE Mw fun vS zg =>
 rI vq vS (zg + (Int.toNat n32)) fun w9 =>
 ∃ J37 : List Value → Mem → Prop, ((rS vq gF 6 fun V3 uu zN =>
 aa Tryz.prog 161 #[(iV w9)] vq (fun v41 Pw =>
 ∃ Gb : Int, ∃ Zz : Option Addr, ∃ Cg Ch : Nat, ∃ SK : Option Addr, ∃ Dm Fs : Nat, ∃ ZG : Option Addr, ∃ H8 lU : Nat, ∃ t53 : Bool, (v41 = (.agg #[(iV Gb), (.slice Zz Cg Ch), (.slice SK Dm Fs), (.slice ZG H8 lU), (.bool t53)])) ∧
 aX Pw (cl [(iV Gb), (.slice Zz Cg Ch), (.slice SK Dm Fs), (.slice ZG H8 lU), (.bool t53)] 318) fun HY r7 =>
 aA 75 V3 uu zN (some ⟨HY, 0, none⟩) 1 1 r7 (fun v56 HX =>
 az (some v56) fun MT UN N8 =>
 sT HX gF 6 (.slice MT UN N8) fun Dh =>
 J37 [] Dh) Kp) Kp) ∧
 (aa Tryz.prog 161 #[(iV w9)] vq (fun SH w5 =>
 ∃ n64 : Int, ∃ SS : Option Addr, ∃ Gt xd : Nat, ∃ A68 : Option Addr, ∃ MN zn : Nat, ∃ MH : Option Addr, ∃ Ji PE : Nat, ∃ t74 : Bool, (SH = (.agg #[(iV n64), (.slice SS Gt xd), (.slice A68 MN zn), (.slice MH Ji PE), (.bool t74)])) ∧
 rS w5 gF 6 fun ZJ U8 SM =>
 aX w5 (cl [(iV n64), (.slice SS Gt xd), (.slice A68 MN zn), (.slice MH Ji PE), (.bool t74)] 318) fun Oc ZL =>
 aA 75 ZJ U8 SM (some ⟨Oc, 0, none⟩) 1 1 ZL (fun v80 Jj =>
 az (some v80) fun A82 zQ k84 =>
 sT Jj gF 6 (.slice A82 zQ k84) fun M85 =>
 J37 [] M85) Kp) Kp) ∧
 True) ∧
 ∀ junk86 : Nat → Value, ∀ GB : Mem, (J37 [] GB) → ∃ MG : Nat, (MG < mq) ∧
 I28 MG [(iV (IntKind.wrap .i64 (n32 + 1)))] GB)
 (rI vq k1 2 fun U9 =>
 be Tryz.prog (Go.Instr.makeSlice 76 (iV U9) (iV U9)) vq (fun PD mh =>
 az (some PD) fun SN SY SO =>
 sT mh gF 7 (.slice SN SY SO) fun Js =>
 rW Js gF fun l96 =>
 Fz Js k3 0 l96 14 fun K2 =>
 rW K2 k3 fun l98 =>
 K (.agg (l98.toArray)) K2) Kp)) Kp) :
 aa Tryz.prog 123 #[.agg #[.slice jZ j0 j5, .slice jb jc jd, .int .i64 fR, .slice j6 j7 j8]] M K Kp := vw [(1, .bS [0, 0, 2, 6, 15, 0, 63] (.cY 0 (.late 1 (sy [2, 3, 4, 5, 6] .done)))), (2000000, .loop [(14, .c (.int .i64))]), (5, .FX [0, 1, 0, 4, 12, 31, 63, 127] (sy [0, 2] (.fork 1 (sy [3, 4, 5, 6, 7] .done) (.fork 3 (sy [1, 4, 5, 6, 7] .done) .dead))) [])] Tryz.func123 h
theorem tN {jZ : Option Addr} {j0 j5 : Nat} {jb : Option Addr} {jc jd : Nat} {fR : Int} {j6 : Option Addr} {j7 j8 : Nat} {cT : Int} {cU : Int} {cV : Int} {eR : Int} {B2_0 : Option Addr} {m2_0 c2_0 : Nat} {B2_1 : Option Addr} {m2_1 c2_1 : Nat} {q2_2 : Bool} {q2_3 : Bool} {B2_4 : Option Addr} {m2_4 c2_4 : Nat} {M : Mem} {K : Value → Mem → Prop} {Kp : List PanicEntry → Mem → Prop} (h :
aX M (cl [(.slice jZ j0 j5), (.slice jb jc jd), (iV fR), (.slice j6 j7 j8)] 59) fun k1 M2 =>
aX M2 (cl [(iV cT), (iV cU), (iV cV), (iV eR)] 23) fun k3 M4 =>
aX M4 (cl [(.slice B2_0 m2_0 c2_0), (.slice B2_1 m2_1 c2_1), (.bool q2_2), (.bool q2_3), (.slice B2_4 m2_4 c2_4)] 86) fun k5 M6 =>
aX M6 bT fun k7 M8 =>
pb M8 k1 0 fun A9 c6 dQ nx de eH iA K0 ei dJ =>
bM M8 k3 0 fun rY fB kD oE =>
V1 M8 k5 0 fun Mt lq nZ Ft nw kF t29 t30 Ms sF pB =>
(True) ∧
(True) ∧
aa Tryz.prog 123 #[(.agg #[(.slice A9 c6 dQ), (.slice nx de eH), (iV iA), (.slice K0 ei dJ)])] M8 (fun Ws pM =>
xW Ws fun v36 v37 v38 v39 Es v41 v42 v43 v44 v45 XA v47 v48 Mv =>
((Mem.fN pM ⟨k5, 0, none⟩ 0 5) = some [(.slice Mt lq nZ), (.slice Ft nw kF), (.bool t29), (.bool t30), (.slice Ms sF pB)]) ∧
((Mem.fN pM ⟨k3, 0, none⟩ 0 4) = some [(iV rY), (iV fB), (iV kD), (iV oE)]) ∧
aX pM O0 fun zi V7 =>
aX V7 bT fun lU Je =>
Fz Je lU 0 [(iV rY), (iV fB), (iV kD), (iV oE), v36, v37, v38, v39, Es, v41, v42, v43, v44, v45, XA, v47, v48, Mv, (.slice none 0 0), (.slice none 0 0), (.slice (some ⟨zi, 0, none⟩) 1 1), (.slice Mt lq nZ), (.slice Ft nw kF), (.bool t29), (.bool t30), (.slice Ms sF pB), (iV 0)] 27 fun Gc =>
((Mem.fN Gc ⟨k5, 0, none⟩ 0 5) = some [(.slice Mt lq nZ), (.slice Ft nw kF), (.bool t29), (.bool t30), (.slice Ms sF pB)]) ∧
((Mem.fN Gc ⟨k3, 0, none⟩ 0 4) = some [(iV rY), (iV fB), (iV kD), (iV oE)]) ∧
∃ I55 : IT, (∃ Ob, I55 Ob [(iV 0)] Gc) ∧
∀ (xF : Nat) (_ : Nat → Value) (Eo : Int) (zj : Mem), (I55 xF [(iV Eo)] zj) → rI zj k3 0 fun Mx =>
aS (decide (Eo < Mx))
 (∃ J62 : List Value → Mem → Prop, (rI zj k3 2 fun Ck =>
 (rS zj lU 18 fun ZC Jh Gt =>
 aa Tryz.prog 124 #[(iV Ck)] zj (fun v67 Wq =>
 ∃ U4 : Int, ∃ ZE : Option Addr, ∃ Gr Ji : Nat, ∃ UP : Int, (v67 = (.agg #[(iV U4), (.slice ZE Gr Ji), (iV UP)])) ∧
 aX Wq (cl [(iV U4), (.slice ZE Gr Ji), (iV UP), (iV 0), (iV (-1))] 257) fun U2 xJ =>
 aA 82 ZC Jh Gt (some ⟨U2, 0, none⟩) 1 1 xJ (fun v76 SQ =>
 az (some v76) fun A78 PF Ic =>
 sT SQ lU 18 (.slice A78 PF Ic) fun Jj =>
 J62 [] Jj) Kp) Kp) ∧
 (aa Tryz.prog 124 #[(iV Ck)] zj (fun v82 Ib =>
 ∃ IS : Int, ∃ A85 : Option Addr, ∃ K4 RM : Nat, ∃ n88 : Int, (v82 = (.agg #[(iV IS), (.slice A85 K4 RM), (iV n88)])) ∧
 rS Ib lU 18 fun A89 k90 SW =>
 aX Ib (cl [(iV IS), (.slice A85 K4 RM), (iV n88), (iV 0), (iV (-1))] 257) fun SX Ct =>
 aA 82 A89 k90 SW (some ⟨SX, 0, none⟩) 1 1 Ct (fun v94 Js =>
 az (some v94) fun A96 k97 WH =>
 sT Js lU 18 (.slice A96 k97 WH) fun Wn =>
 J62 [] Wn) Kp) Kp) ∧
 True) ∧
 ∀ junk100 : Nat → Value, ∀ iS : Mem, (J62 [] iS) → ∃ Jg : Nat, (Jg < xF) ∧
 I55 Jg [(iV (IntKind.wrap .i64 (Eo + 1)))] iS)
 (∃ Yc : IT, (∃ Cu, Yc Cu [(iV 0)] zj) ∧
 ∀ (Tb : Nat) (_ : Nat → Value) (EM : Int) (uS : Mem), (Yc Tb [(iV EM)] uS) → rI uS k3 1 fun Qp =>
 aS (decide (EM < Qp))
 (rS uS lU 19 fun Yd Qj EF =>
 aX uS (cl [(iV (-1)), (iV (-1)), (iV 0)] 259) fun AR zu =>
 aA 83 Yd Qj EF (some ⟨AR, 0, none⟩) 1 1 zu (fun v115 wv =>
 az (some v115) fun Qk Ju EL =>
 sT wv lU 19 (.slice Qk Ju EL) fun Ye =>
 ∃ Tc : Nat, (Tc < Tb) ∧
 Yc Tc [(iV (IntKind.wrap .i64 (EM + 1)))] Ye) Kp)
 (Ig (Mem.fN uS ⟨lU, 0, none⟩ 0 27) fun l122 =>
 Fz uS k7 0 l122 27 fun MS =>
 Ig (Mem.fN MS ⟨k7, 0, none⟩ 0 27) fun l124 =>
 K (.agg (l124.toArray)) MS))) Kp) :
 aa Tryz.prog 78 #[.agg #[.slice jZ j0 j5, .slice jb jc jd, .int .i64 fR, .slice j6 j7 j8], .agg #[.int .i64 cT, .int .i64 cU, .int .i64 cV, .int .i64 eR], .agg #[.slice B2_0 m2_0 c2_0, .slice B2_1 m2_1 c2_1, .bool q2_2, .bool q2_3, .slice B2_4 m2_4 c2_4]] M K Kp := vw [(1, .bS [0, 0, 2, 0, 0, 31, 0, 127] (sy [1] (.cY 0 (.cY 4 (.late 2 (sy [3, 5, 6, 7] .done)))))), (2000000, .loop [(8, .c (.int .i64))]), (5, .FX [0, 1, 0, 4, 12, 28, 60, 127, 255, 511] (sy [0, 2, 3] (.fork 1 (sy [4, 5, 6, 7, 8, 9] .done) (.fork 4 (sy [5, 1, 6, 7, 8, 9] .done) .dead))) []), (2000002, .loop [(9, .c (.int .i64))])] Tryz.func78 h
theorem qR {jZ : Option Addr} {j0 j5 : Nat} {jb : Option Addr} {jc jd : Nat} {fR : Int} {j6 : Option Addr} {j7 j8 : Nat} {cT : Int} {cU : Int} {cV : Int} {eR : Int} {B2 : Option Addr} {m2 c2 : Nat} {M : Mem} {K : Value → Mem → Prop} {Kp : List PanicEntry → Mem → Prop} (h :
aX M (cl [(.slice jZ j0 j5), (.slice jb jc jd), (iV fR), (.slice j6 j7 j8)] 59) fun k1 M2 =>
aX M2 (cl [(iV cT), (iV cU), (iV cV), (iV eR)] 23) fun k3 M4 =>
aX M4 bT fun k5 M6 =>
pb M6 k1 0 fun A7 k8 k9 yG dQ gx iq pn hU eN =>
aa Tryz.prog 24 #[(.agg #[(.slice A7 k8 k9), (.slice yG dQ gx), (iV iq), (.slice pn hU eN)])] M6 (fun SJ m6 =>
∃ yH : Option Addr, ∃ g7 fK : Nat, ∃ MD : Option Addr, ∃ iT lq : Nat, ∃ m7 : Int, ∃ Ft : Option Addr, ∃ nw kF : Nat, (SJ = (.agg #[(.slice yH g7 fK), (.slice MD iT lq), (iV m7), (.slice Ft nw kF)])) ∧
aX m6 xA fun mo pe =>
kI pe mo (.slice yH g7 fK) (.slice MD iT lq) (iV m7) (.slice Ft nw kF) fun pE =>
aa Tryz.prog 16 #[(.slice B2 m2 c2)] pE (fun v35 Cj =>
cw (some v35) fun H9 =>
pb Cj mo 0 fun V3 uu zN SD Em qq Gq UT Ch KU =>
bM Cj k3 0 fun Eu MI Gm Cr =>
pb Cj mo 0 fun V8 rX HY Wp Ob xF Gd We N8 RK =>
bM Cj k3 0 fun Oa Ck n64 zf =>
aa Tryz.prog 25 #[(.agg #[(.slice V3 uu zN), (.slice SD Em qq), (iV Gq), (.slice UT Ch KU)])] Cj (fun v66 ZD =>
∃ A68 : Option Addr, ∃ MN zn : Nat, ∃ MH : Option Addr, ∃ Ji PE : Nat, ∃ Od : Int, ∃ ZJ : Option Addr, ∃ U8 SM : Nat, (v66 = (.agg #[(.slice A68 MN zn), (.slice MH Ji PE), (iV Od), (.slice ZJ U8 SM)])) ∧
((Mem.fN ZD ⟨k3, 0, none⟩ 0 4) = some [(iV Oa), (iV Ck), (iV n64), (iV zf)]) ∧
((Mem.fN ZD ⟨mo, 0, none⟩ 0 4) = some [(.slice V8 rX HY), (.slice Wp Ob xF), (iV Gd), (.slice We N8 RK)]) ∧
((Mem.fN ZD ⟨k3, 0, none⟩ 0 4) = some [(iV Eu), (iV MI), (iV Gm), (iV Cr)]) ∧
aa Tryz.prog 15 #[(.agg #[(.slice A68 MN zn), (.slice MH Ji PE), (iV Od), (.slice ZJ U8 SM)]), (.agg #[(iV Eu), (iV MI), (iV Gm), (iV Cr)]), (.pointer H9)] ZD (fun v78 ZL =>
cw (some v78) fun A80 =>
((Mem.fN ZL ⟨k3, 0, none⟩ 0 4) = some [(iV Oa), (iV Ck), (iV n64), (iV zf)]) ∧
((Mem.fN ZL ⟨mo, 0, none⟩ 0 4) = some [(.slice V8 rX HY), (.slice Wp Ob xF), (iV Gd), (.slice We N8 RK)]) ∧
((Mem.fN ZL ⟨k3, 0, none⟩ 0 4) = some [(iV Eu), (iV MI), (iV Gm), (iV Cr)]) ∧
aa Tryz.prog 78 #[(.agg #[(.slice V8 rX HY), (.slice Wp Ob xF), (iV Gd), (.slice We N8 RK)]), (.agg #[(iV Oa), (iV Ck), (iV n64), (iV zf)]), (.agg #[(.slice B2 m2 c2), (.slice none 0 0), (.bool false), (.bool false), (.slice none 0 0)])] ZL (fun v81 SU =>
∃ l83 : List Value, ((l83.length) = 27) ∧
(v81 = (.agg (l83.toArray))) ∧
((Mem.fN SU ⟨k3, 0, none⟩ 0 4) = some [(iV Oa), (iV Ck), (iV n64), (iV zf)]) ∧
((Mem.fN SU ⟨mo, 0, none⟩ 0 4) = some [(.slice V8 rX HY), (.slice Wp Ob xF), (iV Gd), (.slice We N8 RK)]) ∧
((Mem.fN SU ⟨k3, 0, none⟩ 0 4) = some [(iV Eu), (iV MI), (iV Gm), (iV Cr)]) ∧
Fz SU k5 0 l83 27 fun Gv =>
((Mem.fN Gv ⟨k3, 0, none⟩ 0 4) = some [(iV Oa), (iV Ck), (iV n64), (iV zf)]) ∧
((Mem.fN Gv ⟨mo, 0, none⟩ 0 4) = some [(.slice V8 rX HY), (.slice Wp Ob xF), (iV Gd), (.slice We N8 RK)]) ∧
((Mem.fN Gv ⟨k3, 0, none⟩ 0 4) = some [(iV Eu), (iV MI), (iV Gm), (iV Cr)]) ∧
Ig (Mem.fN Gv ⟨k5, 0, none⟩ 0 27) fun l85 =>
K (.tuple #[(.pointer A80), (.agg (l85.toArray)), (.pointer H9)]) Gv) Kp) Kp) Kp) Kp) Kp) :
 aa Tryz.prog 32 #[.agg #[.slice jZ j0 j5, .slice jb jc jd, .int .i64 fR, .slice j6 j7 j8], .agg #[.int .i64 cT, .int .i64 cU, .int .i64 cV, .int .i64 eR], .slice B2 m2 c2] M K Kp := vw [(3, .bS [0, 1, 0, 0, 15, 0, 0, 0, 128, 511, 0, 1023, 3071, 8191] (sy [3, 7, 8, 10, 0] (.cY 2 (.cY 5 (.cY 6 (sy [1, 4, 9, 11, 12, 13] .done))))))] Tryz.func32 h
variable {M : Mem} {K : Value → Mem → Prop} {Kp : List PanicEntry → Mem → Prop}
theorem AY {B0 : Option Addr} {m0 c0 : Nat} (h :
aX M (cl [] 5) fun k1 M2 =>
∃ I3 : IT, (∃ k4, I3 k4 [(.slice (some ⟨k1, 0, none⟩) 0 0), (iV 0)] M2) ∧
∀ (k5 : Nat) (_ : Nat → Value) (A7 : Option Addr) (k8 : Nat) (k9 : Nat) (jA : Int) (iO : Mem), (I3 k5 [(.slice A7 k8 k9), (iV jA)] iO) → aS (decide (jA < m0))
 ((0 ≤ jA) ∧
 (jA < m0) ∧
 aE B0 fun gx de =>
 rI iO gx (de + (Int.toNat jA)) fun jX =>
 aa Tryz.prog 101 #[(iV jX)] iO (fun ur dZ =>
 aK (some ur) .u64 fun iB =>
 aa Tryz.prog 100 #[(.int .u64 iB)] dZ (fun Ci jx =>
 fa (some Ci) fun s20 =>
 be Tryz.prog (Go.Builtin.append_ #[212, 9] 212 #[(.slice A7 k8 k9), (.string s20)]) jx (fun Wi dn =>
 az (some Wi) fun Mt lq nZ =>
 ∃ jW : Nat, (jW < k5) ∧
 I3 jW [(.slice Mt lq nZ), (iV (IntKind.wrap .i64 (jA + 1)))] dn) Kp) Kp) Kp)
 (be Tryz.prog (Go.convert 212 9 (.slice A7 k8 k9)) iO (fun IW w4 =>
 fa (some IW) fun s29 =>
 aX w4 (cl [(.string s29)] 9) fun mq Jd =>
 aa Tryz.prog 102 #[(.slice (some ⟨mq, 0, none⟩) 1 1)] Jd (fun v32 vq =>
 aK (some v32) .u32 fun Pt =>
 K (.int .u32 Pt) vq) Kp) Kp)) :
 aa Tryz.prog 46 #[.slice B0 m0 c0] M K Kp := vw [(2000000, .loop [(3, .c .sl), (9, .c (.int .i64))])] Tryz.func46 h
theorem Jz {x0 : Int} (h :
∃ I1 : IT, (∃ k2, I1 k2 [(.int .u64 x0), (.slice none 0 0)] M) ∧
∀ (k3 : Nat) (_ : Nat → Value) (n5 : Int) (A6 : Option Addr) (k7 : Nat) (k8 : Nat) (M9 : Mem), (I1 k3 [(.int .u64 n5), (.slice A6 k7 k8)] M9) → aS (decide (n5 ≥ 128))
 (aX M9 (cl [(.int .u8 (IntKind.wrap .u8 (((Nat.bitwise or (BitVec.ofInt IntKind.u8.bits (IntKind.u8.wrap n5)).toNat (BitVec.ofInt IntKind.u8.bits 128).toNat) : Nat) : Int)))] 5) fun c6 iO =>
 aA 212 A6 k7 k8 (some ⟨c6, 0, none⟩) 1 1 iO (fun zK jy =>
 az (some zK) fun pn hU eN =>
 ∃ ei : Nat, (ei < k3) ∧
 I1 ei [(.int .u64 (Int.fdiv n5 128)), (.slice pn hU eN)] jy) Kp)
 (aX M9 (cl [(.int .u8 (IntKind.wrap .u8 n5))] 5) fun dJ jx =>
 aA 212 A6 k7 k8 (some ⟨dJ, 0, none⟩) 1 1 jx (fun v20 jC =>
 az (some v20) fun MD iT lq =>
 be Tryz.prog (Go.convert 212 9 (.slice MD iT lq)) jC (fun MB vr =>
 fa (some MB) fun s27 =>
 K (.string s27) vr) Kp) Kp)) :
 aa Tryz.prog 100 #[.int .u64 x0] M K Kp := vw [(2000000, .loop [(0, .c (.int .u64)), (3, .c .sl)])] Tryz.func100 h
theorem JA {x0 : Int} (h :
K (.int .u64 (IntKind.wrap .u64 (((Nat.bitwise bne
 (BitVec.ofInt IntKind.u64.bits
 (IntKind.u64.wrap (IntKind.i64.wrap (x0 * 2 ^ min (Int.toNat 1) IntKind.i64.bits)))).toNat
 (BitVec.ofInt IntKind.u64.bits (IntKind.u64.wrap (x0.fdiv (2 ^ min (Int.toNat 63) IntKind.i64.bits)))).toNat) : Nat) : Int))) M) :
 aa Tryz.prog 101 #[.int .i64 x0] M K Kp := vw [] Tryz.func101 h
theorem Na {B0 : Option Addr} {m0 c0 : Nat} (h :
aX M (cl [(.int .u32 0)] 287) fun k1 M2 =>
∃ I3 : IT, (∃ k4, I3 k4 [(iV 0)] M2) ∧
∀ (k5 : Nat) (_ : Nat → Value) (n7 : Int) (M8 : Mem), (I3 k5 [(iV n7)] M8) → aS (decide (n7 < m0))
 ((0 ≤ n7) ∧
 (n7 < m0) ∧
 aE B0 fun k9 c6 =>
 fa (Mem.ld M8 ⟨k9, (c6 + (Int.toNat n7)), none⟩) fun s11 =>
 aK (Mem.ld M8 ⟨k1, 0, none⟩) .u32 fun ik =>
 aa Tryz.prog 142 #[(.agg #[(.int .u32 ik)]), (.string s11)] M8 (fun Fm jO =>
 ∃ iA : Int, (Fm = (.agg #[(.int .u32 iA)])) ∧
 sT jO k1 0 (.int .u32 iA) fun dZ =>
 ∃ ei : Nat, (ei < k5) ∧
 I3 ei [(iV (IntKind.wrap .i64 (n7 + 1)))] dZ) Kp)
 (aK (Mem.ld M8 ⟨k1, 0, none⟩) .u32 fun jY =>
 aa Tryz.prog 143 #[(.agg #[(.int .u32 jY)])] M8 (fun Jb mb =>
 aK (some Jb) .u32 fun kD =>
 K (.int .u32 kD) mb) Kp)) :
 aa Tryz.prog 102 #[.slice B0 m0 c0] M K Kp := vw [(2000000, .loop [(8, .c (.int .i64))])] Tryz.func102 h
theorem EO  (h :
aX M (cl [(.int .u32 0), (.int .u32 0), (.int .u32 0), (.int .u32 0), (.int .u32 0), (.int .u32 0), (.int .u32 0), (.int .u32 0), (.int .u32 0), (.int .u32 0), (.int .u32 0), (.int .u32 0), (.int .u32 0), (.int .u32 0), (.int .u32 0), (.int .u32 0), (.int .u32 0), (.int .u32 0), (.int .u32 0), (.int .u32 0), (.int .u32 0), (.int .u32 0), (.int .u32 0), (.int .u32 0), (.int .u32 0), (.int .u32 0), (.int .u32 0), (.int .u32 0), (.int .u32 0), (.int .u32 0), (.int .u32 0), (.int .u32 0), (.int .u32 0), (.int .u32 0), (.int .u32 0), (.int .u32 0), (.int .u32 0), (.int .u32 0), (.int .u32 0), (.int .u32 0), (.int .u32 0), (.int .u32 0), (.int .u32 0), (.int .u32 0), (.int .u32 0), (.int .u32 0), (.int .u32 0), (.int .u32 0), (.int .u32 0), (.int .u32 0), (.int .u32 0), (.int .u32 0), (.int .u32 0), (.int .u32 0), (.int .u32 0), (.int .u32 0), (.int .u32 0), (.int .u32 0), (.int .u32 0), (.int .u32 0), (.int .u32 0), (.int .u32 0), (.int .u32 0), (.int .u32 0), (.int .u32 0), (.int .u32 0), (.int .u32 0), (.int .u32 0), (.int .u32 0), (.int .u32 0), (.int .u32 0), (.int .u32 0), (.int .u32 0), (.int .u32 0), (.int .u32 0), (.int .u32 0), (.int .u32 0), (.int .u32 0), (.int .u32 0), (.int .u32 0), (.int .u32 0), (.int .u32 0), (.int .u32 0), (.int .u32 0), (.int .u32 0), (.int .u32 0), (.int .u32 0), (.int .u32 0), (.int .u32 0), (.int .u32 0), (.int .u32 0), (.int .u32 0), (.int .u32 0), (.int .u32 0), (.int .u32 0), (.int .u32 0), (.int .u32 0), (.int .u32 0), (.int .u32 0), (.int .u32 0), (.int .u32 0), (.int .u32 0), (.int .u32 0), (.int .u32 0), (.int .u32 0), (.int .u32 0), (.int .u32 0), (.int .u32 0), (.int .u32 0), (.int .u32 0), (.int .u32 0), (.int .u32 0), (.int .u32 0), (.int .u32 0), (.int .u32 0), (.int .u32 0), (.int .u32 0), (.int .u32 0), (.int .u32 0), (.int .u32 0), (.int .u32 0), (.int .u32 0), (.int .u32 0), (.int .u32 0), (.int .u32 0), (.int .u32 0), (.int .u32 0), (.int .u32 0), (.int .u32 0), (.int .u32 0), (.int .u32 0), (.int .u32 0), (.int .u32 0), (.int .u32 0), (.int .u32 0), (.int .u32 0), (.int .u32 0), (.int .u32 0), (.int .u32 0), (.int .u32 0), (.int .u32 0), (.int .u32 0), (.int .u32 0), (.int .u32 0), (.int .u32 0), (.int .u32 0), (.int .u32 0), (.int .u32 0), (.int .u32 0), (.int .u32 0), (.int .u32 0), (.int .u32 0), (.int .u32 0), (.int .u32 0), (.int .u32 0), (.int .u32 0), (.int .u32 0), (.int .u32 0), (.int .u32 0), (.int .u32 0), (.int .u32 0), (.int .u32 0), (.int .u32 0), (.int .u32 0), (.int .u32 0), (.int .u32 0), (.int .u32 0), (.int .u32 0), (.int .u32 0), (.int .u32 0), (.int .u32 0), (.int .u32 0), (.int .u32 0), (.int .u32 0), (.int .u32 0), (.int .u32 0), (.int .u32 0), (.int .u32 0), (.int .u32 0), (.int .u32 0), (.int .u32 0), (.int .u32 0), (.int .u32 0), (.int .u32 0), (.int .u32 0), (.int .u32 0), (.int .u32 0), (.int .u32 0), (.int .u32 0), (.int .u32 0), (.int .u32 0), (.int .u32 0), (.int .u32 0), (.int .u32 0), (.int .u32 0), (.int .u32 0), (.int .u32 0), (.int .u32 0), (.int .u32 0), (.int .u32 0), (.int .u32 0), (.int .u32 0), (.int .u32 0), (.int .u32 0), (.int .u32 0), (.int .u32 0), (.int .u32 0), (.int .u32 0), (.int .u32 0), (.int .u32 0), (.int .u32 0), (.int .u32 0), (.int .u32 0), (.int .u32 0), (.int .u32 0), (.int .u32 0), (.int .u32 0), (.int .u32 0), (.int .u32 0), (.int .u32 0), (.int .u32 0), (.int .u32 0), (.int .u32 0), (.int .u32 0), (.int .u32 0), (.int .u32 0), (.int .u32 0), (.int .u32 0), (.int .u32 0), (.int .u32 0), (.int .u32 0), (.int .u32 0), (.int .u32 0), (.int .u32 0), (.int .u32 0), (.int .u32 0), (.int .u32 0), (.int .u32 0), (.int .u32 0), (.int .u32 0), (.int .u32 0), (.int .u32 0), (.int .u32 0), (.int .u32 0), (.int .u32 0), (.int .u32 0), (.int .u32 0), (.int .u32 0), (.int .u32 0), (.int .u32 0), (.int .u32 0), (.int .u32 0), (.int .u32 0), (.int .u32 0), (.int .u32 0), (.int .u32 0)] 325) fun k1 M2 =>
aX M2 (cl [(.int .u32 0), (.int .u32 0), (.int .u32 0), (.int .u32 0), (.int .u32 0), (.int .u32 0), (.int .u32 0), (.int .u32 0), (.int .u32 0), (.int .u32 0), (.int .u32 0), (.int .u32 0), (.int .u32 0), (.int .u32 0), (.int .u32 0), (.int .u32 0), (.int .u32 0), (.int .u32 0), (.int .u32 0), (.int .u32 0), (.int .u32 0), (.int .u32 0), (.int .u32 0), (.int .u32 0), (.int .u32 0), (.int .u32 0), (.int .u32 0), (.int .u32 0), (.int .u32 0), (.int .u32 0), (.int .u32 0), (.int .u32 0), (.int .u32 0), (.int .u32 0), (.int .u32 0), (.int .u32 0), (.int .u32 0), (.int .u32 0), (.int .u32 0), (.int .u32 0), (.int .u32 0), (.int .u32 0), (.int .u32 0), (.int .u32 0), (.int .u32 0), (.int .u32 0), (.int .u32 0), (.int .u32 0), (.int .u32 0), (.int .u32 0), (.int .u32 0), (.int .u32 0), (.int .u32 0), (.int .u32 0), (.int .u32 0), (.int .u32 0), (.int .u32 0), (.int .u32 0), (.int .u32 0), (.int .u32 0), (.int .u32 0), (.int .u32 0), (.int .u32 0), (.int .u32 0), (.int .u32 0), (.int .u32 0), (.int .u32 0), (.int .u32 0), (.int .u32 0), (.int .u32 0), (.int .u32 0), (.int .u32 0), (.int .u32 0), (.int .u32 0), (.int .u32 0), (.int .u32 0), (.int .u32 0), (.int .u32 0), (.int .u32 0), (.int .u32 0), (.int .u32 0), (.int .u32 0), (.int .u32 0), (.int .u32 0), (.int .u32 0), (.int .u32 0), (.int .u32 0), (.int .u32 0), (.int .u32 0), (.int .u32 0), (.int .u32 0), (.int .u32 0), (.int .u32 0), (.int .u32 0), (.int .u32 0), (.int .u32 0), (.int .u32 0), (.int .u32 0), (.int .u32 0), (.int .u32 0), (.int .u32 0), (.int .u32 0), (.int .u32 0), (.int .u32 0), (.int .u32 0), (.int .u32 0), (.int .u32 0), (.int .u32 0), (.int .u32 0), (.int .u32 0), (.int .u32 0), (.int .u32 0), (.int .u32 0), (.int .u32 0), (.int .u32 0), (.int .u32 0), (.int .u32 0), (.int .u32 0), (.int .u32 0), (.int .u32 0), (.int .u32 0), (.int .u32 0), (.int .u32 0), (.int .u32 0), (.int .u32 0), (.int .u32 0), (.int .u32 0), (.int .u32 0), (.int .u32 0), (.int .u32 0), (.int .u32 0), (.int .u32 0), (.int .u32 0), (.int .u32 0), (.int .u32 0), (.int .u32 0), (.int .u32 0), (.int .u32 0), (.int .u32 0), (.int .u32 0), (.int .u32 0), (.int .u32 0), (.int .u32 0), (.int .u32 0), (.int .u32 0), (.int .u32 0), (.int .u32 0), (.int .u32 0), (.int .u32 0), (.int .u32 0), (.int .u32 0), (.int .u32 0), (.int .u32 0), (.int .u32 0), (.int .u32 0), (.int .u32 0), (.int .u32 0), (.int .u32 0), (.int .u32 0), (.int .u32 0), (.int .u32 0), (.int .u32 0), (.int .u32 0), (.int .u32 0), (.int .u32 0), (.int .u32 0), (.int .u32 0), (.int .u32 0), (.int .u32 0), (.int .u32 0), (.int .u32 0), (.int .u32 0), (.int .u32 0), (.int .u32 0), (.int .u32 0), (.int .u32 0), (.int .u32 0), (.int .u32 0), (.int .u32 0), (.int .u32 0), (.int .u32 0), (.int .u32 0), (.int .u32 0), (.int .u32 0), (.int .u32 0), (.int .u32 0), (.int .u32 0), (.int .u32 0), (.int .u32 0), (.int .u32 0), (.int .u32 0), (.int .u32 0), (.int .u32 0), (.int .u32 0), (.int .u32 0), (.int .u32 0), (.int .u32 0), (.int .u32 0), (.int .u32 0), (.int .u32 0), (.int .u32 0), (.int .u32 0), (.int .u32 0), (.int .u32 0), (.int .u32 0), (.int .u32 0), (.int .u32 0), (.int .u32 0), (.int .u32 0), (.int .u32 0), (.int .u32 0), (.int .u32 0), (.int .u32 0), (.int .u32 0), (.int .u32 0), (.int .u32 0), (.int .u32 0), (.int .u32 0), (.int .u32 0), (.int .u32 0), (.int .u32 0), (.int .u32 0), (.int .u32 0), (.int .u32 0), (.int .u32 0), (.int .u32 0), (.int .u32 0), (.int .u32 0), (.int .u32 0), (.int .u32 0), (.int .u32 0), (.int .u32 0), (.int .u32 0), (.int .u32 0), (.int .u32 0), (.int .u32 0), (.int .u32 0), (.int .u32 0), (.int .u32 0), (.int .u32 0), (.int .u32 0), (.int .u32 0), (.int .u32 0), (.int .u32 0), (.int .u32 0), (.int .u32 0), (.int .u32 0), (.int .u32 0), (.int .u32 0), (.int .u32 0), (.int .u32 0), (.int .u32 0), (.int .u32 0), (.int .u32 0), (.int .u32 0), (.int .u32 0)] 325) fun k3 M4 =>
∃ I5 : IT, (∃ k6, I5 k6 [(iV 0)] M4) ∧
∀ (k7 : Nat) (_ : Nat → Value) (n9 : Int) (gy : Mem), (I5 k7 [(iV n9)] gy) → aS (decide (n9 < 256))
 (∃ UU : IT, (∃ gx, UU gx [(.int .u32 (IntKind.wrap .u32 n9)), (iV 0)] gy) ∧
 ∀ (de : Nat) (_ : Nat → Value) (iA : Int) (kT : Int) (lG : Mem), (UU de [(.int .u32 iA), (iV kT)] lG) → aS (decide (kT < 8))
 (aS ((IntKind.wrap .u32 (((Nat.bitwise and (BitVec.ofInt IntKind.u32.bits iA).toNat (BitVec.ofInt IntKind.u32.bits 1).toNat) : Nat) : Int)) == 1)
 (∃ dJ : Nat, (dJ < de) ∧
 UU dJ [(.int .u32 (IntKind.wrap .u32 (((Nat.bitwise bne (BitVec.ofInt IntKind.u32.bits (iA.fdiv (2 ^ min (Int.toNat 1) IntKind.u32.bits))).toNat
 (BitVec.ofInt IntKind.u32.bits 3988292384).toNat) : Nat) : Int))), (iV (IntKind.wrap .i64 (kT + 1)))] lG)
 (∃ iw : Nat, (iw < de) ∧
 UU iw [(.int .u32 (Int.fdiv iA 2)), (iV (IntKind.wrap .i64 (kT + 1)))] lG))
 ((0 ≤ n9) ∧
 (n9 < 256) ∧
 sT lG k3 (0 + (Int.toNat n9)) (.int .u32 iA) fun mb =>
 ∃ fK : Nat, (fK < k7) ∧
 I5 fK [(iV (IntKind.wrap .i64 (n9 + 1)))] mb))
 (Ig (Mem.fN gy ⟨k3, 0, none⟩ 0 256) fun l22 =>
 Fz gy k1 0 l22 256 fun gB =>
 Ig (Mem.fN gB ⟨k1, 0, none⟩ 0 256) fun Yf =>
 K (.agg (Yf.toArray)) gB)) :
 aa Tryz.prog 168 #[] M K Kp := vw [(2000000, .loop [(4, .c (.int .i64))]), (2000002, .loop [(3, .c (.int .u32)), (9, .c (.int .i64))])] Tryz.func168 h
theorem xO {nA : Int} {r1 : ByteArray} (h :
aX M (cl [(.int .u32 nA)] 287) fun k1 M2 =>
aX M2 (cl [(.int .u32 0)] 287) fun k3 M4 =>
aa Tryz.prog 168 #[] M4 (fun v5 M6 =>
∃ l7 : List Value, ((l7.length) = 256) ∧
(v5 = (.agg (l7.toArray))) ∧
aX M6 (cl [(.int .u32 0), (.int .u32 0), (.int .u32 0), (.int .u32 0), (.int .u32 0), (.int .u32 0), (.int .u32 0), (.int .u32 0), (.int .u32 0), (.int .u32 0), (.int .u32 0), (.int .u32 0), (.int .u32 0), (.int .u32 0), (.int .u32 0), (.int .u32 0), (.int .u32 0), (.int .u32 0), (.int .u32 0), (.int .u32 0), (.int .u32 0), (.int .u32 0), (.int .u32 0), (.int .u32 0), (.int .u32 0), (.int .u32 0), (.int .u32 0), (.int .u32 0), (.int .u32 0), (.int .u32 0), (.int .u32 0), (.int .u32 0), (.int .u32 0), (.int .u32 0), (.int .u32 0), (.int .u32 0), (.int .u32 0), (.int .u32 0), (.int .u32 0), (.int .u32 0), (.int .u32 0), (.int .u32 0), (.int .u32 0), (.int .u32 0), (.int .u32 0), (.int .u32 0), (.int .u32 0), (.int .u32 0), (.int .u32 0), (.int .u32 0), (.int .u32 0), (.int .u32 0), (.int .u32 0), (.int .u32 0), (.int .u32 0), (.int .u32 0), (.int .u32 0), (.int .u32 0), (.int .u32 0), (.int .u32 0), (.int .u32 0), (.int .u32 0), (.int .u32 0), (.int .u32 0), (.int .u32 0), (.int .u32 0), (.int .u32 0), (.int .u32 0), (.int .u32 0), (.int .u32 0), (.int .u32 0), (.int .u32 0), (.int .u32 0), (.int .u32 0), (.int .u32 0), (.int .u32 0), (.int .u32 0), (.int .u32 0), (.int .u32 0), (.int .u32 0), (.int .u32 0), (.int .u32 0), (.int .u32 0), (.int .u32 0), (.int .u32 0), (.int .u32 0), (.int .u32 0), (.int .u32 0), (.int .u32 0), (.int .u32 0), (.int .u32 0), (.int .u32 0), (.int .u32 0), (.int .u32 0), (.int .u32 0), (.int .u32 0), (.int .u32 0), (.int .u32 0), (.int .u32 0), (.int .u32 0), (.int .u32 0), (.int .u32 0), (.int .u32 0), (.int .u32 0), (.int .u32 0), (.int .u32 0), (.int .u32 0), (.int .u32 0), (.int .u32 0), (.int .u32 0), (.int .u32 0), (.int .u32 0), (.int .u32 0), (.int .u32 0), (.int .u32 0), (.int .u32 0), (.int .u32 0), (.int .u32 0), (.int .u32 0), (.int .u32 0), (.int .u32 0), (.int .u32 0), (.int .u32 0), (.int .u32 0), (.int .u32 0), (.int .u32 0), (.int .u32 0), (.int .u32 0), (.int .u32 0), (.int .u32 0), (.int .u32 0), (.int .u32 0), (.int .u32 0), (.int .u32 0), (.int .u32 0), (.int .u32 0), (.int .u32 0), (.int .u32 0), (.int .u32 0), (.int .u32 0), (.int .u32 0), (.int .u32 0), (.int .u32 0), (.int .u32 0), (.int .u32 0), (.int .u32 0), (.int .u32 0), (.int .u32 0), (.int .u32 0), (.int .u32 0), (.int .u32 0), (.int .u32 0), (.int .u32 0), (.int .u32 0), (.int .u32 0), (.int .u32 0), (.int .u32 0), (.int .u32 0), (.int .u32 0), (.int .u32 0), (.int .u32 0), (.int .u32 0), (.int .u32 0), (.int .u32 0), (.int .u32 0), (.int .u32 0), (.int .u32 0), (.int .u32 0), (.int .u32 0), (.int .u32 0), (.int .u32 0), (.int .u32 0), (.int .u32 0), (.int .u32 0), (.int .u32 0), (.int .u32 0), (.int .u32 0), (.int .u32 0), (.int .u32 0), (.int .u32 0), (.int .u32 0), (.int .u32 0), (.int .u32 0), (.int .u32 0), (.int .u32 0), (.int .u32 0), (.int .u32 0), (.int .u32 0), (.int .u32 0), (.int .u32 0), (.int .u32 0), (.int .u32 0), (.int .u32 0), (.int .u32 0), (.int .u32 0), (.int .u32 0), (.int .u32 0), (.int .u32 0), (.int .u32 0), (.int .u32 0), (.int .u32 0), (.int .u32 0), (.int .u32 0), (.int .u32 0), (.int .u32 0), (.int .u32 0), (.int .u32 0), (.int .u32 0), (.int .u32 0), (.int .u32 0), (.int .u32 0), (.int .u32 0), (.int .u32 0), (.int .u32 0), (.int .u32 0), (.int .u32 0), (.int .u32 0), (.int .u32 0), (.int .u32 0), (.int .u32 0), (.int .u32 0), (.int .u32 0), (.int .u32 0), (.int .u32 0), (.int .u32 0), (.int .u32 0), (.int .u32 0), (.int .u32 0), (.int .u32 0), (.int .u32 0), (.int .u32 0), (.int .u32 0), (.int .u32 0), (.int .u32 0), (.int .u32 0), (.int .u32 0), (.int .u32 0), (.int .u32 0), (.int .u32 0), (.int .u32 0), (.int .u32 0), (.int .u32 0), (.int .u32 0), (.int .u32 0), (.int .u32 0), (.int .u32 0), (.int .u32 0), (.int .u32 0), (.int .u32 0), (.int .u32 0), (.int .u32 0), (.int .u32 0), (.int .u32 0), (.int .u32 0), (.int .u32 0), (.int .u32 0)] 325) fun k8 M9 =>
Fz M9 k8 0 l7 256 fun gy =>
aK (Mem.ld gy ⟨k1, 0, none⟩) .u32 fun eD =>
be Tryz.prog (Go.convert 9 212 (.string r1)) gy (fun zK jy =>
az (some zK) fun pn hU eN =>
∃ Wr : IT, (∃ dJ, Wr dJ [(.int .u32 (IntKind.wrap .u32 (((Nat.bitwise bne (BitVec.ofInt IntKind.u32.bits (if IntKind.u32.signed = true then -1 else IntKind.u32.max)).toNat
 (BitVec.ofInt IntKind.u32.bits eD).toNat) : Nat) : Int))), (iV 0)] jy) ∧
∀ (iw : Nat) (_ : Nat → Value) (kD : Int) (oE : Int) (gB : Mem), (Wr iw [(.int .u32 kD), (iV oE)] gB) → aS (decide (oE < hU))
 ((0 ≤ oE) ∧
 (oE < hU) ∧
 aE pn fun lq nZ =>
 aK (Mem.ld gB ⟨lq, (nZ + (Int.toNat oE)), none⟩) .u8 fun nC =>
 ((0 : Int) ≤ (IntKind.wrap .u8 (((Nat.bitwise bne (BitVec.ofInt IntKind.u8.bits (IntKind.u8.wrap kD)).toNat (BitVec.ofInt IntKind.u8.bits nC).toNat) : Nat) : Int))) ∧
 (((IntKind.wrap .u8 (((Nat.bitwise bne (BitVec.ofInt IntKind.u8.bits (IntKind.u8.wrap kD)).toNat (BitVec.ofInt IntKind.u8.bits nC).toNat) : Nat) : Int)) : Int) < 256) ∧
 aK (Mem.ld gB ⟨k8, (0 + (Int.toNat (IntKind.wrap .u8 (((Nat.bitwise bne (BitVec.ofInt IntKind.u8.bits (IntKind.u8.wrap kD)).toNat (BitVec.ofInt IntKind.u8.bits nC).toNat) : Nat) : Int)))), none⟩) .u32 fun w7 =>
 ∃ kF : Nat, (kF < iw) ∧
 Wr kF [(.int .u32 (IntKind.wrap .u32 (((Nat.bitwise bne (BitVec.ofInt IntKind.u32.bits (kD.fdiv (2 ^ min (Int.toNat 8) IntKind.u32.bits))).toNat
 (BitVec.ofInt IntKind.u32.bits w7).toNat) : Nat) : Int))), (iV (IntKind.wrap .i64 (oE + 1)))] gB)
 (sT gB k3 0 (.int .u32 (IntKind.wrap .u32 (((Nat.bitwise bne (BitVec.ofInt IntKind.u32.bits (if IntKind.u32.signed = true then -1 else IntKind.u32.max)).toNat
 (BitVec.ofInt IntKind.u32.bits kD).toNat) : Nat) : Int))) fun mE =>
 aK (Mem.ld mE ⟨k3, 0, none⟩) .u32 fun Dl =>
 K (.agg #[(.int .u32 Dl)]) mE)) Kp) Kp) :
 aa Tryz.prog 142 #[.agg #[.int .u32 nA], .string r1] M K Kp := vw [(2000000, .loop [(6, .c (.int .u32)), (16, .c (.int .i64))])] Tryz.func142 h
theorem xP {nA : Int} (h :
aX M (cl [(.int .u32 nA)] 287) fun k1 M2 =>
aK (Mem.ld M2 ⟨k1, 0, none⟩) .u32 fun n3 =>
K (.int .u32 n3) M2) :
 aa Tryz.prog 143 #[.agg #[.int .u32 nA]] M K Kp := vw [] Tryz.func143 h
theorem pS  (h :
aa Tryz.prog 46 #[(.slice none 0 0)] M (fun v1 M2 =>
aK (some v1) .u32 fun n3 =>
aS (n3 == 0)
 (aX M2 UI fun k4 M5 =>
 aa Tryz.prog 46 #[(.slice (some ⟨k4, 0, none⟩) 1 1)] M5 (fun v6 M7 =>
 aK (some v6) .u32 fun n8 =>
 K (.bool (n8 == 3523407757)) M7) Kp)
 (K (.bool false) M2)) Kp) :
 aa Tryz.prog 38 #[] M K Kp := vw [] Tryz.func38 h
end Go.Proofs
namespace Go.Proofs
open Go.AF
set_option maxRecDepth 100000
theorem mA {jZ : Option Addr} {j0 j5 : Nat} {jb : Option Addr} {jc jd : Nat} {fR : Int} {j6 : Option Addr} {j7 j8 : Nat} {cT : Int} {cU : Int} {cV : Int} {eR : Int} {B2 : Option Addr} {m2 c2 : Nat} {M : Mem} {K : Value → Mem → Prop} {Kp : List PanicEntry → Mem → Prop} (h :
aX M (cl [(.slice jZ j0 j5), (.slice jb jc jd), (iV fR), (.slice j6 j7 j8)] 59) fun k1 M2 =>
aX M2 (cl [(iV cT), (iV cU), (iV cV), (iV eR)] 23) fun k3 M4 =>
aa Tryz.prog 38 #[] M4 (fun v5 M6 =>
dH (some v5) fun t7 =>
aS (!t7)
 (K (.bool false) M6)
 (((0 : Int) ≤ c2) ∧
 ((c2 : Int) ≤ c2) ∧
 ((0 : Int) ≤ (if (40 : Int) < (m2 : Int) then 40 else (m2 : Int))) ∧
 (((if (40 : Int) < (m2 : Int) then 40 else (m2 : Int)) : Int) ≤ (c2 : Int)) ∧
 ((0 : Int) ≤ 0) ∧
 ((0 : Int) ≤ (if (40 : Int) < (m2 : Int) then 40 else (m2 : Int))) ∧
 bM M6 k3 0 fun n8 n9 jA eD =>
 pb M6 k1 0 fun nx de eH pg eN ei jY yH g7 fK =>
 (True) ∧
 aa Tryz.prog 14 #[(.agg #[(iV n8), (iV n9), (iV jA), (iV eD)])] M6 (fun zd gB =>
 ∃ zl m7 nC w7 : Int, (zd = (.agg #[(iV zl), (iV m7), (iV nC), (iV w7)])) ∧
 ((Mem.fN gB ⟨k1, 0, none⟩ 0 4) = some [(.slice nx de eH), (.slice pg eN ei), (iV jY), (.slice yH g7 fK)]) ∧
 (True) ∧
 aa Tryz.prog 32 #[(.agg #[(.slice nx de eH), (.slice pg eN ei), (iV jY), (.slice yH g7 fK)]), (.agg #[(iV zl), (iV m7), (iV nC), (iV w7)]), (.slice (kP B2 0 (Int.toNat (c2 : Int)) 1) ((Int.toNat (if (40 : Int) < (m2 : Int) then 40 else (m2 : Int))) - 0) ((Int.toNat (c2 : Int)) - 0))] gB (fun Pn mE =>
 ∃ zO : Option Addr, ∃ l31 : List Value, ((l31.length) = 27) ∧
 ∃ A32 : Option Addr, (Pn = (.tuple #[(.pointer zO), (.agg (l31.toArray)), (.pointer A32)])) ∧
 ((Mem.fN mE ⟨k1, 0, none⟩ 0 4) = some [(.slice nx de eH), (.slice pg eN ei), (iV jY), (.slice yH g7 fK)]) ∧
 aX mE bT fun pB pE =>
 Fz pE pB 0 l31 27 fun pM =>
 ((Mem.fN pM ⟨k1, 0, none⟩ 0 4) = some [(.slice nx de eH), (.slice pg eN ei), (iV jY), (.slice yH g7 fK)]) ∧
 bM pM k3 0 fun w9 Mu Ga IP =>
 pb pM k1 0 fun V4 En Em U3 zh Cg H6 SK Dm Fs =>
 (True) ∧
 aa Tryz.prog 14 #[(.agg #[(iV w9), (iV Mu), (iV Ga), (iV IP)])] pM (fun v50 V7 =>
 ∃ UX MF UZ ZF : Int, (v50 = (.agg #[(iV UX), (iV MF), (iV UZ), (iV ZF)])) ∧
 ((Mem.fN V7 ⟨k1, 0, none⟩ 0 4) = some [(.slice V4 En Em), (.slice U3 zh Cg), (iV H6), (.slice SK Dm Fs)]) ∧
 (True) ∧
 aa Tryz.prog 32 #[(.agg #[(.slice V4 En Em), (.slice U3 zh Cg), (iV H6), (.slice SK Dm Fs)]), (.agg #[(iV UX), (iV MF), (iV UZ), (iV ZF)]), (.slice (kP B2 0 (Int.toNat (c2 : Int)) 1) ((Int.toNat (if (40 : Int) < (m2 : Int) then 40 else (m2 : Int))) - 0) ((Int.toNat (c2 : Int)) - 0))] V7 (fun v56 HX =>
 ∃ MT : Option Addr, ∃ l59 : List Value, ((l59.length) = 27) ∧
 ∃ A60 : Option Addr, (v56 = (.tuple #[(.pointer MT), (.agg (l59.toArray)), (.pointer A60)])) ∧
 ((Mem.fN HX ⟨k1, 0, none⟩ 0 4) = some [(.slice V4 En Em), (.slice U3 zh Cg), (iV H6), (.slice SK Dm Fs)]) ∧
 aX HX bT fun RK vp =>
 Fz vp RK 0 l59 27 fun w5 =>
 ((Mem.fN w5 ⟨k1, 0, none⟩ 0 4) = some [(.slice V4 En Em), (.slice U3 zh Cg), (iV H6), (.slice SK Dm Fs)]) ∧
 rS w5 pB (4 + 1) fun ZC Jh Gt =>
 rI w5 pB (4 + 2) fun Gn =>
 ∃ I68 : IT, (∃ MN, I68 MN [(iV 0)] w5) ∧
 ∀ (zn : Nat) (_ : Nat → Value) (Pv : Int) (B8 : Mem), (I68 zn [(iV Pv)] B8) → aS (decide (Pv < 40))
 (aa Tryz.prog 17 #[(.pointer zO)] B8 (fun v74 xJ =>
 ∃ KV Di Fu : Int, ∃ RN : Option Addr, ∃ Ic RO : Nat, ∃ IQ : Int, (v74 = (.tuple #[(.agg #[(iV KV), (iV Di), (iV Fu), (.slice RN Ic RO)]), (iV IQ)])) ∧
 aX xJ nu fun zQ Gv =>
 kI Gv zQ (iV KV) (iV Di) (iV Fu) (.slice RN Ic RO) fun RT =>
 aS (IQ == 0)
 (aa Tryz.prog 22 #[(.pointer zO)] RT (fun v89 U5 =>
 aK (some v89) .i64 fun n91 =>
 aS (n91 == 0)
 (aa Tryz.prog 40 #[(.pointer zO), (iV (Jh : Int)), (iV Gn)] U5 (fun v92 Ct =>
 az (some v92) fun A94 k95 U1 =>
 aa Tryz.prog 40 #[(.pointer MT), (iV (Jh : Int)), (iV Gn)] Ct (fun v97 Dp =>
 az (some v97) fun A99 Ta Wo =>
 aa Tryz.prog 39 #[(.slice A94 k95 U1), (.slice A99 Ta Wo)] Dp (fun XB Ez =>
 aK (some XB) .i64 fun n104 =>
 aS (n104 == 0)
 (K (.bool false) Ez)
 (aa Tryz.prog 17 #[(.pointer MT)] Ez (fun v105 MK =>
 ∃ EM AN Qp : Int, ∃ Yd : Option Addr, ∃ Qj EF : Nat, ∃ IV : Int, (v105 = (.tuple #[(.agg #[(iV EM), (iV AN), (iV Qp), (.slice Yd Qj EF)]), (iV IV)])) ∧
 aa Tryz.prog 40 #[(.pointer zO), (iV (Jh : Int)), (iV Gn)] MK (fun v114 EG =>
 az (some v114) fun A116 Qd Ju =>
 aa Tryz.prog 40 #[(.pointer MT), (iV (Jh : Int)), (iV Gn)] EG (fun v119 Ye =>
 az (some v119) fun A121 XD EH =>
 aa Tryz.prog 39 #[(.slice A116 Qd Ju), (.slice A121 XD EH)] Ye (fun v124 M125 =>
 aK (some v124) .i64 fun Qe =>
 aS (Qe != 0)
 (K (.bool false) M125)
 (aa Tryz.prog 18 #[(.pointer zO)] M125 (fun v127 M128 =>
 cw (some v127) fun A129 =>
 aa Tryz.prog 41 #[(.pointer A129), (iV (-1)), (iV (-1))] M128 (fun v130 M131 =>
 az (some v130) fun A132 Gy k134 =>
 aa Tryz.prog 18 #[(.pointer zO)] M131 (fun v135 WB =>
 cw (some v135) fun A137 =>
 aa Tryz.prog 41 #[(.pointer A137), (iV (Jh : Int)), (iV Gn)] WB (fun v138 zq =>
 az (some v138) fun A140 XL k142 =>
 aS (decide ((Gy : Int) > XL))
 (K (.bool false) zq)
 (∃ Td : Nat, (Td < zn) ∧
 I68 Td [(iV (IntKind.wrap .i64 (Pv + 1)))] zq)) Kp) Kp) Kp) Kp)) Kp) Kp) Kp) Kp)) Kp) Kp) Kp)
 (aa Tryz.prog 17 #[(.pointer MT)] U5 (fun Yg Yh =>
 ∃ EJ Yi Yj : Int, ∃ Yk : Option Addr, ∃ Yl Ym : Nat, ∃ Jm : Int, (Yg = (.tuple #[(.agg #[(iV EJ), (iV Yi), (iV Yj), (.slice Yk Yl Ym)]), (iV Jm)])) ∧
 aa Tryz.prog 40 #[(.pointer zO), (iV (Jh : Int)), (iV Gn)] Yh (fun Yn Yo =>
 az (some Yn) fun Jo Jp Jq =>
 aa Tryz.prog 40 #[(.pointer MT), (iV (Jh : Int)), (iV Gn)] Yo (fun Yp MY =>
 az (some Yp) fun Yq Yr EK =>
 aa Tryz.prog 39 #[(.slice Jo Jp Jq), (.slice Yq Yr EK)] MY (fun Ys AU =>
 aK (some Ys) .i64 fun Yt =>
 aS (Yt != 0)
 (K (.bool false) AU)
 (aa Tryz.prog 18 #[(.pointer zO)] AU (fun Yu Cw =>
 cw (some Yu) fun Yv =>
 aa Tryz.prog 41 #[(.pointer Yv), (iV (-1)), (iV (-1))] Cw (fun Yw Yx =>
 az (some Yw) fun Qn GJ GD =>
 aa Tryz.prog 18 #[(.pointer zO)] Yx (fun Qq MZ =>
 cw (some Qq) fun Yy =>
 aa Tryz.prog 41 #[(.pointer Yy), (iV (Jh : Int)), (iV Gn)] MZ (fun Yz Jv =>
 az (some Yz) fun A179 YA k181 =>
 aS (decide ((GJ : Int) > YA))
 (K (.bool false) Jv)
 (∃ MW : Nat, (MW < zn) ∧
 I68 MW [(iV (IntKind.wrap .i64 (Pv + 1)))] Jv)) Kp) Kp) Kp) Kp)) Kp) Kp) Kp) Kp)) Kp)
 (aa Tryz.prog 17 #[(.pointer MT)] RT (fun v183 EN =>
 ∃ P6 n186 X4 : Int, ∃ A188 : Option Addr, ∃ k189 k190 : Nat, ∃ XT : Int, (v183 = (.tuple #[(.agg #[(iV P6), (iV n186), (iV X4), (.slice A188 k189 k190)]), (iV XT)])) ∧
 aa Tryz.prog 40 #[(.pointer zO), (iV (Jh : Int)), (iV Gn)] EN (fun v192 XU =>
 az (some v192) fun A194 k195 k196 =>
 aa Tryz.prog 40 #[(.pointer MT), (iV (Jh : Int)), (iV Gn)] XU (fun v197 M198 =>
 az (some v197) fun A199 XV k201 =>
 aa Tryz.prog 39 #[(.slice A194 k195 k196), (.slice A199 XV k201)] M198 (fun v202 M203 =>
 aK (some v202) .i64 fun XW =>
 aS (XW != 0)
 (K (.bool false) M203)
 (aa Tryz.prog 18 #[(.pointer zO)] M203 (fun v205 Th =>
 cw (some v205) fun A207 =>
 aa Tryz.prog 41 #[(.pointer A207), (iV (-1)), (iV (-1))] Th (fun v208 M209 =>
 az (some v208) fun A210 k211 k212 =>
 aa Tryz.prog 18 #[(.pointer zO)] M209 (fun v213 W1 =>
 cw (some v213) fun A215 =>
 aa Tryz.prog 41 #[(.pointer A215), (iV (Jh : Int)), (iV Gn)] W1 (fun v216 GF =>
 az (some v216) fun A218 k219 k220 =>
 aS (decide ((k211 : Int) > k219))
 (K (.bool false) GF)
 (∃ k221 : Nat, (k221 < zn) ∧
 I68 k221 [(iV (IntKind.wrap .i64 (Pv + 1)))] GF)) Kp) Kp) Kp) Kp)) Kp) Kp) Kp) Kp)) Kp)
 (K (.bool true) B8)) Kp) Kp) Kp) Kp)) Kp) :
 aa Tryz.prog 9 #[.agg #[.slice jZ j0 j5, .slice jb jc jd, .int .i64 fR, .slice j6 j7 j8], .agg #[.int .i64 cT, .int .i64 cU, .int .i64 cV, .int .i64 eR], .slice B2 m2 c2] M K Kp := vw [(4, .bS [0, 0, 2, 0, 15, 31, 63, 63, 63, 0, 639, 1791, 4095] (sy [3, 1] (.cY 0 (.late 2 (.late 4 (sy [5, 6, 7, 8, 9, 10, 11, 12] .done)))))), (5, .bS [0, 0, 2, 0, 15, 31, 63, 63, 63, 0, 639, 1791, 4095] (sy [3, 1] (.cY 0 (.late 2 (.late 4 (sy [5, 6, 7, 8, 9, 10, 11, 12] .done)))))), (6, .bS [0, 1, 3, 7, 15, 0, 32, 96, 224, 31, 1023] (sy [0, 1, 2, 5, 6, 7, 3, 4, 9, 8, 10] .done)), (2000000, .loop [(51, .c (.int .i64))])] Tryz.func9 h
theorem kf {B0 : Option Addr} {m0 c0 : Nat} {B1 : Option Addr} {m1 c1 : Nat} {M : Mem} {K : Value → Mem → Prop} {Kp : List PanicEntry → Mem → Prop} (h :
aS ((m0 : Int) != (m1 : Int))
 (K (iV (-1)) M)
 (∃ I1 : IT, (∃ k2, I1 k2 [(iV 0)] M) ∧
 ∀ (k3 : Nat) (_ : Nat → Value) (n5 : Int) (M6 : Mem), (I1 k3 [(iV n5)] M6) → aS (decide (n5 < m1))
 ((0 ≤ n5) ∧
 (n5 < m0) ∧
 aE B0 fun k7 k8 =>
 (0 ≤ n5) ∧
 (n5 < m1) ∧
 aE B1 fun k9 c6 =>
 rI M6 k7 (k8 + (Int.toNat n5)) fun eD =>
 rI M6 k9 (c6 + (Int.toNat n5)) fun ik =>
 aS (eD != ik)
 (K (iV (-1)) M6)
 (∃ de : Nat, (de < k3) ∧
 I1 de [(iV (IntKind.wrap .i64 (n5 + 1)))] M6))
 (K (iV 0) M6))) :
 aa Tryz.prog 39 #[.slice B0 m0 c0, .slice B1 m1 c1] M K Kp := vw [(2000000, .loop [(13, .c (.int .i64))]), (6, .bS [0, 0, 3, 7, 0, 0, 48, 112, 255] (sy [0, 1, 2, 4, 5, 6, 3, 7, 8] .done))] Tryz.func39 h
end Go.Proofs
