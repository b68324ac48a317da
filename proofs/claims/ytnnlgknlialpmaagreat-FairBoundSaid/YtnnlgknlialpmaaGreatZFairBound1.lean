/- A part of proofs about one program. -/
import Derived.Test.YtnnlgknlialpmaaGreatZFairBound0
set_option linter.unusedVariables false
namespace Go.Proofs
open Go.AF
set_option maxRecDepth 100000
variable {M : Mem} {K : Value → Mem → Prop} {Kp : List PanicEntry → Mem → Prop}
theorem rY {mR : Option Addr} {mS mT : Nat} {mU : Option Addr} {mV mW : Nat} {gU : Int} {mX : Option Addr} {mY mZ : Nat} (h :
bh M (cl [(.slice mR mS mT), (.slice mU mV mW), (iV gU), (.slice mX mY mZ)] 59) fun k1 M2 =>
bh M2 BT fun k3 M4 =>
rS M4 k1 1 fun A5 k6 k7 =>
rI M4 k1 2 fun n8 =>
bh M4 (cl [] 3) fun k9 iZ =>
(True) ∧
aA 36 (some ⟨k9, 0, none⟩) 0 0 A5 k6 k7 iZ (fun v11 sj =>
aB (some v11) fun DN jJ iC =>
eI sj k1 2 n8 ∧
bh sj BT fun fL oE =>
kC oE fL (.slice none 0 0) (.slice DN jJ iC) (iV n8) (.slice none 0 0) fun oB =>
eI oB k1 2 n8 ∧
rS oB k1 0 fun W9 jq sM =>
∃ Uh : IT, (∃ tP, Uh tP [(iV 0)] oB) ∧
∀ (Av : Nat) (_ : Nat → Value) (yb : Int) (ur : Mem), (Uh Av [(iV yb)] ur) → aO (decide (yb < jq))
 ((0 ≤ yb) ∧
 (yb < jq) ∧
 aF W9 fun nI uv =>
 rS ur nI (uv + (Int.toNat yb)) fun Gx oW Aw =>
 bh ur (cl [] 27) fun Ng GO =>
 ∃ Vx : IT, (∃ xB, Vx xB [(.slice (some ⟨Ng, 0, none⟩) 0 0), (iV 0)] GO) ∧
 ∀ (FQ : Nat) (_ : Nat → Value) (Qt : Option Addr) (yQ : Nat) (LB : Nat) (uC : Int) (FV : Mem), (Vx FQ [(.slice Qt yQ LB), (iV uC)] FV) → aO (decide (uC < oW))
 ((0 ≤ uC) ∧
 (uC < oW) ∧
 aF Gx fun TT W6 =>
 bG FV TT (W6 + ((Int.toNat uC) * 4)) fun Uk Nl GL Yg =>
 bh FV iu fun sP Qs =>
 kC Qs sP (iV Uk) (iV Nl) (iV GL) (iV Yg) fun IG =>
 bG IG sP 0 fun tO MW Kf Xa =>
 bh IG (cl [(iV tO), (iV MW), (iV Kf), (iV Xa)] 27) fun Kl IF =>
 aA 28 Qt yQ LB (some ⟨Kl, 0, none⟩) 1 1 IF (fun v65 W7 =>
 aB (some v65) fun A67 DR YA =>
 ∃ EH : Nat, (EH < FQ) ∧
 Vx EH [(.slice A67 DR YA), (iV (IntKind.wrap .i64 (uC + 1)))] W7) Kp)
 (rS FV fL 0 fun Ui Yr Kr =>
 bh FV (cl [(.slice Qt yQ LB)] 28) fun IJ AY =>
 aA 35 Ui Yr Kr (some ⟨IJ, 0, none⟩) 1 1 AY (fun Yv Ko =>
 aB (some Yv) fun A78 QG Nu =>
 sT Ko fL 0 (.slice A78 QG Nu) fun Yw =>
 ∃ Kn : Nat, (Kn < Av) ∧
 Uh Kn [(iV (IntKind.wrap .i64 (yb + 1)))] Yw) Kp))
 (rS ur k1 3 fun A83 k84 LI =>
 ∃ I86 : IT, (∃ k87, I86 k87 [(iV 0)] ur) ∧
 ∀ (LH : Nat) (_ : Nat → Value) (PO : Int) (lu : Mem), (I86 LH [(iV PO)] lu) → aO (decide (PO < k84))
 ((0 ≤ PO) ∧
 (PO < k84) ∧
 aF A83 fun Um Un =>
 l9 lu Um (Un + ((Int.toNat PO) * 3)) fun MZ GB FR =>
 bh lu vN fun k97 Bb =>
 Iu Bb k97 (iV MZ) (iV GB) (iV FR) fun ji =>
 rS ji fL 3 fun za m5 EP =>
 l9 ji k97 0 fun n105 n106 Vy =>
 bh ji (cl [(iV n105), (iV n106), (iV Vy)] 165) fun k108 uu =>
 aA 37 za m5 EP (some ⟨k108, 0, none⟩) 1 1 uu (fun v110 nQ =>
 aB (some v110) fun A112 GU Uq =>
 sT nQ fL 3 (.slice A112 GU Uq) fun GV =>
 ∃ KA : Nat, (KA < LH) ∧
 I86 KA [(iV (IntKind.wrap .i64 (PO + 1)))] GV) Kp)
 (rS lu fL 0 fun Vz VA GY =>
 rS lu fL 1 fun A120 k121 k122 =>
 rI lu fL 2 fun VB =>
 rS lu fL 3 fun A124 Ur k126 =>
 kC lu k3 (.slice Vz VA GY) (.slice A120 k121 k122) (iV VB) (.slice A124 Ur k126) fun rV =>
 yN rV k3 0 fun EK EL Ks VC Ba rX VD A138 YQ k140 =>
 K (.agg #[(.slice EK EL Ks), (.slice VC Ba rX), (iV VD), (.slice A138 YQ k140)]) rV))) Kp) :
 aa Tryz.prog 25 #[.agg #[.slice mR mS mT, .slice mU mV mW, .int .i64 gU, .slice mX mY mZ]] M K Kp := vw [(1, .bR [0, 0, 2, 7, 0, 16, 63, 0, 255] (sy [1, 4, 2] (.dw 5 (sy [0] (.late 3 (sy [6, 7, 8] .done)))))), (2000000, .loop [(21, .c (.int .i64))]), (2000002, .loop [(6, .c .sl), (28, .c (.int .i64))]), (2000004, .loop [(55, .c (.int .i64))])] Tryz.func25 h
theorem qc {mR : Option Addr} {mS mT : Nat} {mU : Option Addr} {mV mW : Nat} {gU : Int} {mX : Option Addr} {mY mZ : Nat} (h :
bh M (cl [(.slice mR mS mT), (.slice mU mV mW), (iV gU), (.slice mX mY mZ)] 59) fun k1 M2 =>
bh M2 BU fun k3 M4 =>
rI M4 k1 2 fun n5 =>
aa Tryz.prog 66 #[(iV n5), (iV 4)] M4 (fun v6 M7 =>
aJ (some v6) .i64 fun n8 =>
bh M7 BU fun k9 iZ =>
kC iZ k9 (.slice none 0 0) (.slice none 0 0) (iV n8) (.slice none 0 0) fun lK =>
∃ J15 : List Value → Mem → Prop, (∃ I16 : IT, (∃ fB, I16 fB [(iV 0)] lK) ∧
 ∀ (en : Nat) (_ : Nat → Value) (gk : Int) (oB : Mem), (I16 en [(iV gk)] oB) → rS oB k1 1 fun W9 jq sM =>
 aO (decide (gk < jq))
 (aO (decide (gk < 4))
 (∃ J25 : List Value → Mem → Prop, (rS oB k1 1 fun Ug Av pO =>
 (0 ≤ gk) ∧
 (gk < Av) ∧
 aF Ug fun iy mj =>
 rI oB iy (mj + (Int.toNat gk)) fun sk =>
 (rS oB k9 1 fun A32 tQ oW =>
 aa Tryz.prog 66 #[(iV sk), (iV 4)] oB (fun v35 Aq =>
 aJ (some v35) .i64 fun MQ =>
 bh Aq (cl [(iV MQ)] 3) fun iD SM =>
 aA 36 A32 tQ oW (some ⟨iD, 0, none⟩) 1 1 SM (fun Ki Az =>
 aB (some Ki) fun Qt yQ LB =>
 sT Az k9 1 (.slice Qt yQ LB) fun tS =>
 J25 [] tS) Kp) Kp) ∧
 (aa Tryz.prog 66 #[(iV sk), (iV 4)] oB (fun v46 w7 =>
 aJ (some v46) .i64 fun Kk =>
 rS w7 k9 1 fun Yt MX ID =>
 bh w7 (cl [(iV Kk)] 3) fun qG GN =>
 aA 36 Yt MX ID (some ⟨qG, 0, none⟩) 1 1 GN (fun NB vX =>
 aB (some NB) fun QX C5 DO =>
 sT vX k9 1 (.slice QX C5 DO) fun AB =>
 J25 [] AB) Kp) Kp) ∧
 True) ∧
 ∀ junk60 : Nat → Value, ∀ Au : Mem, (J25 [] Au) → ∃ Ns : Nat, (Ns < en) ∧
 I16 Ns [(iV (IntKind.wrap .i64 (gk + 1)))] Au)
 (J15 [] oB))
 (J15 [] oB)) ∧
∀ junk63 : Nat → Value, ∀ IF : Mem, (J15 [] IF) → ∃ J65 : List Value → Mem → Prop, (∃ I66 : IT, (∃ vp, I66 vp [(iV 0)] IF) ∧
 ∀ (DR : Nat) (_ : Nat → Value) (VE : Int) (PJ : Mem), (I66 DR [(iV VE)] PJ) → rS PJ k1 3 fun SO Kr IJ =>
 aO (decide (VE < Kr))
 (aO (decide (VE < 8))
 (rS PJ k1 3 fun A75 YR k77 =>
 (0 ≤ VE) ∧
 (VE < YR) ∧
 aF A75 fun Ua QG =>
 l9 PJ Ua (QG + ((Int.toNat VE) * 3)) fun W5 QY Gz =>
 bh PJ vN fun y7 Nw =>
 Iu Nw y7 (iV W5) (iV QY) (iV Gz) fun IM =>
 rII IM y7 0 fun n88 VF =>
 rS IM k9 1 fun Xc Ul Um =>
 rI IM y7 2 fun QZ =>
 (True) ∧
 aa Tryz.prog 66 #[(iV n88), (iV 3)] IM (fun v94 PM =>
 aJ (some v94) .i64 fun FR =>
 eI PM y7 2 QZ ∧
 eS PM k9 1 Xc Ul Um ∧
 eI PM y7 1 VF ∧
 (True) ∧
 aa Tryz.prog 66 #[(iV VF), (iV (Ul : Int))] PM (fun v97 Bb =>
 aJ (some v97) .i64 fun IK =>
 eI Bb y7 2 QZ ∧
 eS Bb k9 1 Xc Ul Um ∧
 eI Bb y7 1 VF ∧
 (True) ∧
 aa Tryz.prog 66 #[(iV QZ), (iV 8)] Bb (fun VG ji =>
 aJ (some VG) .i64 fun Nb =>
 eI ji y7 2 QZ ∧
 eS ji k9 1 Xc Ul Um ∧
 eI ji y7 1 VF ∧
 bh ji vN fun m5 Uo =>
 Iu Uo m5 (iV FR) (iV IK) (iV Nb) fun C9 =>
 eI C9 y7 2 QZ ∧
 eS C9 k9 1 Xc Ul Um ∧
 eI C9 y7 1 VF ∧
 rS C9 k9 1 fun A108 GS Kv =>
 ∃ VH : List Value → Mem → Prop, (aO ((GS : Int) == 0)
 (sT C9 m5 0 (iV 2) fun M112 =>
 sT M112 m5 1 (iV 0) fun M113 =>
 sT M113 m5 2 (iV 0) fun AZ =>
 VH [] AZ)
 (VH [] C9)) ∧
 ∀ junk115 : Nat → Value, ∀ xG : Mem, (VH [] xG) → rS xG k9 3 fun Vz VA GY =>
 l9 xG m5 0 fun y8 y9 Nx =>
 bh xG (cl [(iV y8), (iV y9), (iV Nx)] 163) fun GW vZ =>
 aA 57 Vz VA GY (some ⟨GW, 0, none⟩) 1 1 vZ (fun v125 M126 =>
 aB (some v125) fun A127 k128 N5 =>
 sT M126 k9 3 (.slice A127 k128 N5) fun rV =>
 ∃ YS : Nat, (YS < DR) ∧
 I66 YS [(iV (IntKind.wrap .i64 (VE + 1)))] rV) Kp) Kp) Kp) Kp)
 (J65 [] PJ))
 (J65 [] PJ)) ∧
∀ junk132 : Nat → Value, ∀ N8 : Mem, (J65 [] N8) → rS N8 k1 0 fun VC Ba rX =>
rS N8 k1 0 fun A137 Be YQ =>
((0 : Int) ≤ rX) ∧
((rX : Int) ≤ rX) ∧
((0 : Int) ≤ (if (5 : Int) < (Be : Int) then 5 else (Be : Int))) ∧
(((if (5 : Int) < (Be : Int) then 5 else (Be : Int)) : Int) ≤ (rX : Int)) ∧
((0 : Int) ≤ 0) ∧
((0 : Int) ≤ (if (5 : Int) < (Be : Int) then 5 else (Be : Int))) ∧
∃ VI : List Value → Mem → Prop, (aO (((((Int.toNat (if (5 : Int) < (Be : Int) then 5 else (Be : Int))) - 0) : Nat) : Int) == 0)
 (bh N8 iu fun k141 NJ =>
 bh NJ (cl [(.slice (some ⟨k141, 0, none⟩) 1 1)] 61) fun k143 M144 =>
 VI [(.slice (some ⟨k143, 0, none⟩) 1 1)] M144)
 (VI [(.slice (lF VC 0 (Int.toNat (rX : Int)) 1) ((Int.toNat (if (5 : Int) < (Be : Int) then 5 else (Be : Int))) - 0) ((Int.toNat (rX : Int)) - 0))] N8)) ∧
∀ junk145 : Nat → Value, ∀ YT : Option Addr, ∀ N9 : Nat, ∀ NN : Nat, ∀ EM : Mem, (VI [(.slice YT N9 NN)] EM) → aY Tryz.prog (Go.Instr.makeSlice 56 (iV (N9 : Int)) (iV (N9 : Int))) EM (fun v150 zc =>
aB (some v150) fun NO NP NA =>
sT zc k9 0 (.slice NO NP NA) fun M155 =>
∃ VJ : IT, (∃ UE, VJ UE [(iV 0)] M155) ∧
∀ (YU : Nat) (_ : Nat → Value) (zf : Int) (vY : Mem), (VJ YU [(iV zf)] vY) → aO (decide (zf < N9))
 ((0 ≤ zf) ∧
 (zf < N9) ∧
 aF YT fun NQ NR =>
 rS vY NQ (NR + (Int.toNat zf)) fun A164 Bf KC =>
 ((0 : Int) ≤ KC) ∧
 ((KC : Int) ≤ KC) ∧
 ((0 : Int) ≤ (if (20 : Int) < (Bf : Int) then 20 else (Bf : Int))) ∧
 (((if (20 : Int) < (Bf : Int) then 20 else (Bf : Int)) : Int) ≤ (KC : Int)) ∧
 ((0 : Int) ≤ 0) ∧
 ((0 : Int) ≤ (if (20 : Int) < (Bf : Int) then 20 else (Bf : Int))) ∧
 ∃ VK : List Value → Mem → Prop, (aO (((((Int.toNat (if (20 : Int) < (Bf : Int) then 20 else (Bf : Int))) - 0) : Nat) : Int) == 0)
 (bh vY iu fun k168 M169 =>
 VK [(.slice (some ⟨k168, 0, none⟩) 1 1)] M169)
 (VK [(.slice (lF A164 0 (Int.toNat (KC : Int)) 4) ((Int.toNat (if (20 : Int) < (Bf : Int) then 20 else (Bf : Int))) - 0) ((Int.toNat (KC : Int)) - 0))] vY)) ∧
 ∀ junk170 : Nat → Value, ∀ VL : Option Addr, ∀ Q1 : Nat, ∀ Ky : Nat, ∀ YV : Mem, (VK [(.slice VL Q1 Ky)] YV) → bh YV (cl [] 63) fun k175 M176 =>
 ∃ VM : IT, (∃ k178, VM k178 [(.slice (some ⟨k175, 0, none⟩) 0 0), (iV 0)] M176) ∧
 ∀ (YW : Nat) (_ : Nat → Value) (VN : Option Addr) (VO : Nat) (VP : Nat) (KD : Int) (Oa : Mem), (VM YW [(.slice VN VO VP), (iV KD)] Oa) → aO (decide (KD < Q1))
 ((0 ≤ KD) ∧
 (KD < Q1) ∧
 aF VL fun k186 k187 =>
 bG Oa k186 (k187 + ((Int.toNat KD) * 4)) fun GX VQ VR n191 =>
 bh Oa iu fun UN M193 =>
 kC M193 UN (iV GX) (iV VQ) (iV VR) (iV n191) fun NY =>
 yN NY k9 0 fun A198 k199 k200 A201 k202 k203 n204 UO UP YI =>
 bG NY UN 0 fun VS VT VU VV =>
 aa Tryz.prog 67 #[(.agg #[(.slice A198 k199 k200), (.slice A201 k202 k203), (iV n204), (.slice UO UP YI)]), (.slice VL Q1 Ky), (.agg #[(iV VS), (iV VT), (iV VU), (iV VV)])] NY (fun v212 US =>
 ∃ Q2 Q3 Q4 YX : Int, (v212 = (.agg #[(iV Q2), (iV Q3), (iV Q4), (iV YX)])) ∧
 bh US (cl [(iV Q2), (iV Q3), (iV Q4), (iV YX)] 63) fun k218 M219 =>
 aA 61 VN VO VP (some ⟨k218, 0, none⟩) 1 1 M219 (fun v220 M221 =>
 aB (some v220) fun A222 UT k224 =>
 ∃ YY : Nat, (YY < YW) ∧
 VM YY [(.slice A222 UT k224), (iV (IntKind.wrap .i64 (KD + 1)))] M221) Kp) Kp)
 (rS Oa k9 0 fun UW UX k228 =>
 (0 ≤ zf) ∧
 (zf < UX) ∧
 aF UW fun k229 UY =>
 sT Oa k229 (UY + (Int.toNat zf)) (.slice VN VO VP) fun M231 =>
 ∃ YZ : Nat, (YZ < YU) ∧
 VJ YZ [(iV (IntKind.wrap .i64 (zf + 1)))] M231))
 (rS vY k9 0 fun A233 UZ k235 =>
 rS vY k9 1 fun A236 U0 k238 =>
 rI vY k9 2 fun n239 =>
 rS vY k9 3 fun A240 k241 k242 =>
 kC vY k3 (.slice A233 UZ k235) (.slice A236 U0 k238) (iV n239) (.slice A240 k241 k242) fun Y0 =>
 yN Y0 k3 0 fun A247 U6 k249 A250 k251 k252 n253 A254 k255 U8 =>
 K (.agg #[(.slice A247 U6 k249), (.slice A250 k251 k252), (iV n253), (.slice A254 k255 U8)]) Y0)) Kp) Kp) :
 aa Tryz.prog 24 #[.agg #[.slice mR mS mT, .slice mU mV mW, .int .i64 gU, .slice mX mY mZ]] M K Kp := vw [(1000000, .cut []), (2000000, .loop [(4, .c (.int .i64))]), (5, .JS [0, 1, 0, 4, 0, 28, 60, 124, 252, 511, 1023, 2047] (sy [0, 2, 4, 3, 5, 6] (.fork 1 (sy [7, 8, 9, 10, 11] .done) (.fork 7 (sy [1, 8, 9, 10, 11] .done) .dead))) []), (1000002, .cut []), (2000002, .loop [(5, .c (.int .i64))]), (10, .bR [0, 1, 3, 0, 8, 0, 32, 96, 255, 0, 512, 2047, 4095, 0, 16383] (sy [0, 3, 5, 9, 1] (.dw 4 (.dw 6 (sy [7] (.dw 10 (.late 2 (.late 8 (.late 11 (sy [12, 13, 14] .done)))))))))), (3000072, .cut []), (3000089, .cut [(8, .c .sl)]), (2000004, .loop [(99, .c (.int .i64))]), (3000111, .cut [(10, .c .sl)]), (2000006, .loop [(11, .c .sl), (117, .c (.int .i64))])] Tryz.func24 h
theorem rZ {x0 : Int} {x1 : Int} (h :
aO (decide ((x1 : Int) < 1))
 (K (iV 0) M)
 (((x1 : Int) ≠ 0) ∧
 ((x1 : Int) ≠ 0) ∧
 K (iV (Int.tmod (IntKind.wrap .i64 ((Int.tmod x0 x1) + x1)) x1)) M)) :
 aa Tryz.prog 66 #[.int .i64 x0, .int .i64 x1] M K Kp := vw [] Tryz.func66 h
theorem r7 {mR : Option Addr} {mS mT : Nat} {mU : Option Addr} {mV mW : Nat} {gU : Int} {mX : Option Addr} {mY mZ : Nat} {B1 : Option Addr} {m1 c1 : Nat} {Nm : Int} {Nn : Int} {No : Int} {Np : Int} (h :
bh M (cl [(.slice mR mS mT), (.slice mU mV mW), (iV gU), (.slice mX mY mZ)] 59) fun k1 M2 =>
bh M2 (cl [(iV Nm), (iV Nn), (iV No), (iV Np)] 63) fun k3 M4 =>
bh M4 iu fun k5 M6 =>
rI M6 k3 0 fun n7 =>
aa Tryz.prog 66 #[(iV n7), (iV 23)] M6 (fun v8 M9 =>
aJ (some v8) .i64 fun jc =>
sT M9 k3 0 (iV jc) fun jL =>
rI jL k3 1 fun jM =>
rI jL k3 2 fun iM =>
rI jL k3 3 fun mb =>
aa Tryz.prog 66 #[(iV jM), (iV 8)] jL (fun C1 fz =>
aJ (some C1) .i64 fun iW =>
eI fz k3 3 mb ∧
eI fz k3 2 iM ∧
aa Tryz.prog 66 #[(iV iM), (iV 8)] fz (fun Ez jD =>
aJ (some Ez) .i64 fun gk =>
eI jD k3 3 mb ∧
eI jD k3 2 iM ∧
aa Tryz.prog 66 #[(iV mb), (iV 8)] jD (fun Yo dP =>
aJ (some Yo) .i64 fun oY =>
eI dP k3 3 mb ∧
eI dP k3 2 iM ∧
rSS dP k1 0 fun PF sN tP SJ pO iy =>
rS dP k1 3 fun SH nI uv =>
rI dP k3 0 fun sO =>
aO (sO == 1)
 (rI dP k3 2 fun T3 =>
 kC dP k5 (iV 1) (iV iW) (iV T3) (iV 0) fun mh =>
 bG mh k5 0 fun Kb DQ PK y3 =>
 K (.agg #[(iV Kb), (iV DQ), (iV PK), (iV y3)]) mh)
 (aO (sO == 2)
 (sT dP k5 0 (iV 2) fun tR =>
 sT tR k5 1 (iV iW) fun AW =>
 sT AW k5 2 (iV gk) fun tS =>
 sT tS k5 3 (iV 0) fun FV =>
 bG FV k5 0 fun sq Kk Uk Nl =>
 K (.agg #[(iV sq), (iV Kk), (iV Uk), (iV Nl)]) FV)
 (aO (sO == 3)
 (rI dP k3 0 fun GL =>
 kC dP k5 (iV GL) (iV iW) (iV gk) (iV oY) fun vX =>
 bG vX k5 0 fun IL IE FP tO =>
 K (.agg #[(iV IL), (iV IE), (iV FP), (iV tO)]) vX)
 (aO (sO == 4)
 (rI dP k3 0 fun MW =>
 kC dP k5 (iV MW) (iV iW) (iV gk) (iV oY) fun IF =>
 bG IF k5 0 fun AP X5 Yh IB =>
 K (.agg #[(iV AP), (iV X5), (iV Yh), (iV IB)]) IF)
 (aO (sO == 5)
 (rI dP k3 0 fun Yu =>
 kC dP k5 (iV Yu) (iV iW) (iV gk) (iV oY) fun AD =>
 bG AD k5 0 fun QI EA MY EB =>
 K (.agg #[(iV QI), (iV EA), (iV MY), (iV EB)]) AD)
 (aO (sO == 6)
 (rI dP k3 0 fun EN =>
 kC dP k5 (iV EN) (iV iW) (iV gk) (iV oY) fun M82 =>
 bG M82 k5 0 fun SC LC SN n86 =>
 K (.agg #[(iV SC), (iV LC), (iV SN), (iV n86)]) M82)
 (aO (sO == 7)
 (rI dP k3 1 fun YL =>
 aa Tryz.prog 66 #[(iV YL), (iV (m1 : Int))] dP (fun v88 EI =>
 aJ (some v88) .i64 fun PO =>
 kC EI k5 (iV 7) (iV PO) (iV 0) (iV 0) fun M94 =>
 bG M94 k5 0 fun GB FR n97 SD =>
 K (.agg #[(iV GB), (iV FR), (iV n97), (iV SD)]) M94) Kp)
 (aO (sO == 8)
 (rI dP k3 2 fun IK =>
 aa Tryz.prog 66 #[(iV IK), (iV (m1 : Int))] dP (fun VG ji =>
 aJ (some VG) .i64 fun Nb =>
 kC ji k5 (iV 8) (iV iW) (iV Nb) (iV 0) fun QJ =>
 bG QJ k5 0 fun Vy Da n109 Nc =>
 K (.agg #[(iV Vy), (iV Da), (iV n109), (iV Nc)]) QJ) Kp)
 (aO (sO == 9)
 (rI dP k3 1 fun Up =>
 rI dP k3 0 fun yR =>
 aa Tryz.prog 66 #[(iV Up), (iV (sN : Int))] dP (fun v113 AZ =>
 aJ (some v113) .i64 fun n115 =>
 eI AZ k3 0 yR ∧
 kC AZ k5 (iV yR) (iV n115) (iV gk) (iV oY) fun Db =>
 eI Db k3 0 yR ∧
 bG Db k5 0 fun y8 y9 Nx VB =>
 K (.agg #[(iV y8), (iV y9), (iV Nx), (iV VB)]) Db) Kp)
 (aO (sO == 11)
 (rI dP k3 1 fun n124 =>
 rI dP k3 0 fun GZ =>
 aa Tryz.prog 66 #[(iV n124), (iV (sN : Int))] dP (fun Us QK =>
 aJ (some Us) .i64 fun xH =>
 eI QK k3 0 GZ ∧
 kC QK k5 (iV GZ) (iV xH) (iV gk) (iV oY) fun VW =>
 eI VW k3 0 GZ ∧
 bG VW k5 0 fun n133 n134 n135 n136 =>
 K (.agg #[(iV n133), (iV n134), (iV n135), (iV n136)]) VW) Kp)
 (aO (sO == 10)
 (rI dP k3 0 fun VD =>
 kC dP k5 (iV VD) (iV iW) (iV 0) (iV 0) fun Kw =>
 bG Kw k5 0 fun Ut n143 NK NL =>
 K (.agg #[(iV Ut), (iV n143), (iV NK), (iV NL)]) Kw)
 (aO (sO == 17)
 (rI dP k3 0 fun NM =>
 kC dP k5 (iV NM) (iV iW) (iV 0) (iV 0) fun Y1 =>
 bG Y1 k5 0 fun Uu Uv n153 n154 =>
 K (.agg #[(iV Uu), (iV Uv), (iV n153), (iV n154)]) Y1)
 (aO (sO == 20)
 (rI dP k3 0 fun n155 =>
 kC dP k5 (iV n155) (iV iW) (iV 0) (iV 0) fun Y3 =>
 bG Y3 k5 0 fun zf n161 n162 n163 =>
 K (.agg #[(iV zf), (iV n161), (iV n162), (iV n163)]) Y3)
 (aO (sO == 13)
 (aO ((pO : Int) == 0)
 (sT dP k5 0 (iV 0) fun NS =>
 sT NS k5 1 (iV 0) fun NT =>
 sT NT k5 2 (iV 0) fun NU =>
 sT NU k5 3 (iV 0) fun Kx =>
 bG Kx k5 0 fun n168 NV NW NX =>
 K (.agg #[(iV n168), (iV NV), (iV NW), (iV NX)]) Kx)
 (rI dP k3 1 fun n172 =>
 rI dP k3 0 fun VX =>
 (True) ∧
 aa Tryz.prog 66 #[(iV n172), (iV (pO : Int))] dP (fun v174 Y4 =>
 aJ (some v174) .i64 fun n176 =>
 eI Y4 k3 0 VX ∧
 bh Y4 iu fun uJ M178 =>
 kC M178 uJ (iV VX) (iV n176) (iV 0) (iV 0) fun Bg =>
 eI Bg k3 0 VX ∧
 rI Bg k3 0 fun n183 =>
 aO (decide (n183 < 15))
 (sT Bg uJ 2 (iV gk) fun G0 =>
 rI G0 k3 0 fun UM =>
 aO (UM == 14)
 (sT G0 uJ 3 (iV oY) fun Y5 =>
 bG Y5 uJ 0 fun n187 GX VQ VR =>
 kC Y5 k5 (iV n187) (iV GX) (iV VQ) (iV VR) fun Y6 =>
 bG Y6 k5 0 fun n195 n196 n197 QN =>
 K (.agg #[(iV n195), (iV n196), (iV n197), (iV QN)]) Y6)
 (rI G0 uJ 0 fun n199 =>
 rI G0 uJ 1 fun n200 =>
 rI G0 uJ 2 fun QO =>
 rI G0 uJ 3 fun NZ =>
 kC G0 k5 (iV n199) (iV n200) (iV QO) (iV NZ) fun Y7 =>
 bG Y7 k5 0 fun n207 VS VT VU =>
 K (.agg #[(iV n207), (iV VS), (iV VT), (iV VU)]) Y7))
 (rI Bg k3 0 fun VV =>
 aO (VV == 14)
 (sT Bg uJ 3 (iV oY) fun QS =>
 bG QS uJ 0 fun n213 Q2 Q3 Q4 =>
 kC QS k5 (iV n213) (iV Q2) (iV Q3) (iV Q4) fun Y8 =>
 bG Y8 k5 0 fun n221 n222 n223 UU =>
 K (.agg #[(iV n221), (iV n222), (iV n223), (iV UU)]) Y8)
 (rI Bg uJ 0 fun n225 =>
 rI Bg uJ 1 fun n226 =>
 rI Bg uJ 2 fun n227 =>
 rI Bg uJ 3 fun n228 =>
 kC Bg k5 (iV n225) (iV n226) (iV n227) (iV n228) fun Y9 =>
 bG Y9 k5 0 fun n233 n234 n235 n236 =>
 K (.agg #[(iV n233), (iV n234), (iV n235), (iV n236)]) Y9))) Kp))
 (aO (sO == 14)
 (aO ((pO : Int) == 0)
 (sT dP k5 0 (iV 0) fun M237 =>
 sT M237 k5 1 (iV 0) fun U1 =>
 sT U1 k5 2 (iV 0) fun U2 =>
 sT U2 k5 3 (iV 0) fun QU =>
 bG QU k5 0 fun n241 n242 U3 U4 =>
 K (.agg #[(iV n241), (iV n242), (iV U3), (iV U4)]) QU)
 (rI dP k3 1 fun U5 =>
 rI dP k3 0 fun VY =>
 (True) ∧
 aa Tryz.prog 66 #[(iV U5), (iV (pO : Int))] dP (fun v247 Za =>
 aJ (some v247) .i64 fun n249 =>
 eI Za k3 0 VY ∧
 bh Za iu fun uK M251 =>
 kC M251 uK (iV VY) (iV n249) (iV 0) (iV 0) fun Bh =>
 eI Bh k3 0 VY ∧
 rI Bh k3 0 fun n256 =>
 aO (decide (n256 < 15))
 (sT Bh uK 2 (iV gk) fun G1 =>
 rI G1 k3 0 fun n258 =>
 aO (n258 == 14)
 (sT G1 uK 3 (iV oY) fun Zb =>
 bG Zb uK 0 fun n260 n261 n262 n263 =>
 kC Zb k5 (iV n260) (iV n261) (iV n262) (iV n263) fun ER =>
 bG ER k5 0 fun Vb Vc Vd n271 =>
 K (.agg #[(iV Vb), (iV Vc), (iV Vd), (iV n271)]) ER)
 (rI G1 uK 0 fun n272 =>
 rI G1 uK 1 fun n273 =>
 rI G1 uK 2 fun Ve =>
 rI G1 uK 3 fun n275 =>
 kC G1 k5 (iV n272) (iV n273) (iV Ve) (iV n275) fun Zc =>
 bG Zc k5 0 fun n280 n281 Vf n283 =>
 K (.agg #[(iV n280), (iV n281), (iV Vf), (iV n283)]) Zc))
 (rI Bh k3 0 fun n284 =>
 aO (n284 == 14)
 (sT Bh uK 3 (iV oY) fun QW =>
 bG QW uK 0 fun n286 n287 n288 n289 =>
 kC QW k5 (iV n286) (iV n287) (iV n288) (iV n289) fun Zd =>
 bG Zd k5 0 fun Vg Vh n296 n297 =>
 K (.agg #[(iV Vg), (iV Vh), (iV n296), (iV n297)]) Zd)
 (rI Bh uK 0 fun n298 =>
 rI Bh uK 1 fun n299 =>
 rI Bh uK 2 fun n300 =>
 rI Bh uK 3 fun n301 =>
 kC Bh k5 (iV n298) (iV n299) (iV n300) (iV n301) fun Ze =>
 bG Ze k5 0 fun n306 n307 n308 n309 =>
 K (.agg #[(iV n306), (iV n307), (iV n308), (iV n309)]) Ze))) Kp))
 (aO (sO == 15)
 (aO ((pO : Int) == 0)
 (sT dP k5 0 (iV 0) fun M310 =>
 sT M310 k5 1 (iV 0) fun M311 =>
 sT M311 k5 2 (iV 0) fun M312 =>
 sT M312 k5 3 (iV 0) fun Zf =>
 bG Zf k5 0 fun n314 n315 n316 n317 =>
 K (.agg #[(iV n314), (iV n315), (iV n316), (iV n317)]) Zf)
 (rI dP k3 1 fun n318 =>
 rI dP k3 0 fun VZ =>
 (True) ∧
 aa Tryz.prog 66 #[(iV n318), (iV (pO : Int))] dP (fun v320 Zg =>
 aJ (some v320) .i64 fun n322 =>
 eI Zg k3 0 VZ ∧
 bh Zg iu fun uL M324 =>
 kC M324 uL (iV VZ) (iV n322) (iV 0) (iV 0) fun Bi =>
 eI Bi k3 0 VZ ∧
 rI Bi k3 0 fun n329 =>
 aO (decide (n329 < 15))
 (sT Bi uL 2 (iV gk) fun G2 =>
 rI G2 k3 0 fun n331 =>
 aO (n331 == 14)
 (sT G2 uL 3 (iV oY) fun Zh =>
 bG Zh uL 0 fun n333 n334 n335 n336 =>
 kC Zh k5 (iV n333) (iV n334) (iV n335) (iV n336) fun Zi =>
 bG Zi k5 0 fun n341 n342 n343 n344 =>
 K (.agg #[(iV n341), (iV n342), (iV n343), (iV n344)]) Zi)
 (rI G2 uL 0 fun n345 =>
 rI G2 uL 1 fun n346 =>
 rI G2 uL 2 fun n347 =>
 rI G2 uL 3 fun n348 =>
 kC G2 k5 (iV n345) (iV n346) (iV n347) (iV n348) fun Zj =>
 bG Zj k5 0 fun n353 n354 n355 n356 =>
 K (.agg #[(iV n353), (iV n354), (iV n355), (iV n356)]) Zj))
 (rI Bi k3 0 fun n357 =>
 aO (n357 == 14)
 (sT Bi uL 3 (iV oY) fun Zk =>
 bG Zk uL 0 fun n359 n360 n361 n362 =>
 kC Zk k5 (iV n359) (iV n360) (iV n361) (iV n362) fun Zl =>
 bG Zl k5 0 fun n367 n368 n369 n370 =>
 K (.agg #[(iV n367), (iV n368), (iV n369), (iV n370)]) Zl)
 (rI Bi uL 0 fun n371 =>
 rI Bi uL 1 fun n372 =>
 rI Bi uL 2 fun n373 =>
 rI Bi uL 3 fun n374 =>
 kC Bi k5 (iV n371) (iV n372) (iV n373) (iV n374) fun Zm =>
 bG Zm k5 0 fun n379 n380 n381 n382 =>
 K (.agg #[(iV n379), (iV n380), (iV n381), (iV n382)]) Zm))) Kp))
 (aO (sO == 16)
 (aO ((nI : Int) == 0)
 (sT dP k5 0 (iV 0) fun M383 =>
 sT M383 k5 1 (iV 0) fun M384 =>
 sT M384 k5 2 (iV 0) fun M385 =>
 sT M385 k5 3 (iV 0) fun Zn =>
 bG Zn k5 0 fun n387 n388 n389 n390 =>
 K (.agg #[(iV n387), (iV n388), (iV n389), (iV n390)]) Zn)
 (rI dP k3 1 fun n391 =>
 aa Tryz.prog 66 #[(iV n391), (iV (nI : Int))] dP (fun v392 Zo =>
 aJ (some v392) .i64 fun Zp =>
 rI Zo k3 2 fun n395 =>
 aa Tryz.prog 66 #[(iV n395), (iV (IntKind.wrap .i64 ((nI : Int) - Zp)))] Zo (fun v396 M397 =>
 aJ (some v396) .i64 fun n398 =>
 kC M397 k5 (iV 16) (iV Zp) (iV (IntKind.wrap .i64 (1 + n398))) (iV oY) fun Zq =>
 bG Zq k5 0 fun n403 n404 n405 n406 =>
 K (.agg #[(iV n403), (iV n404), (iV n405), (iV n406)]) Zq) Kp) Kp))
 (aO (sO == 18)
 (rI dP k1 2 fun n407 =>
 aO (n407 == 0)
 (sT dP k5 0 (iV 0) fun M408 =>
 sT M408 k5 1 (iV 0) fun M409 =>
 sT M409 k5 2 (iV 0) fun M410 =>
 sT M410 k5 3 (iV 0) fun Zr =>
 bG Zr k5 0 fun n412 n413 n414 n415 =>
 K (.agg #[(iV n412), (iV n413), (iV n414), (iV n415)]) Zr)
 (rI dP k3 1 fun n416 =>
 rI dP k1 2 fun n417 =>
 rI dP k3 0 fun V0 =>
 aa Tryz.prog 66 #[(iV n416), (iV n417)] dP (fun v419 Zs =>
 aJ (some v419) .i64 fun n421 =>
 eI Zs k3 0 V0 ∧
 kC Zs k5 (iV V0) (iV n421) (iV 0) (iV 0) fun V1 =>
 eI V1 k3 0 V0 ∧
 bG V1 k5 0 fun n426 n427 n428 n429 =>
 K (.agg #[(iV n426), (iV n427), (iV n428), (iV n429)]) V1) Kp))
 (aO (sO == 19)
 (rI dP k1 2 fun n430 =>
 aO (n430 == 0)
 (sT dP k5 0 (iV 0) fun M431 =>
 sT M431 k5 1 (iV 0) fun M432 =>
 sT M432 k5 2 (iV 0) fun M433 =>
 sT M433 k5 3 (iV 0) fun Zt =>
 bG Zt k5 0 fun n435 n436 n437 n438 =>
 K (.agg #[(iV n435), (iV n436), (iV n437), (iV n438)]) Zt)
 (rI dP k3 1 fun n439 =>
 rI dP k1 2 fun n440 =>
 rI dP k3 0 fun V2 =>
 aa Tryz.prog 66 #[(iV n439), (iV n440)] dP (fun v442 Zu =>
 aJ (some v442) .i64 fun n444 =>
 eI Zu k3 0 V2 ∧
 kC Zu k5 (iV V2) (iV n444) (iV 0) (iV 0) fun V3 =>
 eI V3 k3 0 V2 ∧
 bG V3 k5 0 fun n449 n450 n451 n452 =>
 K (.agg #[(iV n449), (iV n450), (iV n451), (iV n452)]) V3) Kp))
 (aO (sO == 21)
 (rI dP k3 2 fun n453 =>
 aa Tryz.prog 66 #[(iV n453), (iV 1000)] dP (fun v454 M455 =>
 aJ (some v454) .i64 fun n456 =>
 kC M455 k5 (iV 21) (iV iW) (iV (IntKind.wrap .i64 (1 + n456))) (iV 0) fun Zv =>
 bG Zv k5 0 fun n461 n462 n463 n464 =>
 K (.agg #[(iV n461), (iV n462), (iV n463), (iV n464)]) Zv) Kp)
 (aO (sO == 22)
 (rI dP k3 1 fun n465 =>
 aa Tryz.prog 66 #[(iV n465), (iV 1000)] dP (fun v466 M467 =>
 aJ (some v466) .i64 fun n468 =>
 kC M467 k5 (iV 22) (iV n468) (iV 0) (iV 0) fun Zw =>
 bG Zw k5 0 fun n473 n474 n475 n476 =>
 K (.agg #[(iV n473), (iV n474), (iV n475), (iV n476)]) Zw) Kp)
 (rI dP k3 0 fun n477 =>
 kC dP k5 (iV n477) (iV 0) (iV 0) (iV 0) fun Zx =>
 bG Zx k5 0 fun n482 n483 n484 n485 =>
 K (.agg #[(iV n482), (iV n483), (iV n484), (iV n485)]) Zx)))))))))))))))))))))) Kp) Kp) Kp) Kp) :
 aa Tryz.prog 67 #[.agg #[.slice mR mS mT, .slice mU mV mW, .int .i64 gU, .slice mX mY mZ], .slice B1 m1 c1, .agg #[.int .i64 Nm, .int .i64 Nn, .int .i64 No, .int .i64 Np]] M K Kp := vw [(2, .bR [0, 1, 3, 0, 8, 31, 0, 64, 255, 511, 1023, 2047] (sy [0, 3, 6, 1] (.dw 4 (.dw 7 (sy [2, 5, 8, 9, 10, 11] .done))))), (3, .bR [0, 1, 3, 0, 8, 24, 0, 64, 192, 7, 575, 2047] (sy [0, 3, 6, 1, 2, 9, 4, 5, 10, 7, 8, 11] .done)), (20, .bR [0, 1, 0, 4, 0, 28, 0, 0, 255, 511] (sy [0, 2, 4, 6, 7, 3] (.dw 1 (sy [5, 8, 9] .done)))), (30, .bR [0, 1, 0, 4, 0, 28, 63, 0, 255] (sy [0, 2, 4, 3] (.dw 1 (.late 5 (sy [6, 7, 8] .done))))), (45, .bR [0, 1, 0, 4, 0, 16, 60, 127, 255] (sy [0, 2, 4, 3, 5] (.dw 1 (sy [6, 7, 8] .done))))] Tryz.func67 h
end Go.Proofs
namespace Go.Proofs
open Go.AF
set_option maxRecDepth 100000
theorem oP  {M : Mem} {K : Value → Mem → Prop} {Kp : List PanicEntry → Mem → Prop} (h :
bh M (cl [(iV 1), (.int .u64 0), (iV 1), (.int .u64 1), (iV 1), (.int .u64 0)] 95) fun k1 M2 =>
aa Tryz.prog 75 #[(.slice (some ⟨k1, 0, none⟩) 3 3), (iV 2)] M2 (fun v3 M4 =>
aJ (some v3) .i64 fun n5 =>
aO (n5 == 2)
 (aa Tryz.prog 30 #[(.agg #[(iV 0), (iV 0), (iV 2), (iV 1)]), (iV 1), (iV 1)] M4 (fun v6 M7 =>
 aJ (some v6) .i64 fun n8 =>
 K (.bool (n8 == 156)) M7) Kp)
 (K (.bool false) M4)) Kp) :
 aa Tryz.prog 36 #[] M K Kp := vw [] Tryz.func36 h
theorem lB {mR : Option Addr} {mS mT : Nat} {mU : Option Addr} {mV mW : Nat} {gU : Int} {mX : Option Addr} {mY mZ : Nat} {cK : Int} {cL : Int} {cN : Int} {eE : Int} {x2 : Int} {M : Mem} {K : Value → Mem → Prop} {Kp : List PanicEntry → Mem → Prop} (h :
bh M (cl [(.slice mR mS mT), (.slice mU mV mW), (iV gU), (.slice mX mY mZ)] 59) fun k1 M2 =>
bh M2 (cl [(iV cK), (iV cL), (iV cN), (iV eE)] 23) fun k3 M4 =>
aa Tryz.prog 36 #[] M4 (fun v5 M6 =>
de (some v5) fun t7 =>
aO (!t7)
 (K (.bool false) M6)
 (rI M6 k3 0 fun n8 =>
 rI M6 k3 1 fun n9 =>
 rI M6 k3 2 fun jc =>
 rI M6 k3 3 fun iN =>
 aa Tryz.prog 14 #[(.agg #[(iV n8), (iV n9), (iV jc), (iV iN)])] M6 (fun It mL =>
 ∃ mb lq nm iW : Int, (It = (.agg #[(iV mb), (iV lq), (iV nm), (iV iW)])) ∧
 bh mL J4 fun en jD =>
 kC jD en (iV mb) (iV lq) (iV nm) (iV iW) fun me =>
 rI me en 0 fun BZ =>
 ((3 : Int) ≠ 0) ∧
 rI me en 1 fun mN =>
 ((3 : Int) ≠ 0) ∧
 rI me en 3 fun ox =>
 ((3 : Int) ≠ 0) ∧
 sT2 me en (iV (IntKind.wrap .i64 (1 + (Int.tmod BZ 3)))) (iV (IntKind.wrap .i64 (1 + (Int.tmod mN 3)))) fun uq =>
 sT uq en 3 (iV (IntKind.wrap .i64 (1 + (Int.tmod ox 3)))) fun mK =>
 yN mK k1 0 fun SH nI uv Gx oW Aw yZ Nq iD xB =>
 bG mK en 0 fun DQ PK y3 xY =>
 bG mK en 0 fun w8 uC AA sq =>
 (True) ∧
 aa Tryz.prog 24 #[(.agg #[(.slice SH nI uv), (.slice Gx oW Aw), (iV yZ), (.slice Nq iD xB)])] mK (fun v48 vQ =>
 ∃ Xb : Option Addr, ∃ ID qG : Nat, ∃ A53 : Option Addr, ∃ Ke Nr : Nat, ∃ IL : Int, ∃ W4 : Option Addr, ∃ DO Sz : Nat, (v48 = (.agg #[(.slice Xb ID qG), (.slice A53 Ke Nr), (iV IL), (.slice W4 DO Sz)])) ∧
 ((Mem.g9 vQ ⟨en, 0, none⟩ 0 4) = some [(iV w8), (iV uC), (iV AA), (iV sq)]) ∧
 ((Mem.g9 vQ ⟨en, 0, none⟩ 0 4) = some [(iV DQ), (iV PK), (iV y3), (iV xY)]) ∧
 (True) ∧
 aa Tryz.prog 25 #[(.agg #[(.slice Xb ID qG), (.slice A53 Ke Nr), (iV IL), (.slice W4 DO Sz)])] vQ (fun v60 Au =>
 ∃ Xe : Option Addr, ∃ Kl Vw : Nat, ∃ QH : Option Addr, ∃ II vp : Nat, ∃ IB : Int, ∃ PL : Option Addr, ∃ EH Km : Nat, (v60 = (.agg #[(.slice Xe Kl Vw), (.slice QH II vp), (iV IB), (.slice PL EH Km)])) ∧
 ((Mem.g9 Au ⟨en, 0, none⟩ 0 4) = some [(iV w8), (iV uC), (iV AA), (iV sq)]) ∧
 ((Mem.g9 Au ⟨en, 0, none⟩ 0 4) = some [(iV DQ), (iV PK), (iV y3), (iV xY)]) ∧
 (True) ∧
 aa Tryz.prog 37 #[(.int .u64 x2), (.agg #[(iV w8), (iV uC), (iV AA), (iV sq)]), (iV 3000)] Au (fun YB AD =>
 aB (some YB) fun A74 Ys YR =>
 ((Mem.g9 AD ⟨en, 0, none⟩ 0 4) = some [(iV w8), (iV uC), (iV AA), (iV sq)]) ∧
 ((Mem.g9 AD ⟨en, 0, none⟩ 0 4) = some [(iV DQ), (iV PK), (iV y3), (iV xY)]) ∧
 (True) ∧
 aa Tryz.prog 29 #[(.agg #[(.slice Xe Kl Vw), (.slice QH II vp), (iV IB), (.slice PL EH Km)]), (.agg #[(iV DQ), (iV PK), (iV y3), (iV xY)]), (.slice A74 Ys YR), (iV 3000)] AD (fun v77 M78 =>
 ∃ n79 W5 QY Gz : Int, (v77 = (.agg #[(iV n79), (iV W5), (iV QY), (iV Gz)])) ∧
 ((Mem.g9 M78 ⟨en, 0, none⟩ 0 4) = some [(iV w8), (iV uC), (iV AA), (iV sq)]) ∧
 ((Mem.g9 M78 ⟨en, 0, none⟩ 0 4) = some [(iV DQ), (iV PK), (iV y3), (iV xY)]) ∧
 bh M78 BS fun y7 Nw =>
 kC Nw y7 (iV n79) (iV W5) (iV QY) (iV Gz) fun DS =>
 ((Mem.g9 DS ⟨en, 0, none⟩ 0 4) = some [(iV w8), (iV uC), (iV AA), (iV sq)]) ∧
 ((Mem.g9 DS ⟨en, 0, none⟩ 0 4) = some [(iV DQ), (iV PK), (iV y3), (iV xY)]) ∧
 rI DS y7 2 fun VF =>
 aO (VF == 0)
 (K (.bool true) DS)
 (rI DS en 0 fun PO =>
 rI DS en 1 fun n91 =>
 rI DS en 2 fun TV =>
 rI DS en 3 fun QZ =>
 rI DS y7 2 fun MZ =>
 rI DS y7 1 fun GB =>
 rI DS y7 3 fun FR =>
 aa Tryz.prog 30 #[(.agg #[(iV PO), (iV n91), (iV TV), (iV QZ)]), (iV MZ), (iV GB)] DS (fun v97 Bb =>
 aJ (some v97) .i64 fun IK =>
 eI Bb y7 3 FR ∧
 K (.bool (decide (FR ≤ IK))) Bb) Kp)) Kp) Kp) Kp) Kp) Kp)) Kp) :
 aa Tryz.prog 7 #[.agg #[.slice mR mS mT, .slice mU mV mW, .int .i64 gU, .slice mX mY mZ], .agg #[.int .i64 cK, .int .i64 cL, .int .i64 cN, .int .i64 eE], .int .u64 x2] M K Kp := vw [(5, .bR [0, 1, 3, 0, 0, 0, 55, 127, 0, 511] (sy [4, 0] (.dw 3 (.dw 5 (.late 1 (.late 2 (.late 6 (.late 7 (sy [8, 9] .done))))))))), (6, .bR [0, 1, 3, 7, 15, 31, 15, 15, 143, 15, 527, 1999, 4095, 8191, 16383] (sy [0, 1, 2, 3, 4, 7, 9, 6, 8, 10] (.dw 5 (sy [11, 12, 13, 14] .done))))] Tryz.func7 h
theorem nS {x0 : Int} {cK : Int} {cL : Int} {cN : Int} {eE : Int} {x2 : Int} {M : Mem} {K : Value → Mem → Prop} {Kp : List PanicEntry → Mem → Prop} (h :
bh M (cl [(iV cK), (iV cL), (iV cN), (iV eE)] 29) fun k1 M2 =>
bh M2 (cl [] 32) fun k3 M4 =>
∃ I5 : IT, (∃ k6, I5 k6 [(.int .u64 x0), (.slice (some ⟨k3, 0, none⟩) 0 0), (.int .u64 0)] M4) ∧
∀ (k7 : Nat) (_ : Nat → Value) (n9 : Int) (AO : Option Addr) (eO : Nat) (gH : Nat) (iM : Int) (lK : Mem), (I5 k7 [(.int .u64 n9), (.slice AO eO gH), (.int .u64 iM)] lK) → aO (decide ((eO : Int) < x2))
 (aO (decide (((Int.fdiv (IntKind.wrap .u64 ((IntKind.wrap .u64 (n9 * 6364136223846793005)) + 1442695040888963407)) 1152921504606846976) : Int) < 3))
 (bh lK (cl [(.int .u64 (Int.fdiv (IntKind.wrap .u64 ((IntKind.wrap .u64 (n9 * 6364136223846793005)) + 1442695040888963407)) 1048576))] 32) fun iC fz =>
 aA 31 AO eO gH (some ⟨iC, 0, none⟩) 1 1 fz (fun Qz sS =>
 aB (some Qz) fun DP lz fM =>
 ∃ gV : Nat, (gV < k7) ∧
 I5 gV [(.int .u64 (IntKind.wrap .u64 ((IntKind.wrap .u64 (n9 * 6364136223846793005)) + 1442695040888963407))), (.slice DP lz fM), (.int .u64 iM)] sS) Kp)
 (rI lK k1 1 fun oY =>
 (((IntKind.wrap .u64 (IntKind.wrap .i64 (oY + 1))) : Int) ≠ 0) ∧
 bh lK (cl [(.int .u64 (Int.tmod (IntKind.wrap .u64 (iM + 1)) (IntKind.wrap .u64 (IntKind.wrap .i64 (oY + 1)))))] 32) fun sM FT =>
 aA 31 AO eO gH (some ⟨sM, 0, none⟩) 1 1 FT (fun TW wZ =>
 aB (some TW) fun Qv iy mj =>
 ∃ nI : Nat, (nI < k7) ∧
 I5 nI [(.int .u64 (IntKind.wrap .u64 ((IntKind.wrap .u64 (n9 * 6364136223846793005)) + 1442695040888963407))), (.slice Qv iy mj), (.int .u64 (IntKind.wrap .u64 (iM + 1)))] wZ) Kp))
 (K (.slice AO eO gH) lK)) :
 aa Tryz.prog 37 #[.int .u64 x0, .agg #[.int .i64 cK, .int .i64 cL, .int .i64 cN, .int .i64 eE], .int .i64 x2] M K Kp := vw [(2000000, .loop [(0, .c (.int .u64)), (7, .c .sl), (8, .c (.int .u64))])] Tryz.func37 h
end Go.Proofs
