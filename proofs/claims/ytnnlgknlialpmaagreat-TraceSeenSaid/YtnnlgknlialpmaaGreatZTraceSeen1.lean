/- A part of proofs about one program. -/
import Derived.Test.YtnnlgknlialpmaaGreatZTraceSeen0
set_option linter.unusedVariables false
namespace Go.Proofs
open Go.AF
set_option maxRecDepth 100000
variable {M : Mem} {K : Value → Mem → Prop} {Kp : List PanicEntry → Mem → Prop}
theorem sF {iW : Option Addr} {iX iY : Nat} {iZ : Option Addr} {ja jb : Nat} {fD : Int} {g9 : Option Addr} {hG hH : Nat} (h :
aX M (cl [(.slice iW iX iY), (.slice iZ ja jb), (iV fD), (.slice g9 hG hH)] 59) fun k1 M2 =>
aX M2 wm fun k3 M4 =>
rS M4 k1 1 fun A5 k6 k7 =>
rI M4 k1 2 fun n8 =>
aX M4 (cl [] 3) fun k9 iE =>
(True) ∧
aA 36 (some ⟨k9, 0, none⟩) 0 0 A5 k6 k7 iE (fun v11 oF =>
aB (some v11) fun F2 gT iF =>
eI oF k1 2 n8 ∧
aX oF wm fun eX ox =>
kQ ox eX (.slice none 0 0) (.slice F2 gT iF) (iV n8) (.slice none 0 0) fun kj =>
eI kj k1 2 n8 ∧
rS kj k1 0 fun GV iM mX =>
∃ Uh : IT, (∃ pM, Uh pM [(iV 0)] kj) ∧
∀ (lP : Nat) (_ : Nat → Value) (xI : Int) (ru : Mem), (Uh lP [(iV xI)] ru) → aP (decide (xI < iM))
 ((0 ≤ xI) ∧
 (xI < iM) ∧
 aE GV fun qR yg =>
 rS ru qR (yg + (Int.toNat xI)) fun GJ uF wB =>
 aX ru (cl [] 27) fun BV xK =>
 ∃ I38 : IT, (∃ sV, I38 sV [(.slice (some ⟨BV, 0, none⟩) 0 0), (iV 0)] xK) ∧
 ∀ (xD : Nat) (_ : Nat → Value) (J7 : Option Addr) (ko : Nat) (IE : Nat) (tC : Int) (BX : Mem), (I38 xD [(.slice J7 ko IE), (iV tC)] BX) → aP (decide (tC < uF))
 ((0 ≤ tC) ∧
 (tC < uF) ∧
 aE GJ fun EF Lu =>
 bN BX EF (Lu + ((Int.toNat tC) * 4)) fun Kn C7 Ba X4 =>
 aX BX iC fun nR J5 =>
 kQ J5 nR (iV Kn) (iV C7) (iV Ba) (iV X4) fun SH =>
 bN SH nR 0 fun AB MJ Ka IL =>
 aX SH (cl [(iV AB), (iV MJ), (iV Ka), (iV IL)] 27) fun GY Ng =>
 aA 28 J7 ko IE (some ⟨GY, 0, none⟩) 1 1 Ng (fun v65 Qi =>
 aB (some v65) fun Ym DT G0 =>
 ∃ BY : Nat, (BY < xD) ∧
 I38 BY [(.slice Ym DT G0), (iV (IntKind.wrap .i64 (tC + 1)))] Qi) Kp)
 (rS BX eX 0 fun G1 ES IQ =>
 aX BX (cl [(.slice J7 ko IE)] 28) fun Pw xL =>
 aA 35 G1 ES IQ (some ⟨Pw, 0, none⟩) 1 1 xL (fun Yr Qt =>
 aB (some Yr) fun Ys IP ET =>
 sT Qt eX 0 (.slice Ys IP ET) fun Nl =>
 ∃ GZ : Nat, (GZ < lP) ∧
 Uh GZ [(iV (IntKind.wrap .i64 (xI + 1)))] Nl) Kp))
 (rS ru k1 3 fun A83 Vh IS =>
 ∃ I86 : IT, (∃ Qp, I86 Qp [(iV 0)] ru) ∧
 ∀ (Km : Nat) (_ : Nat → Value) (SM : Int) (mK : Mem), (I86 Km [(iV SM)] mK) → aP (decide (SM < Vh))
 ((0 ≤ SM) ∧
 (SM < Vh) ∧
 aE A83 fun Ko Nn =>
 mC mK Ko (Nn + ((Int.toNat SM) * 3)) fun Qe Kd Ke =>
 aX mK wq fun W7 DY =>
 F0 DY W7 (iV Qe) (iV Kd) (iV Ke) fun gP =>
 rS gP eX 3 fun wP kH uV =>
 mC gP W7 0 fun Vi n106 He =>
 aX gP (cl [(iV Vi), (iV n106), (iV He)] 165) fun YK pO =>
 aA 37 wP kH uV (some ⟨YK, 0, none⟩) 1 1 pO (fun v110 nX =>
 aB (some v110) fun A112 Di Np =>
 sT nX eX 3 (.slice A112 Di Np) fun G4 =>
 ∃ E4 : Nat, (E4 < Km) ∧
 I86 E4 [(iV (IntKind.wrap .i64 (SM + 1)))] G4) Kp)
 (rS mK eX 0 fun N2 Kx zH =>
 rS mK eX 1 fun Vj Ky Vk =>
 rI mK eX 2 fun Vl =>
 rS mK eX 3 fun A124 Nr N3 =>
 kQ mK k3 (.slice N2 Kx zH) (.slice Vj Ky Vk) (iV Vl) (.slice A124 Nr N3) fun sD =>
 lZ sD k3 0 fun EX yq EY N4 yw qh Vm A138 QO QS =>
 K (.agg #[(.slice EX yq EY), (.slice N4 yw qh), (iV Vm), (.slice A138 QO QS)]) sD))) Kp) :
 aa Tryz.prog 25 #[.agg #[.slice iW iX iY, .slice iZ ja jb, .int .i64 fD, .slice g9 hG hH]] M K Kp := vw [(1, .bS [0, 0, 2, 7, 0, 16, 63, 0, 255] (sy [1, 4, 2] (.dD 5 (sy [0] (.late 3 (sy [6, 7, 8] .done)))))), (2000000, .loop [(21, .c (.int .i64))]), (2000002, .loop [(6, .c .sl), (28, .c (.int .i64))]), (2000004, .loop [(55, .c (.int .i64))])] Tryz.func25 h
theorem qj {iW : Option Addr} {iX iY : Nat} {iZ : Option Addr} {ja jb : Nat} {fD : Int} {g9 : Option Addr} {hG hH : Nat} (h :
aX M (cl [(.slice iW iX iY), (.slice iZ ja jb), (iV fD), (.slice g9 hG hH)] 59) fun k1 M2 =>
aX M2 wu fun k3 M4 =>
rI M4 k1 2 fun n5 =>
aa Tryz.prog 66 #[(iV n5), (iV 4)] M4 (fun v6 M7 =>
aI (some v6) .i64 fun n8 =>
aX M7 wu fun k9 iE =>
kQ iE k9 (.slice none 0 0) (.slice none 0 0) (iV n8) (.slice none 0 0) fun kD =>
∃ J15 : List Value → Mem → Prop, (∃ SJ : IT, (∃ dn, SJ dn [(iV 0)] kD) ∧
 ∀ (fM : Nat) (_ : Nat → Value) (eR : Int) (kj : Mem), (SJ fM [(iV eR)] kj) → rS kj k1 1 fun GV iM mX =>
 aP (decide (eR < iM))
 (aP (decide (eR < 4))
 (∃ J25 : List Value → Mem → Prop, (rS kj k1 1 fun Bb lP js =>
 (0 ≤ eR) ∧
 (eR < lP) ∧
 aE Bb fun jX l9 =>
 rI kj jX (l9 + (Int.toNat eR)) fun yL =>
 (rS kj k9 1 fun A32 vH uF =>
 aa Tryz.prog 66 #[(iV yL), (iV 4)] kj (fun v35 F3 =>
 aI (some v35) .i64 fun J4 =>
 aX F3 (cl [(iV J4)] 3) fun fW Nf =>
 aA 36 A32 vH uF (some ⟨fW, 0, none⟩) 1 1 Nf (fun Kg C6 =>
 aB (some Kg) fun J7 ko IE =>
 sT C6 k9 1 (.slice J7 ko IE) fun pY =>
 J25 [] pY) Kp) Kp) ∧
 (aa Tryz.prog 66 #[(iV yL), (iV 4)] kj (fun Uf pT =>
 aI (some Uf) .i64 fun yh =>
 rS pT k9 1 fun Ui ye Kj =>
 aX pT (cl [(iV yh)] 3) fun kS GW =>
 aA 36 Ui ye Kj (some ⟨kS, 0, none⟩) 1 1 GW (fun Nv qS =>
 aB (some Nv) fun Nj wK xE =>
 sT qS k9 1 (.slice Nj wK xE) fun AH =>
 J25 [] AH) Kp) Kp) ∧
 True) ∧
 ∀ junk60 : Nat → Value, ∀ wz : Mem, (J25 [] wz) → ∃ EO : Nat, (EO < fM) ∧
 SJ EO [(iV (IntKind.wrap .i64 (eR + 1)))] wz)
 (J15 [] kj))
 (J15 [] kj)) ∧
∀ junk63 : Nat → Value, ∀ Ng : Mem, (J15 [] Ng) → ∃ J65 : List Value → Mem → Prop, (∃ I66 : IT, (∃ yl, I66 yl [(iV 0)] Ng) ∧
 ∀ (DT : Nat) (_ : Nat → Value) (Vn : Int) (zC : Mem), (I66 DT [(iV Vn)] zC) → rS zC k1 3 fun W4 IQ Pw =>
 aP (decide (Vn < IQ))
 (aP (decide (Vn < 8))
 (rS zC k1 3 fun W8 IN T3 =>
 (0 ≤ Vn) ∧
 (Vn < IN) ∧
 aE W8 fun Kl IP =>
 mC zC Kl (IP + ((Int.toNat Vn) * 3)) fun n80 W9 IF =>
 aX zC wq fun DU EU =>
 F0 EU DU (iV n80) (iV W9) (iV IF) fun E0 =>
 rII E0 DU 0 fun n88 SN =>
 rS E0 k9 1 fun W5 Nm Ko =>
 rI E0 DU 2 fun QT =>
 (True) ∧
 aa Tryz.prog 66 #[(iV n88), (iV 3)] E0 (fun v94 DX =>
 aI (some v94) .i64 fun Ke =>
 eI DX DU 2 QT ∧
 eS DX k9 1 W5 Nm Ko ∧
 eI DX DU 1 SN ∧
 (True) ∧
 aa Tryz.prog 66 #[(iV SN), (iV (Nm : Int))] DX (fun v97 DY =>
 aI (some v97) .i64 fun Px =>
 eI DY DU 2 QT ∧
 eS DY k9 1 W5 Nm Ko ∧
 eI DY DU 1 SN ∧
 (True) ∧
 aa Tryz.prog 66 #[(iV QT), (iV 8)] DY (fun N5 gP =>
 aI (some N5) .i64 fun MO =>
 eI gP DU 2 QT ∧
 eS gP k9 1 W5 Nm Ko ∧
 eI gP DU 1 SN ∧
 aX gP wq fun kH Uj =>
 F0 Uj kH (iV Ke) (iV Px) (iV MO) fun Dd =>
 eI Dd DU 2 QT ∧
 eS Dd k9 1 W5 Nm Ko ∧
 eI Dd DU 1 SN ∧
 rS Dd k9 1 fun A108 Dh E1 =>
 ∃ Vo : List Value → Mem → Prop, (aP ((Dh : Int) == 0)
 (sT Dd kH 0 (iV 2) fun M112 =>
 sT M112 kH 1 (iV 0) fun QU =>
 sT QU kH 2 (iV 0) fun tP =>
 Vo [] tP)
 (Vo [] Dd)) ∧
 ∀ junk115 : Nat → Value, ∀ uU : Mem, (Vo [] uU) → rS uU k9 3 fun N2 Kx zH =>
 mC uU kH 0 fun zD wO Nq =>
 aX uU (cl [(iV zD), (iV wO), (iV Nq)] 163) fun Dj sE =>
 aA 57 N2 Kx zH (some ⟨Dj, 0, none⟩) 1 1 sE (fun v125 M126 =>
 aB (some v125) fun A127 k128 G9 =>
 sT M126 k9 3 (.slice A127 k128 G9) fun sD =>
 ∃ Kz : Nat, (Kz < DT) ∧
 I66 Kz [(iV (IntKind.wrap .i64 (Vn + 1)))] sD) Kp) Kp) Kp) Kp)
 (J65 [] zC))
 (J65 [] zC)) ∧
∀ junk132 : Nat → Value, ∀ N6 : Mem, (J65 [] N6) → rS N6 k1 0 fun N4 yw qh =>
rS N6 k1 0 fun YL uX QO =>
((0 : Int) ≤ qh) ∧
((qh : Int) ≤ qh) ∧
((0 : Int) ≤ (if (5 : Int) < (uX : Int) then 5 else (uX : Int))) ∧
(((if (5 : Int) < (uX : Int) then 5 else (uX : Int)) : Int) ≤ (qh : Int)) ∧
((0 : Int) ≤ 0) ∧
((0 : Int) ≤ (if (5 : Int) < (uX : Int) then 5 else (uX : Int))) ∧
∃ Vp : List Value → Mem → Prop, (aP (((((Int.toNat (if (5 : Int) < (uX : Int) then 5 else (uX : Int))) - 0) : Nat) : Int) == 0)
 (aX N6 iC fun k141 Nz =>
 aX Nz (cl [(.slice (some ⟨k141, 0, none⟩) 1 1)] 61) fun QV M144 =>
 Vp [(.slice (some ⟨QV, 0, none⟩) 1 1)] M144)
 (Vp [(.slice (lO N4 0 (Int.toNat (qh : Int)) 1) ((Int.toNat (if (5 : Int) < (uX : Int) then 5 else (uX : Int))) - 0) ((Int.toNat (qh : Int)) - 0))] N6)) ∧
∀ junk145 : Nat → Value, ∀ YM : Option Addr, ∀ N7 : Nat, ∀ E2 : Nat, ∀ EZ : Mem, (Vp [(.slice YM N7 E2)] EZ) → bk Tryz.prog (Go.Instr.makeSlice 56 (iV (N7 : Int)) (iV (N7 : Int))) EZ (fun Vq uW =>
aB (some Vq) fun NG NH Nu =>
sT uW k9 0 (.slice NG NH Nu) fun M155 =>
∃ Vr : IT, (∃ Uw, Vr Uw [(iV 0)] M155) ∧
∀ (YN : Nat) (_ : Nat → Value) (zI : Int) (wQ : Mem), (Vr YN [(iV zI)] wQ) → aP (decide (zI < N7))
 ((0 ≤ zI) ∧
 (zI < N7) ∧
 aE YM fun NI NJ =>
 rS wQ NI (NJ + (Int.toNat zI)) fun A164 Be KA =>
 ((0 : Int) ≤ KA) ∧
 ((KA : Int) ≤ KA) ∧
 ((0 : Int) ≤ (if (20 : Int) < (Be : Int) then 20 else (Be : Int))) ∧
 (((if (20 : Int) < (Be : Int) then 20 else (Be : Int)) : Int) ≤ (KA : Int)) ∧
 ((0 : Int) ≤ 0) ∧
 ((0 : Int) ≤ (if (20 : Int) < (Be : Int) then 20 else (Be : Int))) ∧
 ∃ Vs : List Value → Mem → Prop, (aP (((((Int.toNat (if (20 : Int) < (Be : Int) then 20 else (Be : Int))) - 0) : Nat) : Int) == 0)
 (aX wQ iC fun k168 M169 =>
 Vs [(.slice (some ⟨k168, 0, none⟩) 1 1)] M169)
 (Vs [(.slice (lO A164 0 (Int.toNat (KA : Int)) 4) ((Int.toNat (if (20 : Int) < (Be : Int) then 20 else (Be : Int))) - 0) ((Int.toNat (KA : Int)) - 0))] wQ)) ∧
 ∀ junk170 : Nat → Value, ∀ Vt : Option Addr, ∀ QW : Nat, ∀ Ku : Nat, ∀ YO : Mem, (Vs [(.slice Vt QW Ku)] YO) → aX YO (cl [] 63) fun k175 M176 =>
 ∃ Vu : IT, (∃ k178, Vu k178 [(.slice (some ⟨k175, 0, none⟩) 0 0), (iV 0)] M176) ∧
 ∀ (YP : Nat) (_ : Nat → Value) (Vv : Option Addr) (Vw : Nat) (Vx : Nat) (KB : Int) (N8 : Mem), (Vu YP [(.slice Vv Vw Vx), (iV KB)] N8) → aP (decide (KB < QW))
 ((0 ≤ KB) ∧
 (KB < QW) ∧
 aE Vt fun k186 k187 =>
 bN N8 k186 (k187 + ((Int.toNat KB) * 4)) fun G6 Vy Vz n191 =>
 aX N8 iC fun UF M193 =>
 kQ M193 UF (iV G6) (iV Vy) (iV Vz) (iV n191) fun NQ =>
 lZ NQ k9 0 fun A198 k199 k200 A201 k202 k203 n204 UG UH YD =>
 bN NQ UF 0 fun VA VB VC VD =>
 aa Tryz.prog 67 #[(.agg #[(.slice A198 k199 k200), (.slice A201 k202 k203), (iV n204), (.slice UG UH YD)]), (.slice Vt QW Ku), (.agg #[(iV VA), (iV VB), (iV VC), (iV VD)])] NQ (fun v212 UK =>
 ∃ QX QY QZ YQ : Int, (v212 = (.agg #[(iV QX), (iV QY), (iV QZ), (iV YQ)])) ∧
 aX UK (cl [(iV QX), (iV QY), (iV QZ), (iV YQ)] 63) fun k218 M219 =>
 aA 61 Vv Vw Vx (some ⟨k218, 0, none⟩) 1 1 M219 (fun v220 M221 =>
 aB (some v220) fun A222 UL k224 =>
 ∃ YR : Nat, (YR < YP) ∧
 Vu YR [(.slice A222 UL k224), (iV (IntKind.wrap .i64 (KB + 1)))] M221) Kp) Kp)
 (rS N8 k9 0 fun UN UO k228 =>
 (0 ≤ zI) ∧
 (zI < UO) ∧
 aE UN fun k229 UP =>
 sT N8 k229 (UP + (Int.toNat zI)) (.slice Vv Vw Vx) fun M231 =>
 ∃ YS : Nat, (YS < YN) ∧
 Vr YS [(iV (IntKind.wrap .i64 (zI + 1)))] M231))
 (rS wQ k9 0 fun A233 UQ k235 =>
 rS wQ k9 1 fun A236 UR k238 =>
 rI wQ k9 2 fun n239 =>
 rS wQ k9 3 fun A240 k241 k242 =>
 kQ wQ k3 (.slice A233 UQ k235) (.slice A236 UR k238) (iV n239) (.slice A240 k241 k242) fun YT =>
 lZ YT k3 0 fun A247 UY k249 A250 k251 k252 n253 A254 k255 U0 =>
 K (.agg #[(.slice A247 UY k249), (.slice A250 k251 k252), (iV n253), (.slice A254 k255 U0)]) YT)) Kp) Kp) :
 aa Tryz.prog 24 #[.agg #[.slice iW iX iY, .slice iZ ja jb, .int .i64 fD, .slice g9 hG hH]] M K Kp := vw [(1000000, .cut []), (2000000, .loop [(4, .c (.int .i64))]), (5, .CS [0, 1, 0, 4, 0, 28, 60, 124, 252, 511, 1023, 2047] (sy [0, 2, 4, 3, 5, 6] (.fork 1 (sy [7, 8, 9, 10, 11] .done) (.fork 7 (sy [1, 8, 9, 10, 11] .done) .dead))) []), (1000002, .cut []), (2000002, .loop [(5, .c (.int .i64))]), (10, .bS [0, 1, 3, 0, 8, 0, 32, 96, 255, 0, 512, 2047, 4095, 0, 16383] (sy [0, 3, 5, 9, 1] (.dD 4 (.dD 6 (sy [7] (.dD 10 (.late 2 (.late 8 (.late 11 (sy [12, 13, 14] .done)))))))))), (3000072, .cut []), (3000089, .cut [(8, .c .sl)]), (2000004, .loop [(99, .c (.int .i64))]), (3000111, .cut [(10, .c .sl)]), (2000006, .loop [(11, .c .sl), (117, .c (.int .i64))])] Tryz.func24 h
theorem sG {x0 : Int} {x1 : Int} (h :
aP (decide ((x1 : Int) < 1))
 (K (iV 0) M)
 (((x1 : Int) ≠ 0) ∧
 ((x1 : Int) ≠ 0) ∧
 K (iV (Int.tmod (IntKind.wrap .i64 ((Int.tmod x0 x1) + x1)) x1)) M)) :
 aa Tryz.prog 66 #[.int .i64 x0, .int .i64 x1] M K Kp := vw [] Tryz.func66 h
theorem sH {iW : Option Addr} {iX iY : Nat} {iZ : Option Addr} {ja jb : Nat} {fD : Int} {g9 : Option Addr} {hG hH : Nat} {B1 : Option Addr} {m1 c1 : Nat} {MZ : Int} {Na : Int} {Nb : Int} {Nc : Int} (h :
aX M (cl [(.slice iW iX iY), (.slice iZ ja jb), (iV fD), (.slice g9 hG hH)] 59) fun k1 M2 =>
aX M2 (cl [(iV MZ), (iV Na), (iV Nb), (iV Nc)] 63) fun k3 M4 =>
aX M4 iC fun k5 M6 =>
rI M6 k3 0 fun n7 =>
aa Tryz.prog 66 #[(iV n7), (iV 23)] M6 (fun v8 M9 =>
aI (some v8) .i64 fun lE =>
sT M9 k3 0 (iV lE) fun lC =>
rI lC k3 1 fun j5 =>
rI lC k3 2 fun j6 =>
rI lC k3 3 fun nx =>
aa Tryz.prog 66 #[(iV j5), (iV 8)] lC (fun C3 fL =>
aI (some C3) .i64 fun jH =>
eI fL k3 3 nx ∧
eI fL k3 2 j6 ∧
aa Tryz.prog 66 #[(iV j6), (iV 8)] fL (fun C0 jq =>
aI (some C0) .i64 fun eR =>
eI jq k3 3 nx ∧
eI jq k3 2 j6 ∧
aa Tryz.prog 66 #[(iV nx), (iV 8)] jq (fun Qo dK =>
aI (some Qo) .i64 fun nS =>
eI dK k3 3 nx ∧
eI dK k3 2 j6 ∧
rSS dK k1 0 fun Pq tr pM SF js jX =>
rS dK k1 3 fun Pr qR yg =>
rI dK k3 0 fun tu =>
aP (tu == 1)
 (rI dK k3 2 fun Ps =>
 kQ dK k5 (iV 1) (iV jH) (iV Ps) (iV 0) fun mE =>
 bN mE k5 0 fun MI Pu W3 Pt =>
 K (.agg #[(iV MI), (iV Pu), (iV W3), (iV Pt)]) mE)
 (aP (tu == 2)
 (sT dK k5 0 (iV 2) fun wJ =>
 sT wJ k5 1 (iV jH) fun vJ =>
 sT vJ k5 2 (iV eR) fun pY =>
 sT pY k5 3 (iV 0) fun BX =>
 bN BX k5 0 fun AT yh Kn C7 =>
 K (.agg #[(iV AT), (iV yh), (iV Kn), (iV C7)]) BX)
 (aP (tu == 3)
 (rI dK k3 0 fun Ba =>
 kQ dK k5 (iV Ba) (iV jH) (iV eR) (iV nS) fun qS =>
 bN qS k5 0 fun F8 Pv BT AB =>
 K (.agg #[(iV F8), (iV Pv), (iV BT), (iV AB)]) qS)
 (aP (tu == 4)
 (rI dK k3 0 fun MJ =>
 kQ dK k5 (iV MJ) (iV jH) (iV eR) (iV nS) fun Ng =>
 bN Ng k5 0 fun wA TP X5 MY =>
 K (.agg #[(iV wA), (iV TP), (iV X5), (iV MY)]) Ng)
 (aP (tu == 5)
 (rI dK k3 0 fun SK =>
 kQ dK k5 (iV SK) (iV jH) (iV eR) (iV nS) fun DV =>
 bN DV k5 0 fun Lx Qd MM EG =>
 K (.agg #[(iV Lx), (iV Qd), (iV MM), (iV EG)]) DV)
 (aP (tu == 6)
 (rI dK k3 0 fun mF =>
 kQ dK k5 (iV mF) (iV jH) (iV eR) (iV nS) fun Qy =>
 bN Qy k5 0 fun Kb Kc Nk Yo =>
 K (.agg #[(iV Kb), (iV Kc), (iV Nk), (iV Yo)]) Qy)
 (aP (tu == 7)
 (rI dK k3 1 fun YI =>
 aa Tryz.prog 66 #[(iV YI), (iV (m1 : Int))] dK (fun v88 EP =>
 aI (some v88) .i64 fun SM =>
 kQ EP k5 (iV 7) (iV SM) (iV 0) (iV 0) fun YU =>
 bN YU k5 0 fun Kd Ke n97 WZ =>
 K (.agg #[(iV Kd), (iV Ke), (iV n97), (iV WZ)]) YU) Kp)
 (aP (tu == 8)
 (rI dK k3 2 fun Px =>
 aa Tryz.prog 66 #[(iV Px), (iV (m1 : Int))] dK (fun N5 gP =>
 aI (some N5) .i64 fun MO =>
 kQ gP k5 (iV 8) (iV jH) (iV MO) (iV 0) fun Qz =>
 bN Qz k5 0 fun He De VE MP =>
 K (.agg #[(iV He), (iV De), (iV VE), (iV MP)]) Qz) Kp)
 (aP (tu == 9)
 (rI dK k3 1 fun No =>
 rI dK k3 0 fun zn =>
 aa Tryz.prog 66 #[(iV No), (iV (tr : Int))] dK (fun v113 tP =>
 aI (some v113) .i64 fun n115 =>
 eI tP k3 0 zn ∧
 kQ tP k5 (iV zn) (iV n115) (iV eR) (iV nS) fun yo =>
 eI yo k3 0 zn ∧
 bN yo k5 0 fun zD wO Nq Vl =>
 K (.agg #[(iV zD), (iV wO), (iV Nq), (iV Vl)]) yo) Kp)
 (aP (tu == 11)
 (rI dK k3 1 fun n124 =>
 rI dK k3 0 fun G8 =>
 aa Tryz.prog 66 #[(iV n124), (iV (tr : Int))] dK (fun Uk QA =>
 aI (some Uk) .i64 fun yp =>
 eI QA k3 0 G8 ∧
 kQ QA k5 (iV G8) (iV yp) (iV eR) (iV nS) fun VF =>
 eI VF k3 0 G8 ∧
 bN VF k5 0 fun VG n134 n135 n136 =>
 K (.agg #[(iV VG), (iV n134), (iV n135), (iV n136)]) VF) Kp)
 (aP (tu == 10)
 (rI dK k3 0 fun Vm =>
 kQ dK k5 (iV Vm) (iV jH) (iV 0) (iV 0) fun Dl =>
 bN Dl k5 0 fun Ul n143 NA NB =>
 K (.agg #[(iV Ul), (iV n143), (iV NA), (iV NB)]) Dl)
 (aP (tu == 17)
 (rI dK k3 0 fun NC =>
 kQ dK k5 (iV NC) (iV jH) (iV 0) (iV 0) fun YV =>
 bN YV k5 0 fun Uo Nt n153 n154 =>
 K (.agg #[(iV Uo), (iV Nt), (iV n153), (iV n154)]) YV)
 (aP (tu == 20)
 (rI dK k3 0 fun n155 =>
 kQ dK k5 (iV n155) (iV jH) (iV 0) (iV 0) fun YW =>
 bN YW k5 0 fun zI n161 n162 n163 =>
 K (.agg #[(iV zI), (iV n161), (iV n162), (iV n163)]) YW)
 (aP (tu == 13)
 (aP ((js : Int) == 0)
 (sT dK k5 0 (iV 0) fun NK =>
 sT NK k5 1 (iV 0) fun NL =>
 sT NL k5 2 (iV 0) fun NM =>
 sT NM k5 3 (iV 0) fun Kt =>
 bN Kt k5 0 fun n168 NN NO NP =>
 K (.agg #[(iV n168), (iV NN), (iV NO), (iV NP)]) Kt)
 (rI dK k3 1 fun n172 =>
 rI dK k3 0 fun VH =>
 (True) ∧
 aa Tryz.prog 66 #[(iV n172), (iV (js : Int))] dK (fun v174 YX =>
 aI (some v174) .i64 fun n176 =>
 eI YX k3 0 VH ∧
 aX YX iC fun uY M178 =>
 kQ M178 uY (iV VH) (iV n176) (iV 0) (iV 0) fun Bf =>
 eI Bf k3 0 VH ∧
 rI Bf k3 0 fun n183 =>
 aP (decide (n183 < 15))
 (sT Bf uY 2 (iV eR) fun Hf =>
 rI Hf k3 0 fun UE =>
 aP (UE == 14)
 (sT Hf uY 3 (iV nS) fun YY =>
 bN YY uY 0 fun n187 G6 Vy Vz =>
 kQ YY k5 (iV n187) (iV G6) (iV Vy) (iV Vz) fun YZ =>
 bN YZ k5 0 fun n195 n196 n197 QG =>
 K (.agg #[(iV n195), (iV n196), (iV n197), (iV QG)]) YZ)
 (rI Hf uY 0 fun n199 =>
 rI Hf uY 1 fun n200 =>
 rI Hf uY 2 fun QH =>
 rI Hf uY 3 fun NR =>
 kQ Hf k5 (iV n199) (iV n200) (iV QH) (iV NR) fun Y0 =>
 bN Y0 k5 0 fun n207 VA VB VC =>
 K (.agg #[(iV n207), (iV VA), (iV VB), (iV VC)]) Y0))
 (rI Bf k3 0 fun VD =>
 aP (VD == 14)
 (sT Bf uY 3 (iV nS) fun QI =>
 bN QI uY 0 fun n213 QX QY QZ =>
 kQ QI k5 (iV n213) (iV QX) (iV QY) (iV QZ) fun Y1 =>
 bN Y1 k5 0 fun n221 n222 n223 UM =>
 K (.agg #[(iV n221), (iV n222), (iV n223), (iV UM)]) Y1)
 (rI Bf uY 0 fun n225 =>
 rI Bf uY 1 fun n226 =>
 rI Bf uY 2 fun n227 =>
 rI Bf uY 3 fun n228 =>
 kQ Bf k5 (iV n225) (iV n226) (iV n227) (iV n228) fun Y3 =>
 bN Y3 k5 0 fun n233 n234 n235 n236 =>
 K (.agg #[(iV n233), (iV n234), (iV n235), (iV n236)]) Y3))) Kp))
 (aP (tu == 14)
 (aP ((js : Int) == 0)
 (sT dK k5 0 (iV 0) fun M237 =>
 sT M237 k5 1 (iV 0) fun US =>
 sT US k5 2 (iV 0) fun UT =>
 sT UT k5 3 (iV 0) fun QK =>
 bN QK k5 0 fun n241 n242 UU UW =>
 K (.agg #[(iV n241), (iV n242), (iV UU), (iV UW)]) QK)
 (rI dK k3 1 fun UX =>
 rI dK k3 0 fun VI =>
 (True) ∧
 aa Tryz.prog 66 #[(iV UX), (iV (js : Int))] dK (fun v247 Y4 =>
 aI (some v247) .i64 fun n249 =>
 eI Y4 k3 0 VI ∧
 aX Y4 iC fun uZ M251 =>
 kQ M251 uZ (iV VI) (iV n249) (iV 0) (iV 0) fun Bg =>
 eI Bg k3 0 VI ∧
 rI Bg k3 0 fun n256 =>
 aP (decide (n256 < 15))
 (sT Bg uZ 2 (iV eR) fun Hg =>
 rI Hg k3 0 fun n258 =>
 aP (n258 == 14)
 (sT Hg uZ 3 (iV nS) fun Y5 =>
 bN Y5 uZ 0 fun n260 n261 n262 n263 =>
 kQ Y5 k5 (iV n260) (iV n261) (iV n262) (iV n263) fun E3 =>
 bN E3 k5 0 fun U3 U4 U5 n271 =>
 K (.agg #[(iV U3), (iV U4), (iV U5), (iV n271)]) E3)
 (rI Hg uZ 0 fun n272 =>
 rI Hg uZ 1 fun n273 =>
 rI Hg uZ 2 fun U6 =>
 rI Hg uZ 3 fun n275 =>
 kQ Hg k5 (iV n272) (iV n273) (iV U6) (iV n275) fun Y6 =>
 bN Y6 k5 0 fun n280 n281 U7 n283 =>
 K (.agg #[(iV n280), (iV n281), (iV U7), (iV n283)]) Y6))
 (rI Bg k3 0 fun n284 =>
 aP (n284 == 14)
 (sT Bg uZ 3 (iV nS) fun QM =>
 bN QM uZ 0 fun n286 n287 n288 n289 =>
 kQ QM k5 (iV n286) (iV n287) (iV n288) (iV n289) fun Y7 =>
 bN Y7 k5 0 fun U8 U9 n296 n297 =>
 K (.agg #[(iV U8), (iV U9), (iV n296), (iV n297)]) Y7)
 (rI Bg uZ 0 fun n298 =>
 rI Bg uZ 1 fun n299 =>
 rI Bg uZ 2 fun n300 =>
 rI Bg uZ 3 fun n301 =>
 kQ Bg k5 (iV n298) (iV n299) (iV n300) (iV n301) fun Y8 =>
 bN Y8 k5 0 fun n306 n307 n308 n309 =>
 K (.agg #[(iV n306), (iV n307), (iV n308), (iV n309)]) Y8))) Kp))
 (aP (tu == 15)
 (aP ((js : Int) == 0)
 (sT dK k5 0 (iV 0) fun M310 =>
 sT M310 k5 1 (iV 0) fun M311 =>
 sT M311 k5 2 (iV 0) fun M312 =>
 sT M312 k5 3 (iV 0) fun Y9 =>
 bN Y9 k5 0 fun n314 n315 n316 n317 =>
 K (.agg #[(iV n314), (iV n315), (iV n316), (iV n317)]) Y9)
 (rI dK k3 1 fun n318 =>
 rI dK k3 0 fun VJ =>
 (True) ∧
 aa Tryz.prog 66 #[(iV n318), (iV (js : Int))] dK (fun v320 Za =>
 aI (some v320) .i64 fun n322 =>
 eI Za k3 0 VJ ∧
 aX Za iC fun u5 M324 =>
 kQ M324 u5 (iV VJ) (iV n322) (iV 0) (iV 0) fun Bh =>
 eI Bh k3 0 VJ ∧
 rI Bh k3 0 fun n329 =>
 aP (decide (n329 < 15))
 (sT Bh u5 2 (iV eR) fun Hh =>
 rI Hh k3 0 fun n331 =>
 aP (n331 == 14)
 (sT Hh u5 3 (iV nS) fun Zb =>
 bN Zb u5 0 fun n333 n334 n335 n336 =>
 kQ Zb k5 (iV n333) (iV n334) (iV n335) (iV n336) fun Zc =>
 bN Zc k5 0 fun n341 n342 n343 n344 =>
 K (.agg #[(iV n341), (iV n342), (iV n343), (iV n344)]) Zc)
 (rI Hh u5 0 fun n345 =>
 rI Hh u5 1 fun n346 =>
 rI Hh u5 2 fun n347 =>
 rI Hh u5 3 fun n348 =>
 kQ Hh k5 (iV n345) (iV n346) (iV n347) (iV n348) fun Zd =>
 bN Zd k5 0 fun n353 n354 n355 n356 =>
 K (.agg #[(iV n353), (iV n354), (iV n355), (iV n356)]) Zd))
 (rI Bh k3 0 fun n357 =>
 aP (n357 == 14)
 (sT Bh u5 3 (iV nS) fun Ze =>
 bN Ze u5 0 fun n359 n360 n361 n362 =>
 kQ Ze k5 (iV n359) (iV n360) (iV n361) (iV n362) fun Zf =>
 bN Zf k5 0 fun n367 n368 n369 n370 =>
 K (.agg #[(iV n367), (iV n368), (iV n369), (iV n370)]) Zf)
 (rI Bh u5 0 fun n371 =>
 rI Bh u5 1 fun n372 =>
 rI Bh u5 2 fun n373 =>
 rI Bh u5 3 fun n374 =>
 kQ Bh k5 (iV n371) (iV n372) (iV n373) (iV n374) fun Zg =>
 bN Zg k5 0 fun n379 n380 n381 n382 =>
 K (.agg #[(iV n379), (iV n380), (iV n381), (iV n382)]) Zg))) Kp))
 (aP (tu == 16)
 (aP ((qR : Int) == 0)
 (sT dK k5 0 (iV 0) fun M383 =>
 sT M383 k5 1 (iV 0) fun M384 =>
 sT M384 k5 2 (iV 0) fun M385 =>
 sT M385 k5 3 (iV 0) fun Zh =>
 bN Zh k5 0 fun n387 n388 n389 n390 =>
 K (.agg #[(iV n387), (iV n388), (iV n389), (iV n390)]) Zh)
 (rI dK k3 1 fun n391 =>
 aa Tryz.prog 66 #[(iV n391), (iV (qR : Int))] dK (fun v392 Zi =>
 aI (some v392) .i64 fun Zj =>
 rI Zi k3 2 fun n395 =>
 aa Tryz.prog 66 #[(iV n395), (iV (IntKind.wrap .i64 ((qR : Int) - Zj)))] Zi (fun v396 M397 =>
 aI (some v396) .i64 fun n398 =>
 kQ M397 k5 (iV 16) (iV Zj) (iV (IntKind.wrap .i64 (1 + n398))) (iV nS) fun Zk =>
 bN Zk k5 0 fun n403 n404 n405 n406 =>
 K (.agg #[(iV n403), (iV n404), (iV n405), (iV n406)]) Zk) Kp) Kp))
 (aP (tu == 18)
 (rI dK k1 2 fun n407 =>
 aP (n407 == 0)
 (sT dK k5 0 (iV 0) fun M408 =>
 sT M408 k5 1 (iV 0) fun M409 =>
 sT M409 k5 2 (iV 0) fun M410 =>
 sT M410 k5 3 (iV 0) fun Zl =>
 bN Zl k5 0 fun n412 n413 n414 n415 =>
 K (.agg #[(iV n412), (iV n413), (iV n414), (iV n415)]) Zl)
 (rI dK k3 1 fun n416 =>
 rI dK k1 2 fun n417 =>
 rI dK k3 0 fun VK =>
 aa Tryz.prog 66 #[(iV n416), (iV n417)] dK (fun v419 Zm =>
 aI (some v419) .i64 fun n421 =>
 eI Zm k3 0 VK ∧
 kQ Zm k5 (iV VK) (iV n421) (iV 0) (iV 0) fun VL =>
 eI VL k3 0 VK ∧
 bN VL k5 0 fun n426 n427 n428 n429 =>
 K (.agg #[(iV n426), (iV n427), (iV n428), (iV n429)]) VL) Kp))
 (aP (tu == 19)
 (rI dK k1 2 fun n430 =>
 aP (n430 == 0)
 (sT dK k5 0 (iV 0) fun M431 =>
 sT M431 k5 1 (iV 0) fun M432 =>
 sT M432 k5 2 (iV 0) fun M433 =>
 sT M433 k5 3 (iV 0) fun Zn =>
 bN Zn k5 0 fun n435 n436 n437 n438 =>
 K (.agg #[(iV n435), (iV n436), (iV n437), (iV n438)]) Zn)
 (rI dK k3 1 fun n439 =>
 rI dK k1 2 fun n440 =>
 rI dK k3 0 fun VM =>
 aa Tryz.prog 66 #[(iV n439), (iV n440)] dK (fun v442 Zo =>
 aI (some v442) .i64 fun n444 =>
 eI Zo k3 0 VM ∧
 kQ Zo k5 (iV VM) (iV n444) (iV 0) (iV 0) fun VN =>
 eI VN k3 0 VM ∧
 bN VN k5 0 fun n449 n450 n451 n452 =>
 K (.agg #[(iV n449), (iV n450), (iV n451), (iV n452)]) VN) Kp))
 (aP (tu == 21)
 (rI dK k3 2 fun n453 =>
 aa Tryz.prog 66 #[(iV n453), (iV 1000)] dK (fun v454 M455 =>
 aI (some v454) .i64 fun n456 =>
 kQ M455 k5 (iV 21) (iV jH) (iV (IntKind.wrap .i64 (1 + n456))) (iV 0) fun Zp =>
 bN Zp k5 0 fun n461 n462 n463 n464 =>
 K (.agg #[(iV n461), (iV n462), (iV n463), (iV n464)]) Zp) Kp)
 (aP (tu == 22)
 (rI dK k3 1 fun n465 =>
 aa Tryz.prog 66 #[(iV n465), (iV 1000)] dK (fun v466 M467 =>
 aI (some v466) .i64 fun n468 =>
 kQ M467 k5 (iV 22) (iV n468) (iV 0) (iV 0) fun Zq =>
 bN Zq k5 0 fun n473 n474 n475 n476 =>
 K (.agg #[(iV n473), (iV n474), (iV n475), (iV n476)]) Zq) Kp)
 (rI dK k3 0 fun n477 =>
 kQ dK k5 (iV n477) (iV 0) (iV 0) (iV 0) fun Zr =>
 bN Zr k5 0 fun n482 n483 n484 n485 =>
 K (.agg #[(iV n482), (iV n483), (iV n484), (iV n485)]) Zr)))))))))))))))))))))) Kp) Kp) Kp) Kp) :
 aa Tryz.prog 67 #[.agg #[.slice iW iX iY, .slice iZ ja jb, .int .i64 fD, .slice g9 hG hH], .slice B1 m1 c1, .agg #[.int .i64 MZ, .int .i64 Na, .int .i64 Nb, .int .i64 Nc]] M K Kp := vw [(2, .bS [0, 1, 3, 0, 8, 31, 0, 64, 255, 511, 1023, 2047] (sy [0, 3, 6, 1] (.dD 4 (.dD 7 (sy [2, 5, 8, 9, 10, 11] .done))))), (3, .bS [0, 1, 3, 0, 8, 24, 0, 64, 192, 7, 575, 2047] (sy [0, 3, 6, 1, 2, 9, 4, 5, 10, 7, 8, 11] .done)), (20, .bS [0, 1, 0, 4, 0, 28, 0, 0, 255, 511] (sy [0, 2, 4, 6, 7, 3] (.dD 1 (sy [5, 8, 9] .done)))), (30, .bS [0, 1, 0, 4, 0, 28, 63, 0, 255] (sy [0, 2, 4, 3] (.dD 1 (.late 5 (sy [6, 7, 8] .done))))), (45, .bS [0, 1, 0, 4, 0, 16, 60, 127, 255] (sy [0, 2, 4, 3, 5] (.dD 1 (sy [6, 7, 8] .done))))] Tryz.func67 h
end Go.Proofs
namespace Go.Proofs
open Go.AF
set_option maxRecDepth 100000
theorem sI {x0 : Int} {M : Mem} {K : Value → Mem → Prop} {Kp : List PanicEntry → Mem → Prop} (h :
aX M EC fun k1 M2 =>
TM M2 k1 (iV (if ((if (16 : Int) < x0 then 16 else x0) : Int) > 0 then (if (16 : Int) < x0 then 16 else x0) else 0)) (.slice none 0 0) (.slice none 0 0) (.slice none 0 0) (.bool false) fun M7 =>
TN M7 k1 0 fun n8 A9 fR eu rz cX gT l8 eX dn t18 =>
K (.agg #[(iV n8), (.slice A9 fR eu), (.slice rz cX gT), (.slice l8 eX dn), (.bool t18)]) M7) :
 aa Tryz.prog 161 #[.int .i64 x0] M K Kp := vw [] Tryz.func161 h
end Go.Proofs
namespace Go.Proofs
open Go.AF
set_option maxRecDepth 100000
set_option maxHeartbeats 1000000
attribute [local irreducible] aI c7 fm cy aB eN aE aM aX bk bJ aP
def xM (R : Mem) (vs : List Value) (c : aV) : Prop := ∃ A ca B cb D cd, vs = [.int .i64 (c.room : Int), .slice A c.buf.length ca, .slice B c.snd.length cb, .slice D c.eH.length cd, .bool c.closed] ∧
 RS bl R A ca c.buf ∧ RS gS R B cb c.snd ∧ RS gS R D cd c.eH
theorem xM.le {R R' : Mem} {vs : List Value} {c : aV} (h : xM R vs c) (hle : R.le R') : xM R' vs c := by
 obtain ⟨A, ca, B, cb, D, cd, e, h1, h2, h3⟩ := h
 exact ⟨A, ca, B, cb, D, cd, e, h1.le hle, h2.le hle, h3.le hle⟩
section
variable {R : Mem} {L L' : List HP} {M : Mem} {K : Value → Mem → Prop} {Kp : List PanicEntry → Mem → Prop} {c : aV} {vs : List Value}
theorem BZ {room : Int} (h : Hp R L M) (k : ∀ vs M', Hp R L M' → xM R vs (.new room) → K (.agg vs.toArray) M') : aa Tryz.prog 161 #[.int .i64 room] M K Kp := by
 refine sI ?_
 repeat (first|(refine aj h ?_;clear h;intro kb M h)|(refine au h ?_;clear h;intro M h)|refine St.to h ?_|(apply Exists.intro;(repeat apply Exists.intro);refine And.intro rfl ?_)|refine av ?_|refine ai ?_|refine ae ?_)
 have e : (if (if (16 : Int) < room then 16 else room) > 0 then (if (16 : Int) < room then 16 else room) else 0) = ((zk room : Nat) : Int) := by unfold zk; omega
 rw [e] at h ⊢
 exact k _ _ h.wh ⟨none, 0, none, 0, none, 0, rfl, RS.nil _ _, RS.nil _ _, RS.nil _ _⟩
end
structure RC where
 room : Int
 A : Option Addr
 na : Nat
 ca : Nat
 B : Option Addr
 nb : Nat
 cb : Nat
 D : Option Addr
 nd : Nat
 cd : Nat
 closed : Bool
def VO : hU RC := ⟨5, fun w => [.int .i64 w.room, .slice w.A w.na w.ca, .slice w.B w.nb w.cb, .slice w.D w.nd w.cd, .bool w.closed], fun _ => rfl, fun w v hv => by
 simp only [List.mem_cons, List.not_mem_nil, or_false] at hv; obtain rfl | rfl | rfl | rfl | rfl := hv <;> rfl⟩
def Q1 (R : Mem) (r : RC) (c : aV) : Prop := xM R (VO.f r) c
theorem Q1.le {R R' : Mem} {r : RC} {c : aV} (h : Q1 R r c) (hle : R.le R') : Q1 R' r c := xM.le h hle
theorem xM.rc {R : Mem} {vs : List Value} {c : aV} (h : xM R vs c) : ∃ r, vs = VO.f r ∧ Q1 R r c := by
 obtain ⟨A, ca, B, cb, D, cd, rfl, q1, q2, q3⟩ := id h
 exact ⟨⟨c.room, A, c.buf.length, ca, B, c.snd.length, cb, D, c.eH.length, cd, c.closed⟩, rfl, h⟩
theorem Q1.eq {R : Mem} {r : RC} {c : aV} (h : Q1 R r c) : ∃ A ca B cb D cd, r = ⟨c.room, A, c.buf.length, ca, B, c.snd.length, cb, D, c.eH.length, cd, c.closed⟩ ∧ RS bl R A ca c.buf ∧ RS gS R B cb c.snd ∧ RS gS R D cd c.eH := by
 obtain ⟨A, ca, B, cb, D, cd, e, q1, q2, q3⟩ := h
 obtain ⟨e0, e1, e2, e3, e4, e5, e6, e7, e8, e9, e10⟩ := r
 simp only [VO, List.cons.injEq, Value.int.injEq, Value.slice.injEq, Value.bool.injEq, and_true, true_and] at e
 obtain ⟨rfl, ⟨rfl, rfl, rfl⟩, ⟨rfl, rfl, rfl⟩, ⟨rfl, rfl, rfl⟩, rfl⟩ := e
 exact ⟨_, _, _, _, _, _, rfl, q1, q2, q3⟩
def Hi (R : Mem) (xs : List RC) (cs : List aV) : Prop := xs.length = cs.length ∧ ∀ (i : Nat) (r : RC) (c : aV), xs[i]? = some r → cs[i]? = some c → Q1 R r c
theorem Hi.le {R R' : Mem} {xs : List RC} {cs : List aV} (h : Hi R xs cs) (hle : R.le R') : Hi R' xs cs := ⟨h.1, fun i r c h1 h2 => (h.2 i r c h1 h2).le hle⟩
theorem Hi.nil (R : Mem) : Hi R [] [] := ⟨rfl, fun i r c h => by simp at h⟩
theorem Hi.snoc {R : Mem} {xs : List RC} {cs : List aV} {r : RC} {c : aV} (h : Hi R xs cs) (hr : Q1 R r c) : Hi R (xs ++ [r]) (cs ++ [c]) := by
 refine ⟨by simp [h.1], fun i r' c' h1 h2 => ?_⟩
 rcases Nat.lt_or_ge i xs.length with hl | hl
 ·rw [List.getElem?_append_left hl] at h1; rw [List.getElem?_append_left (by rw [← h.1]; exact hl)] at h2; exact h.2 i _ _ h1 h2
 ·rw [List.getElem?_append_right hl] at h1; rw [List.getElem?_append_right (by rw [← h.1]; exact hl)] at h2
  have : i - xs.length = 0 := by
   obtain ⟨hh, _⟩ := List.getElem?_eq_some_iff.1 h1; simp at hh; omega
  rw [this] at h1; rw [← h.1, this] at h2
  cases h1; cases h2; exact hr
theorem Hi.set {R : Mem} {xs : List RC} {cs : List aV} {r : RC} {c : aV} (h : Hi R xs cs) (i : Nat) (hr : Q1 R r c) : Hi R (xs.set i r) (cs.set i c) := by
 refine ⟨by simp [h.1], fun j r' c' h1 h2 => ?_⟩
 rw [List.getElem?_set] at h1 h2
 split at h1
 ·rename_i e; rw [if_pos e] at h2
  split at h1
  ·split at h2
   ·cases h1; cases h2; exact hr
   ·cases h2
  ·cases h1
 ·rename_i e; rw [if_neg e] at h2; exact h.2 j _ _ h1 h2
end Go.Proofs
namespace Go.Proofs
open Go.AF
set_option maxRecDepth 100000
theorem oV {x0 : Int} {x1 : Int} {M : Mem} {K : Value → Mem → Prop} {Kp : List PanicEntry → Mem → Prop} (h :
aX M ux fun k1 M2 =>
sT11 M2 k1 (iV x0) (iV 0) (iV 0) (iV 0) (iV 0) (iV 0) (iV 0) (iV 0) (iV 0) (iV 0) (iV 0) fun mZ =>
((0 : Int) ≤ 0) ∧
((0 : Int) < 8) ∧
sT mZ k1 (2 + 0) (iV x1) fun kD =>
CW kD k1 0 fun lB oH jH lQ xF eR oG rq nS wI lR =>
aX kD (cl [(iV lB), (iV oH), (iV jH), (iV lQ), (iV xF), (iV eR), (iV oG), (iV rq), (iV nS), (iV wI), (iV lR)] 347) fun pM wD =>
K (.slice (some ⟨pM, 0, none⟩) 1 1) wD) :
 aa Tryz.prog 160 #[.int .i64 x0, .int .i64 x1] M K Kp := vw [] Tryz.func160 h
theorem sJ {iW : Option Addr} {iX iY : Nat} {iZ : Option Addr} {ja jb : Nat} {fD : Int} {g9 : Option Addr} {hG hH : Nat} {M : Mem} {K : Value → Mem → Prop} {Kp : List PanicEntry → Mem → Prop} (h :
aX M (cl [(.slice iW iX iY), (.slice iZ ja jb), (iV fD), (.slice g9 hG hH)] 59) fun k1 M2 =>
aX M2 kf fun k3 M4 =>
lZ M4 k1 0 fun A5 k6 k7 A8 k9 fR ig rz cX gT =>
(True) ∧
aa Tryz.prog 160 #[(iV 0), (iV 0)] M4 (fun C3 fL =>
aB (some C3) fun ID fM jW =>
((Mem.fK fL ⟨k1, 0, none⟩ 0 4) = some [(.slice A5 k6 k7), (.slice A8 k9 fR), (iV ig), (.slice rz cX gT)]) ∧
aX fL (cl [(iV 1), (.slice ID fM jW), (iV 0), (iV 0), (iV 0), (iV 0)] 315) fun iU kj =>
aX kj kf fun gO mD =>
DN mD gO 0 [(.slice A5 k6 k7), (.slice A8 k9 fR), (iV ig), (.slice rz cX gT), (.slice (some ⟨iU, 0, none⟩) 1 1), (.int .u64 0), (.slice none 0 0), (.slice none 0 0), (.slice none 0 0), (.int .u64 0), (.slice none 0 0), (iV 0), (iV 0), (.slice none 0 0)] 14 fun kF =>
((Mem.fK kF ⟨k1, 0, none⟩ 0 4) = some [(.slice A5 k6 k7), (.slice A8 k9 fR), (iV ig), (.slice rz cX gT)]) ∧
rS kF k1 1 fun TQ pM lP =>
∃ I28 : IT, (∃ jX, I28 jX [(iV 0)] kF) ∧
∀ (l9 : Nat) (_ : Nat → Value) (n32 : Int) (sS : Mem), (I28 l9 [(iV n32)] sS) → aP (decide (n32 < pM))
 ((0 ≤ n32) ∧
 (n32 < pM) ∧
 aE TQ fun uF wB =>
 rI sS uF (wB + (Int.toNat n32)) fun vI =>
 ∃ J37 : List Value → Mem → Prop, ((rS sS gO 6 fun Qu sV xD =>
 aa Tryz.prog 161 #[(iV vI)] sS (fun Yp GU =>
 ∃ BS : Int, ∃ A44 : Option Addr, ∃ F5 AA : Nat, ∃ A47 : Option Addr, ∃ Lu Kh : Nat, ∃ A50 : Option Addr, ∃ Kj kS : Nat, ∃ t53 : Bool, (Yp = (.agg #[(iV BS), (.slice A44 F5 AA), (.slice A47 Lu Kh), (.slice A50 Kj kS), (.bool t53)])) ∧
 aX GU (cl [(iV BS), (.slice A44 F5 AA), (.slice A47 Lu Kh), (.slice A50 Kj kS), (.bool t53)] 318) fun DQ qS =>
 aA 75 Qu sV xD (some ⟨DQ, 0, none⟩) 1 1 qS (fun v56 J6 =>
 aB (some v56) fun A58 MK AI =>
 sT J6 gO 6 (.slice A58 MK AI) fun wz =>
 J37 [] wz) Kp) Kp) ∧
 (aa Tryz.prog 161 #[(iV vI)] sS (fun TX AD =>
 ∃ n64 : Int, ∃ Qx : Option Addr, ∃ DS yl : Nat, ∃ Zs : Option Addr, ∃ G0 BY : Nat, ∃ G1 : Option Addr, ∃ ES IQ : Nat, ∃ t74 : Bool, (TX = (.agg #[(iV n64), (.slice Qx DS yl), (.slice Zs G0 BY), (.slice G1 ES IQ), (.bool t74)])) ∧
 rS AD gO 6 fun W8 IN T3 =>
 aX AD (cl [(iV n64), (.slice Qx DS yl), (.slice Zs G0 BY), (.slice G1 ES IQ), (.bool t74)] 318) fun Kl Xa =>
 aA 75 W8 IN T3 (some ⟨Kl, 0, none⟩) 1 1 Xa (fun v80 Nl =>
 aB (some v80) fun A82 DU Vh =>
 sT Nl gO 6 (.slice A82 DU Vh) fun M85 =>
 J37 [] M85) Kp) Kp) ∧
 True) ∧
 ∀ junk86 : Nat → Value, ∀ E0 : Mem, (J37 [] E0) → ∃ Km : Nat, (Km < l9) ∧
 I28 Km [(iV (IntKind.wrap .i64 (n32 + 1)))] E0)
 (rI sS k1 2 fun SN =>
 bk Tryz.prog (Go.Instr.makeSlice 76 (iV SN) (iV SN)) sS (fun Nh mK =>
 aB (some Nh) fun T5 Nn Qq =>
 sT mK gO 7 (.slice T5 Nn Qq) fun DX =>
 rW DX gO fun l96 =>
 DN DX k3 0 l96 14 fun F7 =>
 rW F7 k3 fun l98 =>
 K (.agg (l98.toArray)) F7) Kp)) Kp) :
 aa Tryz.prog 123 #[.agg #[.slice iW iX iY, .slice iZ ja jb, .int .i64 fD, .slice g9 hG hH]] M K Kp := vw [(1, .bS [0, 0, 2, 6, 15, 0, 63] (.dD 0 (.late 1 (sy [2, 3, 4, 5, 6] .done)))), (2000000, .loop [(14, .c (.int .i64))]), (5, .CS [0, 1, 0, 4, 12, 31, 63, 127] (sy [0, 2] (.fork 1 (sy [3, 4, 5, 6, 7] .done) (.fork 3 (sy [1, 4, 5, 6, 7] .done) .dead))) [])] Tryz.func123 h
theorem sK {iW : Option Addr} {iX iY : Nat} {iZ : Option Addr} {ja jb : Nat} {fD : Int} {g9 : Option Addr} {hG hH : Nat} {cL : Int} {cN : Int} {cR : Int} {eY : Int} {Zt : Option Addr} {Zu Zv : Nat} {Zw : Option Addr} {Zx Zy : Nat} {Zz : Bool} {ZA : Bool} {ZB : Option Addr} {ZC ZD : Nat} {M : Mem} {K : Value → Mem → Prop} {Kp : List PanicEntry → Mem → Prop} (h :
aX M (cl [(.slice iW iX iY), (.slice iZ ja jb), (iV fD), (.slice g9 hG hH)] 59) fun k1 M2 =>
aX M2 (cl [(iV cL), (iV cN), (iV cR), (iV eY)] 23) fun k3 M4 =>
aX M4 (cl [(.slice Zt Zu Zv), (.slice Zw Zx Zy), (.bool Zz), (.bool ZA), (.slice ZB ZC ZD)] 86) fun k5 M6 =>
aX M6 cj fun k7 M8 =>
lZ M8 k1 0 fun A9 fR eu rz cX gT lB Lv dn fM =>
bN M8 k3 0 fun xF eR oG rq =>
TO M8 k5 0 fun Po mX tr Bb lP js t29 t30 MW yg vH =>
(True) ∧
(True) ∧
aa Tryz.prog 123 #[(.agg #[(.slice A9 fR eu), (.slice rz cX gT), (iV lB), (.slice Lv dn fM)])] M8 (fun v34 vK =>
xW v34 fun Yh X3 v38 v39 Kg Yp v42 X7 v44 v45 Uf Yq v48 GI =>
((Mem.fK vK ⟨k5, 0, none⟩ 0 5) = some [(.slice Po mX tr), (.slice Bb lP js), (.bool t29), (.bool t30), (.slice MW yg vH)]) ∧
((Mem.fK vK ⟨k3, 0, none⟩ 0 4) = some [(iV xF), (iV eR), (iV oG), (iV rq)]) ∧
aX vK Mv fun ye WY =>
aX WY cj fun kS GW =>
DN GW kS 0 [(iV xF), (iV eR), (iV oG), (iV rq), Yh, X3, v38, v39, Kg, Yp, v42, X7, v44, v45, Uf, Yq, v48, GI, (.slice none 0 0), (.slice none 0 0), (.slice (some ⟨ye, 0, none⟩) 1 1), (.slice Po mX tr), (.slice Bb lP js), (.bool t29), (.bool t30), (.slice MW yg vH), (iV 0)] 27 fun J5 =>
((Mem.fK J5 ⟨k5, 0, none⟩ 0 5) = some [(.slice Po mX tr), (.slice Bb lP js), (.bool t29), (.bool t30), (.slice MW yg vH)]) ∧
((Mem.fK J5 ⟨k3, 0, none⟩ 0 4) = some [(iV xF), (iV eR), (iV oG), (iV rq)]) ∧
∃ I55 : IT, (∃ IM, I55 IM [(iV 0)] J5) ∧
∀ (wK : Nat) (_ : Nat → Value) (AB : Int) (vG : Mem), (I55 wK [(iV AB)] vG) → rI vG k3 0 fun Ka =>
aP (decide (AB < Ka))
 (∃ J62 : List Value → Mem → Prop, (rI vG k3 2 fun yf =>
 (rS vG kS 18 fun Yf Yg DS =>
 aa Tryz.prog 124 #[(iV yf)] vG (fun v67 Ub =>
 ∃ SK : Int, ∃ A70 : Option Addr, ∃ Kk ES : Nat, ∃ ML : Int, (v67 = (.agg #[(iV SK), (.slice A70 Kk ES), (iV ML)])) ∧
 aX Ub (cl [(iV SK), (.slice A70 Kk ES), (iV ML), (iV 0), (iV (-1))] 257) fun Pw xL =>
 aA 82 Yf Yg DS (some ⟨Pw, 0, none⟩) 1 1 xL (fun Yr Qt =>
 aB (some Yr) fun Ys IP ET =>
 sT Qt kS 18 (.slice Ys IP ET) fun Nl =>
 J62 [] Nl) Kp) Kp) ∧
 (aa Tryz.prog 124 #[(iV yf)] vG (fun v82 C9 =>
 ∃ Kc : Int, ∃ A85 : Option Addr, ∃ DW Qp : Nat, ∃ n88 : Int, (v82 = (.agg #[(iV Kc), (.slice A85 DW Qp), (iV n88)])) ∧
 rS C9 kS 18 fun A89 k90 Nm =>
 aX C9 (cl [(iV Kc), (.slice A85 DW Qp), (iV n88), (iV 0), (iV (-1))] 257) fun Ko Dg =>
 aA 82 A89 k90 Nm (some ⟨Ko, 0, none⟩) 1 1 Dg (fun v94 DX =>
 aB (some v94) fun A96 W7 Ks =>
 sT DX kS 18 (.slice A96 W7 Ks) fun Qr =>
 J62 [] Qr) Kp) Kp) ∧
 True) ∧
 ∀ junk100 : Nat → Value, ∀ gP : Mem, (J62 [] gP) → ∃ ER : Nat, (ER < wK) ∧
 I55 ER [(iV (IntKind.wrap .i64 (AB + 1)))] gP)
 (∃ VP : IT, (∃ uV, VP uV [(iV 0)] vG) ∧
 ∀ (ZE : Nat) (_ : Nat → Value) (He : Int) (Bd : Mem), (VP ZE [(iV He)] Bd) → rI Bd k3 1 fun VE =>
 aP (decide (He < VE))
 (rS Bd kS 19 fun VQ VR yu =>
 aX Bd (cl [(iV (-1)), (iV (-1)), (iV 0)] 259) fun Di tP =>
 aA 83 VQ VR yu (some ⟨Di, 0, none⟩) 1 1 tP (fun v115 uU =>
 aB (some v115) fun N2 Kx zH =>
 sT uU kS 19 (.slice N2 Kx zH) fun M120 =>
 ∃ Ky : Nat, (Ky < ZE) ∧
 VP Ky [(iV (IntKind.wrap .i64 (He + 1)))] M120) Kp)
 (D0 (Mem.fK Bd ⟨kS, 0, none⟩ 0 27) fun l122 =>
 DN Bd k7 0 l122 27 fun Kw =>
 D0 (Mem.fK Kw ⟨k7, 0, none⟩ 0 27) fun l124 =>
 K (.agg (l124.toArray)) Kw))) Kp) :
 aa Tryz.prog 78 #[.agg #[.slice iW iX iY, .slice iZ ja jb, .int .i64 fD, .slice g9 hG hH], .agg #[.int .i64 cL, .int .i64 cN, .int .i64 cR, .int .i64 eY], .agg #[.slice Zt Zu Zv, .slice Zw Zx Zy, .bool Zz, .bool ZA, .slice ZB ZC ZD]] M K Kp := vw [(1, .bS [0, 0, 2, 0, 0, 31, 0, 127] (sy [1] (.dD 0 (.dD 4 (.late 2 (sy [3, 5, 6, 7] .done)))))), (2000000, .loop [(8, .c (.int .i64))]), (5, .CS [0, 1, 0, 4, 12, 28, 60, 127, 255, 511] (sy [0, 2, 3] (.fork 1 (sy [4, 5, 6, 7, 8, 9] .done) (.fork 4 (sy [5, 1, 6, 7, 8, 9] .done) .dead))) []), (2000002, .loop [(9, .c (.int .i64))])] Tryz.func78 h
theorem qk {iW : Option Addr} {iX iY : Nat} {iZ : Option Addr} {ja jb : Nat} {fD : Int} {g9 : Option Addr} {hG hH : Nat} {cL : Int} {cN : Int} {cR : Int} {eY : Int} {B2 : Option Addr} {m2 c2 : Nat} {M : Mem} {K : Value → Mem → Prop} {Kp : List PanicEntry → Mem → Prop} (h :
aX M (cl [(.slice iW iX iY), (.slice iZ ja jb), (iV fD), (.slice g9 hG hH)] 59) fun k1 M2 =>
aX M2 (cl [(iV cL), (iV cN), (iV cR), (iV eY)] 23) fun k3 M4 =>
aX M4 cj fun k5 M6 =>
lZ M6 k1 0 fun A7 k8 k9 BR eu gJ j6 qQ iF eX =>
aa Tryz.prog 24 #[(.agg #[(.slice A7 k8 k9), (.slice BR eu gJ), (iV j6), (.slice qQ iF eX)])] M6 (fun T0 rD =>
∃ yM : Option Addr, ∃ iU fV : Nat, ∃ GV : Option Addr, ∃ iM mX : Nat, ∃ lR : Int, ∃ Bb : Option Addr, ∃ lP js : Nat, (T0 = (.agg #[(.slice yM iU fV), (.slice GV iM mX), (iV lR), (.slice Bb lP js)])) ∧
aX rD wu fun jX ru =>
kQ ru jX (.slice yM iU fV) (.slice GV iM mX) (iV lR) (.slice Bb lP js) fun m5 =>
aa Tryz.prog 16 #[(.slice B2 m2 c2)] m5 (fun v35 F3 =>
cy (some v35) fun GX =>
lZ F3 jX 0 fun Qu sV xD Qm F4 ko AE X8 AA EF =>
bN F3 k3 0 fun yh Kn C7 Ba =>
lZ F3 jX 0 fun Qb nR DQ Ua IM wK BT Ue AI Qv =>
bN F3 k3 0 fun IL yf n64 wA =>
aa Tryz.prog 25 #[(.agg #[(.slice Qu sV xD), (.slice Qm F4 ko), (iV AE), (.slice X8 AA EF)])] F3 (fun v66 W2 =>
∃ Zs : Option Addr, ∃ G0 BY : Nat, ∃ G1 : Option Addr, ∃ ES IQ : Nat, ∃ Lx : Int, ∃ W8 : Option Addr, ∃ IN T3 : Nat, (v66 = (.agg #[(.slice Zs G0 BY), (.slice G1 ES IQ), (iV Lx), (.slice W8 IN T3)])) ∧
((Mem.fK W2 ⟨k3, 0, none⟩ 0 4) = some [(iV IL), (iV yf), (iV n64), (iV wA)]) ∧
((Mem.fK W2 ⟨jX, 0, none⟩ 0 4) = some [(.slice Qb nR DQ), (.slice Ua IM wK), (iV BT), (.slice Ue AI Qv)]) ∧
((Mem.fK W2 ⟨k3, 0, none⟩ 0 4) = some [(iV yh), (iV Kn), (iV C7), (iV Ba)]) ∧
aa Tryz.prog 15 #[(.agg #[(.slice Zs G0 BY), (.slice G1 ES IQ), (iV Lx), (.slice W8 IN T3)]), (.agg #[(iV yh), (iV Kn), (iV C7), (iV Ba)]), (.pointer GX)] W2 (fun v78 Xa =>
cy (some v78) fun A80 =>
((Mem.fK Xa ⟨k3, 0, none⟩ 0 4) = some [(iV IL), (iV yf), (iV n64), (iV wA)]) ∧
((Mem.fK Xa ⟨jX, 0, none⟩ 0 4) = some [(.slice Qb nR DQ), (.slice Ua IM wK), (iV BT), (.slice Ue AI Qv)]) ∧
((Mem.fK Xa ⟨k3, 0, none⟩ 0 4) = some [(iV yh), (iV Kn), (iV C7), (iV Ba)]) ∧
aa Tryz.prog 78 #[(.agg #[(.slice Qb nR DQ), (.slice Ua IM wK), (iV BT), (.slice Ue AI Qv)]), (.agg #[(iV IL), (iV yf), (iV n64), (iV wA)]), (.agg #[(.slice B2 m2 c2), (.slice none 0 0), (.bool false), (.bool false), (.slice none 0 0)])] Xa (fun v81 Qy =>
∃ l83 : List Value, ((l83.length) = 27) ∧
(v81 = (.agg (l83.toArray))) ∧
((Mem.fK Qy ⟨k3, 0, none⟩ 0 4) = some [(iV IL), (iV yf), (iV n64), (iV wA)]) ∧
((Mem.fK Qy ⟨jX, 0, none⟩ 0 4) = some [(.slice Qb nR DQ), (.slice Ua IM wK), (iV BT), (.slice Ue AI Qv)]) ∧
((Mem.fK Qy ⟨k3, 0, none⟩ 0 4) = some [(iV yh), (iV Kn), (iV C7), (iV Ba)]) ∧
DN Qy k5 0 l83 27 fun EU =>
((Mem.fK EU ⟨k3, 0, none⟩ 0 4) = some [(iV IL), (iV yf), (iV n64), (iV wA)]) ∧
((Mem.fK EU ⟨jX, 0, none⟩ 0 4) = some [(.slice Qb nR DQ), (.slice Ua IM wK), (iV BT), (.slice Ue AI Qv)]) ∧
((Mem.fK EU ⟨k3, 0, none⟩ 0 4) = some [(iV yh), (iV Kn), (iV C7), (iV Ba)]) ∧
D0 (Mem.fK EU ⟨k5, 0, none⟩ 0 27) fun l85 =>
K (.tuple #[(.pointer A80), (.agg (l85.toArray)), (.pointer GX)]) EU) Kp) Kp) Kp) Kp) Kp) :
 aa Tryz.prog 32 #[.agg #[.slice iW iX iY, .slice iZ ja jb, .int .i64 fD, .slice g9 hG hH], .agg #[.int .i64 cL, .int .i64 cN, .int .i64 cR, .int .i64 eY], .slice B2 m2 c2] M K Kp := vw [(3, .bS [0, 1, 0, 0, 15, 0, 0, 0, 128, 511, 0, 1023, 3071, 8191] (sy [3, 7, 8, 10, 0] (.dD 2 (.dD 5 (.dD 6 (sy [1, 4, 9, 11, 12, 13] .done))))))] Tryz.func32 h
theorem lS {iW : Option Addr} {iX iY : Nat} {iZ : Option Addr} {ja jb : Nat} {fD : Int} {g9 : Option Addr} {hG hH : Nat} {cL : Int} {cN : Int} {cR : Int} {eY : Int} {B2 : Option Addr} {m2 c2 : Nat} {x3 : Int} {M : Mem} {K : Value → Mem → Prop} {Kp : List PanicEntry → Mem → Prop} (h :
aX M (cl [(.slice iW iX iY), (.slice iZ ja jb), (iV fD), (.slice g9 hG hH)] 59) fun k1 M2 =>
aX M2 (cl [(iV cL), (iV cN), (iV cR), (iV eY)] 23) fun k3 M4 =>
aa Tryz.prog 31 #[] M4 (fun v5 M6 =>
c7 (some v5) fun t7 =>
aP (!t7)
 (K (.bool false) M6)
 (((0 : Int) ≤ c2) ∧
 ((c2 : Int) ≤ c2) ∧
 ((0 : Int) ≤ (if (100 : Int) < (m2 : Int) then 100 else (m2 : Int))) ∧
 (((if (100 : Int) < (m2 : Int) then 100 else (m2 : Int)) : Int) ≤ (c2 : Int)) ∧
 ((0 : Int) ≤ 0) ∧
 ((0 : Int) ≤ (if (100 : Int) < (m2 : Int) then 100 else (m2 : Int))) ∧
 bN M6 k3 0 fun n8 n9 lE ig =>
 lZ M6 k1 0 fun rz cX gT l8 eX dn lQ yM iU fV =>
 (True) ∧
 aa Tryz.prog 14 #[(.agg #[(iV n8), (iV n9), (iV lE), (iV ig)])] M6 (fun GK mD =>
 ∃ wI lR oM wH : Int, (GK = (.agg #[(iV wI), (iV lR), (iV oM), (iV wH)])) ∧
 ((Mem.fK mD ⟨k1, 0, none⟩ 0 4) = some [(.slice rz cX gT), (.slice l8 eX dn), (iV lQ), (.slice yM iU fV)]) ∧
 (True) ∧
 aa Tryz.prog 32 #[(.agg #[(.slice rz cX gT), (.slice l8 eX dn), (iV lQ), (.slice yM iU fV)]), (.agg #[(iV wI), (iV lR), (iV oM), (iV wH)]), (.slice (lO B2 0 (Int.toNat (c2 : Int)) 1) ((Int.toNat (if (100 : Int) < (m2 : Int) then 100 else (m2 : Int))) - 0) ((Int.toNat (c2 : Int)) - 0))] mD (fun Qg mY =>
 ∃ Pr : Option Addr, ∃ l31 : List Value, ((l31.length) = 27) ∧
 ∃ A32 : Option Addr, (Qg = (.tuple #[(.pointer Pr), (.agg (l31.toArray)), (.pointer A32)])) ∧
 ((Mem.fK mY ⟨k1, 0, none⟩ 0 4) = some [(.slice rz cX gT), (.slice l8 eX dn), (iV lQ), (.slice yM iU fV)]) ∧
 aX mY cj fun vH m5 =>
 DN m5 vH 0 l31 27 fun vK =>
 ((Mem.fK vK ⟨k1, 0, none⟩ 0 4) = some [(.slice rz cX gT), (.slice l8 eX dn), (iV lQ), (.slice yM iU fV)]) ∧
 aX vK (cl [] 3) fun BV xK =>
 aX xK Mw fun fW Nf =>
 sT Nf fW 0 (.slice (some ⟨BV, 0, none⟩) 0 0) fun Qj =>
 aX Qj (cl [] 3) fun zm GU =>
 aX GU Mw fun ko vJ =>
 sT vJ ko 0 (.slice (some ⟨zm, 0, none⟩) 0 0) fun pY =>
 aa Tryz.prog 33 #[(.pointer Pr), (.pointer A32), (iV (IntKind.wrap .i64 (((Nat.bitwise and (BitVec.ofInt IntKind.i64.bits x3).toNat (BitVec.ofInt IntKind.i64.bits 255).toNat) : Nat) : Int))), (.func (.func 34) #[] #[(.pointer (some ⟨fW, 0, none⟩)), (.pointer (some ⟨ko, 0, none⟩))])] pY (fun Uf pT =>
 ∃ Lw : Option Addr, ∃ Kh ye : Nat, ∃ Pp : Option Addr, ∃ kS nR : Nat, ∃ Qn SI F8 Pv BT AB : Int, (Uf = (.tuple #[(.agg #[(.slice Lw Kh ye), (.slice Pp kS nR)]), (iV Qn), (.agg #[(iV SI), (iV F8), (iV Pv), (iV BT), (.int .u64 AB)])])) ∧
 aX pT yJ fun AI wz =>
 aX wz jA fun EO AD =>
 XS AD AI (.slice Lw Kh ye) (.slice Pp kS nR) fun M65 =>
 TM M65 EO (iV SI) (iV F8) (iV Pv) (iV BT) (.int .u64 AB) fun EM =>
 rS EM fW 0 fun G1 ES IQ =>
 ∃ ZF : IT, (∃ Uc, ZF Uc [(iV 0), (iV 0)] EM) ∧
 ∀ (IN : Nat) (_ : Nat → Value) (mF : Int) (E5 : Int) (jn : Mem), (ZF IN [(iV mF), (iV E5)] jn) → aP (decide (E5 < ES))
 ((0 ≤ E5) ∧
 (E5 < ES) ∧
 aE G1 fun Ni GZ =>
 rI jn Ni (GZ + (Int.toNat E5)) fun Kb =>
 aP (Kb != 1)
 (aP (Kb != 7)
 (∃ Vh : Nat, (Vh < IN) ∧
 ZF Vh [(iV mF), (iV (IntKind.wrap .i64 (E5 + 1)))] jn)
 (rS jn AI 0 fun A85 DW Qp =>
 aP (decide (mF ≥ DW))
 (K (.bool false) jn)
 (rS jn AI 1 fun A88 k89 k90 =>
 (0 ≤ mF) ∧
 (mF < k89) ∧
 aE A88 fun Nm Ko =>
 rI jn Nm (Ko + (Int.toNat mF)) fun QT =>
 aP (QT != E5)
 (K (.bool false) jn)
 (rS jn AI 0 fun A94 k95 T6 =>
 (0 ≤ mF) ∧
 (mF < k95) ∧
 aE A94 fun W7 Ks =>
 rB jn W7 (Ks + ((Int.toNat mF) * 3)) fun t99 =>
 aP (!(t99 == (Kb == 1)))
 (K (.bool false) jn)
 (rS jn AI 0 fun T7 T8 ER =>
 (0 ≤ mF) ∧
 (mF < T8) ∧
 aE T7 fun kH uV =>
 rI jn kH ((uV + ((Int.toNat mF) * 3)) + 1) fun Vi =>
 rS jn ko 0 fun A106 Bc YK =>
 (0 ≤ E5) ∧
 (E5 < Bc) ∧
 aE A106 fun Dh E1 =>
 rI jn Dh (E1 + (Int.toNat E5)) fun No =>
 aP (Vi != No)
 (K (.bool false) jn)
 (∃ yu : Nat, (yu < IN) ∧
 ZF yu [(iV (IntKind.wrap .i64 (mF + 1))), (iV (IntKind.wrap .i64 (E5 + 1)))] jn))))))
 (rS jn AI 0 fun Yv Np Yw =>
 aP (decide (mF ≥ Np))
 (K (.bool false) jn)
 (rS jn AI 1 fun A116 G7 Kx =>
 (0 ≤ mF) ∧
 (mF < G7) ∧
 aE A116 fun zH NY =>
 rI jn zH (NY + (Int.toNat mF)) fun wO =>
 aP (wO != E5)
 (K (.bool false) jn)
 (rS jn AI 0 fun G5 Dj EW =>
 (0 ≤ mF) ∧
 (mF < Dj) ∧
 aE G5 fun Nr N3 =>
 rB jn Nr (N3 + ((Int.toNat mF) * 3)) fun t127 =>
 aP (!(t127 == (Kb == 1)))
 (K (.bool false) jn)
 (rS jn AI 0 fun NZ G9 QN =>
 (0 ≤ mF) ∧
 (mF < G9) ∧
 aE NZ fun Kz yq =>
 rI jn Kz ((yq + ((Int.toNat mF) * 3)) + 1) fun VG =>
 rS jn ko 0 fun N4 yw qh =>
 (0 ≤ E5) ∧
 (E5 < yw) ∧
 aE N4 fun k137 uX =>
 rI jn k137 (uX + (Int.toNat E5)) fun n139 =>
 aP (VG != n139)
 (K (.bool false) jn)
 (∃ QS : Nat, (QS < IN) ∧
 ZF QS [(iV (IntKind.wrap .i64 (mF + 1))), (iV (IntKind.wrap .i64 (E5 + 1)))] jn))))))
 (rS jn AI 0 fun A141 k142 QV =>
 aP (mF == (k142 : Int))
 (rS jn AI 1 fun A144 Un k146 =>
 aP ((Un : Int) == mF)
 (rS jn fW 0 fun ND E2 NF =>
 aa Tryz.prog 35 #[(.pointer Pr)] jn (fun Vq uW =>
 aI (some Vq) .i64 fun Nt =>
 eS uW fW 0 ND E2 NF ∧
 K (.bool (Nt == (E2 : Int))) uW) Kp)
 (K (.bool false) jn))
 (K (.bool false) jn))) Kp) Kp) Kp)) Kp) :
 aa Tryz.prog 6 #[.agg #[.slice iW iX iY, .slice iZ ja jb, .int .i64 fD, .slice g9 hG hH], .agg #[.int .i64 cL, .int .i64 cN, .int .i64 cR, .int .i64 eY], .slice B2 m2 c2, .int .i64 x3] M K Kp := vw [(3, .bS [0, 0, 2, 0, 0, 16, 48, 120, 255, 511, 1023, 1023, 1023, 0, 10239, 28671, 65535] (sy [3, 4, 5, 6, 7, 1] (.dD 0 (.late 2 (.late 8 (sy [9, 10, 11, 12, 13, 14, 15, 16] .done)))))), (2000000, .loop [(17, .c (.int .i64)), (49, .c (.int .i64))]), (12, .bS [0, 0, 2, 6, 15, 31, 63, 127, 63, 511, 1023, 63, 4095, 8191, 16383, 32767, 65535, 32767, 262143, 524287, 1048575, 32767, 2129919, 8388607, 16777215, 33554431, 67108863, 134217727, 67108863, 536870911, 1073741823, 2147483647, 67108863, 67108863, 12952010751, 30131879935, 68719476735, 137438953471] (sy [0, 1, 2, 3, 4, 5, 6, 8, 11, 7, 9, 10, 12, 13, 14, 15, 17, 21, 22, 16, 18, 19, 20, 23, 24, 25, 26, 28, 33, 27, 29, 30, 31, 32, 34, 35, 36, 37] .done)), (16, .bS [0, 0, 2, 6, 15, 31, 63, 127, 255, 63, 1023, 2047, 4095, 8191, 16383, 8191, 40959, 131071, 262143, 524287] (sy [0, 1, 2, 3, 4, 5, 6, 9, 7, 8, 10, 11, 12, 13] (.dD 15 (sy [16, 14, 17, 18, 19] .done))))] Tryz.func6 h
theorem kI {zq : Int} {zu : Int} {fD : Int} {g9 : Option Addr} {hG hH : Nat} {b1 o1 : Nat} {b2 o2 : Nat} {M : Mem} {K : Value → Mem → Prop} {Kp : List PanicEntry → Mem → Prop} (h :
aX M (cl [(iV zq), (iV zu), (iV fD), (.slice g9 hG hH)] 43) fun k1 M2 =>
∃ J3 : List Value → Mem → Prop, (rS M2 b1 o1 fun A4 k5 k6 =>
 rI M2 k1 0 fun n7 =>
 rI M2 k1 2 fun n8 =>
 (aX M2 (cl [(iV n7)] 3) fun k9 iE =>
 (aA 36 A4 k5 k6 (some ⟨k9, 0, none⟩) 1 1 iE (fun v11 oF =>
 aB (some v11) fun F2 gT iF =>
 eI oF k1 2 n8 ∧
 rS oF b2 o2 fun Lv dn fM =>
 aX oF (cl [(iV n8)] 3) fun jW uE =>
 aA 36 Lv dn fM (some ⟨jW, 0, none⟩) 1 1 uE (fun Qo dK =>
 aB (some Qo) fun Po mX tr =>
 eI dK k1 2 n8 ∧
 sT dK b1 o1 (.slice F2 gT iF) fun wG =>
 eI wG k1 2 n8 ∧
 sT wG b2 o2 (.slice Po mX tr) fun wD =>
 eI wD k1 2 n8 ∧
 J3 [] wD) Kp) Kp) ∧
 (rS iE b2 o2 fun TT jX l9 =>
 (True) ∧
 aA 36 A4 k5 k6 (some ⟨k9, 0, none⟩) 1 1 iE (fun P9 pN =>
 aB (some P9) fun GJ uF wB =>
 eI pN k1 2 n8 ∧
 aX pN (cl [(iV n8)] 3) fun BV xK =>
 aA 36 TT jX l9 (some ⟨BV, 0, none⟩) 1 1 xK (fun v38 Nf =>
 aB (some v38) fun A40 zm F4 =>
 eI Nf k1 2 n8 ∧
 sT Nf b1 o1 (.slice GJ uF wB) fun wJ =>
 eI wJ k1 2 n8 ∧
 sT wJ b2 o2 (.slice A40 zm F4) fun vJ =>
 eI vJ k1 2 n8 ∧
 J3 [] vJ) Kp) Kp) ∧
 (aX iE (cl [(iV n8)] 3) fun F5 BX =>
 (aA 36 A4 k5 k6 (some ⟨k9, 0, none⟩) 1 1 BX (fun Yq IC =>
 aB (some Yq) fun Ui ye Kj =>
 eI IC k1 2 n8 ∧
 rS IC b2 o2 fun Qb nR DQ =>
 aA 36 Qb nR DQ (some ⟨F5, 0, none⟩) 1 1 IC (fun TR Lt =>
 aB (some TR) fun Qc xE MK =>
 eI Lt k1 2 n8 ∧
 sT Lt b1 o1 (.slice Ui ye Kj) fun vG =>
 eI vG k1 2 n8 ∧
 sT vG b2 o2 (.slice Qc xE MK) fun wz =>
 eI wz k1 2 n8 ∧
 J3 [] wz) Kp) Kp) ∧
 (rS BX b2 o2 fun A62 GY k64 =>
 aA 36 A4 k5 k6 (some ⟨k9, 0, none⟩) 1 1 BX (fun v65 Qi =>
 aB (some v65) fun Ym DT G0 =>
 eI Qi k1 2 n8 ∧
 aA 36 A62 GY k64 (some ⟨F5, 0, none⟩) 1 1 Qi (fun v70 zC =>
 aB (some v70) fun W4 IQ Pw =>
 eI zC k1 2 n8 ∧
 sT zC b1 o1 (.slice Ym DT G0) fun xL =>
 eI xL k1 2 n8 ∧
 sT xL b2 o2 (.slice W4 IQ Pw) fun W0 =>
 eI W0 k1 2 n8 ∧
 J3 [] W0) Kp) Kp) ∧
 True) ∧
 True) ∧
 (rS M2 b2 o2 fun Yn Kl IP =>
 aX M2 (cl [(iV n7)] 3) fun ET Nl =>
 (True) ∧
 aA 36 A4 k5 k6 (some ⟨ET, 0, none⟩) 1 1 Nl (fun v82 C9 =>
 aB (some v82) fun YH IS DW =>
 eI C9 k1 2 n8 ∧
 aX C9 (cl [(iV n8)] 3) fun Qp Ur =>
 aA 36 Yn Kl IP (some ⟨Qp, 0, none⟩) 1 1 Ur (fun v89 SL =>
 aB (some v89) fun A91 Ko Nn =>
 eI SL k1 2 n8 ∧
 sT SL b1 o1 (.slice YH IS DW) fun YU =>
 eI YU k1 2 n8 ∧
 sT YU b2 o2 (.slice A91 Ko Nn) fun DX =>
 eI DX k1 2 n8 ∧
 J3 [] DX) Kp) Kp) ∧
 (aX M2 (cl [(iV n8)] 3) fun T6 F7 =>
 (aX F7 (cl [(iV n7)] 3) fun Ks Qr =>
 (aA 36 A4 k5 k6 (some ⟨Ks, 0, none⟩) 1 1 Qr (fun N5 gP =>
 aB (some N5) fun wP kH uV =>
 eI gP k1 2 n8 ∧
 rS gP b2 o2 fun zE uQ Bc =>
 aA 36 zE uQ Bc (some ⟨T6, 0, none⟩) 1 1 gP (fun v108 pO =>
 aB (some v108) fun VQ VR yu =>
 eI pO k1 2 n8 ∧
 sT pO b1 o1 (.slice wP kH uV) fun QU =>
 eI QU k1 2 n8 ∧
 sT QU b2 o2 (.slice VQ VR yu) fun tP =>
 eI tP k1 2 n8 ∧
 J3 [] tP) Kp) Kp) ∧
 (rS Qr b2 o2 fun NX E4 G7 =>
 aA 36 A4 k5 k6 (some ⟨Ks, 0, none⟩) 1 1 Qr (fun v118 yo =>
 aB (some v118) fun Vj Ky Vk =>
 eI yo k1 2 n8 ∧
 aA 36 NX E4 G7 (some ⟨T6, 0, none⟩) 1 1 yo (fun v123 sE =>
 aB (some v123) fun A125 N3 k127 =>
 eI sE k1 2 n8 ∧
 sT sE b1 o1 (.slice Vj Ky Vk) fun ZG =>
 eI ZG k1 2 n8 ∧
 sT ZG b2 o2 (.slice A125 N3 k127) fun ZH =>
 eI ZH k1 2 n8 ∧
 J3 [] ZH) Kp) Kp) ∧
 True) ∧
 (rS F7 b2 o2 fun A130 Kz yq =>
 aX F7 (cl [(iV n7)] 3) fun EY G3 =>
 aA 36 A4 k5 k6 (some ⟨EY, 0, none⟩) 1 1 G3 (fun v135 QB =>
 aB (some v135) fun YL uX QO =>
 eI QB k1 2 n8 ∧
 aA 36 A130 Kz yq (some ⟨T6, 0, none⟩) 1 1 QB (fun v140 Dl =>
 aB (some v140) fun A142 QV Um =>
 eI Dl k1 2 n8 ∧
 sT Dl b1 o1 (.slice YL uX QO) fun ZI =>
 eI ZI k1 2 n8 ∧
 sT ZI b2 o2 (.slice A142 QV Um) fun QC =>
 eI QC k1 2 n8 ∧
 J3 [] QC) Kp) Kp) ∧
 True) ∧
 True) ∧
∀ junk147 : Nat → Value, ∀ QD : Mem, (J3 [] QD) → K (.tuple #[]) QD) :
 aa Tryz.prog 34 #[.agg #[.int .i64 zq, .int .i64 zu, .int .i64 fD, .slice g9 hG hH], .pointer (some ⟨b1, o1, none⟩), .pointer (some ⟨b2, o2, none⟩)] M K Kp := vw [(1, .CS [0, 0, 2, 6, 15, 0, 0, 64, 192, 511, 1023, 2047] (sy [1, 6, 0, 2] (.dD 7 (.fork 3 (.fork 4 (sy [5, 8, 9, 10, 11] .done) (.fork 5 (.late 4 (sy [8, 9, 10, 11] .done)) (.fork 8 (.fork 4 (sy [5, 9, 10, 11] .done) (.fork 5 (sy [4, 9, 10, 11] .done) .dead)) .dead))) (.fork 5 (sy [3] (.late 4 (sy [8, 9, 10, 11] .done))) (.fork 8 (.fork 3 (.fork 4 (sy [5, 9, 10, 11] .done) (.fork 5 (sy [4, 9, 10, 11] .done) .dead)) (.fork 5 (sy [3, 4, 9, 10, 11] .done) .dead)) .dead))))) [])] Tryz.func34 h
end Go.Proofs
