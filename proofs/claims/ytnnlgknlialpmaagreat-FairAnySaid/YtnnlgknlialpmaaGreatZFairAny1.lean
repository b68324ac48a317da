/- A part of proofs about one program. -/
import Derived.Test.YtnnlgknlialpmaaGreatZFairAny0
set_option linter.unusedVariables false
namespace Go.Proofs
open Go.AF
set_option maxRecDepth 100000
variable {M : Mem} {K : Value → Mem → Prop} {Kp : List PanicEntry → Mem → Prop}
theorem rX {mL : Option Addr} {mN mO : Nat} {mP : Option Addr} {mQ mR : Nat} {gR : Int} {mS : Option Addr} {mT mU : Nat} (h :
bh M (cl [(.slice mL mN mO), (.slice mP mQ mR), (iV gR), (.slice mS mT mU)] 59) fun k1 M2 =>
bh M2 BK fun k3 M4 =>
rS M4 k1 1 fun A5 k6 k7 =>
rI M4 k1 2 fun n8 =>
bh M4 (cl [] 3) fun k9 iU =>
(True) ∧
aA 36 (some ⟨k9, 0, none⟩) 0 0 A5 k6 k7 iU (fun v11 sg =>
aB (some v11) fun DE jH iW =>
eI sg k1 2 n8 ∧
bh sg BK fun fH oz =>
kB oz fH (.slice none 0 0) (.slice DE jH iW) (iV n8) (.slice none 0 0) fun ov =>
eI ov k1 2 n8 ∧
rS ov k1 0 fun WW jm vg =>
∃ T5 : IT, (∃ sj, T5 sj [(iV 0)] ov) ∧
∀ (Am : Nat) (_ : Nat → Value) (xX : Int) (uj : Mem), (T5 Am [(iV xX)] uj) → aO (decide (xX < jm))
 ((0 ≤ xX) ∧
 (xX < jm) ∧
 aF WW fun qD uo =>
 rS uj qD (uo + (Int.toNat xX)) fun J4 qC BO =>
 bh uj (cl [] 27) fun MW GF =>
 ∃ Vl : IT, (∃ yY, Vl yY [(.slice (some ⟨MW, 0, none⟩) 0 0), (iV 0)] GF) ∧
 ∀ (FH : Nat) (_ : Nat → Value) (Ql : Option Addr) (yM : Nat) (Gq : Nat) (Aq : Int) (FM : Mem), (Vl FH [(.slice Ql yM Gq), (iV Aq)] FM) → aO (decide (Aq < qC))
 ((0 ≤ Aq) ∧
 (Aq < qC) ∧
 aF J4 fun TI Qp =>
 bH FM TI (Qp + ((Int.toNat Aq) * 4)) fun T8 Nb GC X4 =>
 bh FM ij fun qB Qk =>
 kB Qk qB (iV T8) (iV Nb) (iV GC) (iV X4) fun IB =>
 bH IB qB 0 fun tK MO J6 WX =>
 bh IB (cl [(iV tK), (iV MO), (iV J6), (iV WX)] 27) fun PD IA =>
 aA 28 Ql yM Gq (some ⟨PD, 0, none⟩) 1 1 IA (fun v65 WT =>
 aB (some v65) fun A67 xD Ym =>
 ∃ IC : Nat, (IC < FH) ∧
 Vl IC [(.slice A67 xD Ym), (iV (IntKind.wrap .i64 (Aq + 1)))] WT) Kp)
 (rS FM fH 0 fun T6 Ye Kk =>
 bh FM (cl [(.slice Ql yM Gq)] 28) fun ID AQ =>
 aA 35 T6 Ye Kk (some ⟨ID, 0, none⟩) 1 1 AQ (fun Yh Kj =>
 aB (some Yh) fun A78 Qz No =>
 sT Kj fH 0 (.slice A78 Qz No) fun Yi =>
 ∃ Ki : Nat, (Ki < Am) ∧
 T5 Ki [(iV (IntKind.wrap .i64 (xX + 1)))] Yi) Kp))
 (rS uj k1 3 fun A83 k84 LD =>
 ∃ I86 : IT, (∃ k87, I86 k87 [(iV 0)] uj) ∧
 ∀ (LB : Nat) (_ : Nat → Value) (SE : Int) (lj : Mem), (I86 LB [(iV SE)] lj) → aO (decide (SE < k84))
 ((0 ≤ SE) ∧
 (SE < k84) ∧
 aF A83 fun Ua Ub =>
 lX lj Ua (Ub + ((Int.toNat SE) * 3)) fun Qm Ka Kb =>
 bh lj vI fun k97 DJ =>
 Io DJ k97 (iV Qm) (iV Ka) (iV Kb) fun jf =>
 rS jf fH 3 fun y5 mV EF =>
 lX jf k97 0 fun n105 n106 Vm =>
 bh jf (cl [(iV n105), (iV n106), (iV Vm)] 165) fun k108 uk =>
 aA 37 y5 mV EF (some ⟨k108, 0, none⟩) 1 1 uk (fun v110 nK =>
 aB (some v110) fun A112 GL Ue =>
 sT nK fH 3 (.slice A112 GL Ue) fun GM =>
 ∃ Kv : Nat, (Kv < LB) ∧
 I86 Kv [(iV (IntKind.wrap .i64 (SE + 1)))] GM) Kp)
 (rS lj fH 0 fun Vn Vo GP =>
 rS lj fH 1 fun A120 k121 k122 =>
 rI lj fH 2 fun Vp =>
 rS lj fH 3 fun A124 Uf k126 =>
 kB lj k3 (.slice Vn Vo GP) (.slice A120 k121 k122) (iV Vp) (.slice A124 Uf k126) fun rT =>
 yJ rT k3 0 fun EB EC Kl Vq AS rV Vr A138 YC k140 =>
 K (.agg #[(.slice EB EC Kl), (.slice Vq AS rV), (iV Vr), (.slice A138 YC k140)]) rT))) Kp) :
 aa Tryz.prog 25 #[.agg #[.slice mL mN mO, .slice mP mQ mR, .int .i64 gR, .slice mS mT mU]] M K Kp := vw [(1, .bQ [0, 0, 2, 7, 0, 16, 63, 0, 255] (sy [1, 4, 2] (.dD 5 (sy [0] (.late 3 (sy [6, 7, 8] .done)))))), (2000000, .loop [(21, .c (.int .i64))]), (2000002, .loop [(6, .c .sl), (28, .c (.int .i64))]), (2000004, .loop [(55, .c (.int .i64))])] Tryz.func25 h
theorem pV {mL : Option Addr} {mN mO : Nat} {mP : Option Addr} {mQ mR : Nat} {gR : Int} {mS : Option Addr} {mT mU : Nat} (h :
bh M (cl [(.slice mL mN mO), (.slice mP mQ mR), (iV gR), (.slice mS mT mU)] 59) fun k1 M2 =>
bh M2 BL fun k3 M4 =>
rI M4 k1 2 fun n5 =>
aa Tryz.prog 66 #[(iV n5), (iV 4)] M4 (fun v6 M7 =>
aJ (some v6) .i64 fun n8 =>
bh M7 BL fun k9 iU =>
kB iU k9 (.slice none 0 0) (.slice none 0 0) (iV n8) (.slice none 0 0) fun oh =>
∃ J15 : List Value → Mem → Prop, (∃ I16 : IT, (∃ fx, I16 fx [(iV 0)] oh) ∧
 ∀ (fI : Nat) (_ : Nat → Value) (gd : Int) (ov : Mem), (I16 fI [(iV gd)] ov) → rS ov k1 1 fun WW jm vg =>
 aO (decide (gd < jm))
 (aO (decide (gd < 4))
 (∃ J25 : List Value → Mem → Prop, (rS ov k1 1 fun T4 Am oC =>
 (0 ≤ gd) ∧
 (gd < Am) ∧
 aF T4 fun iq mH =>
 rI ov iq (mH + (Int.toNat gd)) fun si =>
 (rS ov k9 1 fun A32 so qC =>
 aa Tryz.prog 66 #[(iV si), (iV 4)] ov (fun v35 Ak =>
 aJ (some v35) .i64 fun Eo =>
 bh Ak (cl [(iV Eo)] 3) fun iR Nj =>
 aA 36 A32 so qC (some ⟨iR, 0, none⟩) 1 1 Nj (fun Kf Ap =>
 aB (some Kf) fun Ql yM Gq =>
 sT Ap k9 1 (.slice Ql yM Gq) fun tM =>
 J25 [] tM) Kp) Kp) ∧
 (aa Tryz.prog 66 #[(iV si), (iV 4)] ov (fun v46 wY =>
 aJ (some v46) .i64 fun Kh =>
 rS wY k9 1 fun Yf MP Nk =>
 bh wY (cl [(iV Kh)] 3) fun sM GD =>
 aA 36 Yf MP Nk (some ⟨sM, 0, none⟩) 1 1 GD (fun Nv vT =>
 aB (some Nv) fun QM Au Gr =>
 sT vT k9 1 (.slice QM Au Gr) fun Aw =>
 J25 [] Aw) Kp) Kp) ∧
 True) ∧
 ∀ junk60 : Nat → Value, ∀ DF : Mem, (J25 [] DF) → ∃ Nl : Nat, (Nl < fI) ∧
 I16 Nl [(iV (IntKind.wrap .i64 (gd + 1)))] DF)
 (J15 [] ov))
 (J15 [] ov)) ∧
∀ junk63 : Nat → Value, ∀ IA : Mem, (J15 [] IA) → ∃ J65 : List Value → Mem → Prop, (∃ I66 : IT, (∃ xw, I66 xw [(iV 0)] IA) ∧
 ∀ (xD : Nat) (_ : Nat → Value) (Vs : Int) (PF : Mem), (I66 xD [(iV Vs)] PF) → rS PF k1 3 fun SD Kk ID =>
 aO (decide (Vs < Kk))
 (aO (decide (Vs < 8))
 (rS PF k1 3 fun A75 k76 k77 =>
 (0 ≤ Vs) ∧
 (Vs < k76) ∧
 aF A75 fun TW Qz =>
 lX PF TW (Qz + ((Int.toNat Vs) * 3)) fun XW QN Lx =>
 bh PF vI fun FN QA =>
 Io QA FN (iV XW) (iV QN) (iV Lx) fun IE =>
 rII IE FN 0 fun n88 YD =>
 rS IE k9 1 fun WZ T9 Ua =>
 rI IE FN 2 fun Vt =>
 (True) ∧
 aa Tryz.prog 66 #[(iV n88), (iV 3)] IE (fun v94 PG =>
 aJ (some v94) .i64 fun Kb =>
 eI PG FN 2 Vt ∧
 eS PG k9 1 WZ T9 Ua ∧
 eI PG FN 1 YD ∧
 (True) ∧
 aa Tryz.prog 66 #[(iV YD), (iV (T9 : Int))] PG (fun v97 DJ =>
 aJ (some v97) .i64 fun LC =>
 eI DJ FN 2 Vt ∧
 eS DJ k9 1 WZ T9 Ua ∧
 eI DJ FN 1 YD ∧
 (True) ∧
 aa Tryz.prog 66 #[(iV Vt), (iV 8)] DJ (fun Vu jf =>
 aJ (some Vu) .i64 fun MR =>
 eI jf FN 2 Vt ∧
 eS jf k9 1 WZ T9 Ua ∧
 eI jf FN 1 YD ∧
 bh jf vI fun mV Uc =>
 Io Uc mV (iV Kb) (iV LC) (iV MR) fun C1 =>
 eI C1 FN 2 Vt ∧
 eS C1 k9 1 WZ T9 Ua ∧
 eI C1 FN 1 YD ∧
 rS C1 k9 1 fun A108 GK Ko =>
 ∃ Vv : List Value → Mem → Prop, (aO ((GK : Int) == 0)
 (sT C1 mV 0 (iV 2) fun M112 =>
 sT M112 mV 1 (iV 0) fun M113 =>
 sT M113 mV 2 (iV 0) fun AR =>
 Vv [] AR)
 (Vv [] C1)) ∧
 ∀ junk115 : Nat → Value, ∀ xB : Mem, (Vv [] xB) → rS xB k9 3 fun Vn Vo GP =>
 lX xB mV 0 fun y3 y4 Nr =>
 bh xB (cl [(iV y3), (iV y4), (iV Nr)] 163) fun GN vV =>
 aA 57 Vn Vo GP (some ⟨GN, 0, none⟩) 1 1 vV (fun v125 M126 =>
 aB (some v125) fun A127 k128 N0 =>
 sT M126 k9 3 (.slice A127 k128 N0) fun rT =>
 ∃ YE : Nat, (YE < xD) ∧
 I66 YE [(iV (IntKind.wrap .i64 (Vs + 1)))] rT) Kp) Kp) Kp) Kp)
 (J65 [] PF))
 (J65 [] PF)) ∧
∀ junk132 : Nat → Value, ∀ N3 : Mem, (J65 [] N3) → rS N3 k1 0 fun Vq AS rV =>
rS N3 k1 0 fun A137 AV YC =>
((0 : Int) ≤ rV) ∧
((rV : Int) ≤ rV) ∧
((0 : Int) ≤ (if (5 : Int) < (AV : Int) then 5 else (AV : Int))) ∧
(((if (5 : Int) < (AV : Int) then 5 else (AV : Int)) : Int) ≤ (rV : Int)) ∧
((0 : Int) ≤ 0) ∧
((0 : Int) ≤ (if (5 : Int) < (AV : Int) then 5 else (AV : Int))) ∧
∃ Vw : List Value → Mem → Prop, (aO (((((Int.toNat (if (5 : Int) < (AV : Int) then 5 else (AV : Int))) - 0) : Nat) : Int) == 0)
 (bh N3 ij fun k141 ND =>
 bh ND (cl [(.slice (some ⟨k141, 0, none⟩) 1 1)] 61) fun k143 M144 =>
 Vw [(.slice (some ⟨k143, 0, none⟩) 1 1)] M144)
 (Vw [(.slice (lp Vq 0 (Int.toNat (rV : Int)) 1) ((Int.toNat (if (5 : Int) < (AV : Int) then 5 else (AV : Int))) - 0) ((Int.toNat (rV : Int)) - 0))] N3)) ∧
∀ junk145 : Nat → Value, ∀ YF : Option Addr, ∀ N4 : Nat, ∀ NI : Nat, ∀ ED : Mem, (Vw [(.slice YF N4 NI)] ED) → aY Tryz.prog (Go.Instr.makeSlice 56 (iV (N4 : Int)) (iV (N4 : Int))) ED (fun v150 y7 =>
aB (some v150) fun NJ NK Nu =>
sT y7 k9 0 (.slice NJ NK Nu) fun M155 =>
∃ Vx : IT, (∃ Us, Vx Us [(iV 0)] M155) ∧
∀ (YG : Nat) (_ : Nat → Value) (za : Int) (vU : Mem), (Vx YG [(iV za)] vU) → aO (decide (za < N4))
 ((0 ≤ za) ∧
 (za < N4) ∧
 aF YF fun NL NM =>
 rS vU NL (NM + (Int.toNat za)) fun A164 AW Kx =>
 ((0 : Int) ≤ Kx) ∧
 ((Kx : Int) ≤ Kx) ∧
 ((0 : Int) ≤ (if (20 : Int) < (AW : Int) then 20 else (AW : Int))) ∧
 (((if (20 : Int) < (AW : Int) then 20 else (AW : Int)) : Int) ≤ (Kx : Int)) ∧
 ((0 : Int) ≤ 0) ∧
 ((0 : Int) ≤ (if (20 : Int) < (AW : Int) then 20 else (AW : Int))) ∧
 ∃ Vy : List Value → Mem → Prop, (aO (((((Int.toNat (if (20 : Int) < (AW : Int) then 20 else (AW : Int))) - 0) : Nat) : Int) == 0)
 (bh vU ij fun k168 M169 =>
 Vy [(.slice (some ⟨k168, 0, none⟩) 1 1)] M169)
 (Vy [(.slice (lp A164 0 (Int.toNat (Kx : Int)) 4) ((Int.toNat (if (20 : Int) < (AW : Int) then 20 else (AW : Int))) - 0) ((Int.toNat (Kx : Int)) - 0))] vU)) ∧
 ∀ junk170 : Nat → Value, ∀ Vz : Option Addr, ∀ QO : Nat, ∀ Kt : Nat, ∀ YH : Mem, (Vy [(.slice Vz QO Kt)] YH) → bh YH (cl [] 63) fun k175 M176 =>
 ∃ VA : IT, (∃ k178, VA k178 [(.slice (some ⟨k175, 0, none⟩) 0 0), (iV 0)] M176) ∧
 ∀ (YI : Nat) (_ : Nat → Value) (VB : Option Addr) (VC : Nat) (VD : Nat) (Ky : Int) (N5 : Mem), (VA YI [(.slice VB VC VD), (iV Ky)] N5) → aO (decide (Ky < QO))
 ((0 ≤ Ky) ∧
 (Ky < QO) ∧
 aF Vz fun k186 k187 =>
 bH N5 k186 (k187 + ((Int.toNat Ky) * 4)) fun GO VE VF n191 =>
 bh N5 ij fun UB M193 =>
 kB M193 UB (iV GO) (iV VE) (iV VF) (iV n191) fun NT =>
 yJ NT k9 0 fun A198 k199 k200 A201 k202 k203 n204 UC UD Yu =>
 bH NT UB 0 fun VG VH VI VJ =>
 aa Tryz.prog 67 #[(.agg #[(.slice A198 k199 k200), (.slice A201 k202 k203), (iV n204), (.slice UC UD Yu)]), (.slice Vz QO Kt), (.agg #[(iV VG), (iV VH), (iV VI), (iV VJ)])] NT (fun v212 UG =>
 ∃ QS QT QU YJ : Int, (v212 = (.agg #[(iV QS), (iV QT), (iV QU), (iV YJ)])) ∧
 bh UG (cl [(iV QS), (iV QT), (iV QU), (iV YJ)] 63) fun k218 M219 =>
 aA 61 VB VC VD (some ⟨k218, 0, none⟩) 1 1 M219 (fun v220 M221 =>
 aB (some v220) fun A222 UH k224 =>
 ∃ YK : Nat, (YK < YI) ∧
 VA YK [(.slice A222 UH k224), (iV (IntKind.wrap .i64 (Ky + 1)))] M221) Kp) Kp)
 (rS N5 k9 0 fun UJ UK k228 =>
 (0 ≤ za) ∧
 (za < UK) ∧
 aF UJ fun k229 UL =>
 sT N5 k229 (UL + (Int.toNat za)) (.slice VB VC VD) fun M231 =>
 ∃ YL : Nat, (YL < YG) ∧
 Vx YL [(iV (IntKind.wrap .i64 (za + 1)))] M231))
 (rS vU k9 0 fun A233 UM k235 =>
 rS vU k9 1 fun A236 UN k238 =>
 rI vU k9 2 fun n239 =>
 rS vU k9 3 fun A240 k241 k242 =>
 kB vU k3 (.slice A233 UM k235) (.slice A236 UN k238) (iV n239) (.slice A240 k241 k242) fun YM =>
 yJ YM k3 0 fun A247 UT k249 A250 k251 k252 n253 A254 k255 UW =>
 K (.agg #[(.slice A247 UT k249), (.slice A250 k251 k252), (iV n253), (.slice A254 k255 UW)]) YM)) Kp) Kp) :
 aa Tryz.prog 24 #[.agg #[.slice mL mN mO, .slice mP mQ mR, .int .i64 gR, .slice mS mT mU]] M K Kp := vw [(1000000, .cut []), (2000000, .loop [(4, .c (.int .i64))]), (5, .JL [0, 1, 0, 4, 0, 28, 60, 124, 252, 511, 1023, 2047] (sy [0, 2, 4, 3, 5, 6] (.fork 1 (sy [7, 8, 9, 10, 11] .done) (.fork 7 (sy [1, 8, 9, 10, 11] .done) .dead))) []), (1000002, .cut []), (2000002, .loop [(5, .c (.int .i64))]), (10, .bQ [0, 1, 3, 0, 8, 0, 32, 96, 255, 0, 512, 2047, 4095, 0, 16383] (sy [0, 3, 5, 9, 1] (.dD 4 (.dD 6 (sy [7] (.dD 10 (.late 2 (.late 8 (.late 11 (sy [12, 13, 14] .done)))))))))), (3000072, .cut []), (3000089, .cut [(8, .c .sl)]), (2000004, .loop [(99, .c (.int .i64))]), (3000111, .cut [(10, .c .sl)]), (2000006, .loop [(11, .c .sl), (117, .c (.int .i64))])] Tryz.func24 h
theorem rY {x0 : Int} {x1 : Int} (h :
aO (decide ((x1 : Int) < 1))
 (K (iV 0) M)
 (((x1 : Int) ≠ 0) ∧
 ((x1 : Int) ≠ 0) ∧
 K (iV (Int.tmod (IntKind.wrap .i64 ((Int.tmod x0 x1) + x1)) x1)) M)) :
 aa Tryz.prog 66 #[.int .i64 x0, .int .i64 x1] M K Kp := vw [] Tryz.func66 h
theorem rZ {mL : Option Addr} {mN mO : Nat} {mP : Option Addr} {mQ mR : Nat} {gR : Int} {mS : Option Addr} {mT mU : Nat} {B1 : Option Addr} {m1 c1 : Nat} {Nf : Int} {Ng : Int} {Nh : Int} {Ni : Int} (h :
bh M (cl [(.slice mL mN mO), (.slice mP mQ mR), (iV gR), (.slice mS mT mU)] 59) fun k1 M2 =>
bh M2 (cl [(iV Nf), (iV Ng), (iV Nh), (iV Ni)] 63) fun k3 M4 =>
bh M4 ij fun k5 M6 =>
rI M6 k3 0 fun n7 =>
aa Tryz.prog 66 #[(iV n7), (iV 23)] M6 (fun v8 M9 =>
aJ (some v8) .i64 fun iZ =>
sT M9 k3 0 (iV iZ) fun jJ =>
rI jJ k3 1 fun jK =>
rI jJ k3 2 fun j7 =>
rI jJ k3 3 fun lY =>
aa Tryz.prog 66 #[(iV jK), (iV 8)] jJ (fun CU fq =>
aJ (some CU) .i64 fun iQ =>
eI fq k3 3 lY ∧
eI fq k3 2 j7 ∧
aa Tryz.prog 66 #[(iV j7), (iV 8)] fq (fun En jB =>
aJ (some En) .i64 fun gd =>
eI jB k3 3 lY ∧
eI jB k3 2 j7 ∧
aa Tryz.prog 66 #[(iV lY), (iV 8)] jB (fun Yb dP =>
aJ (some Yb) .i64 fun qS =>
eI dP k3 3 lY ∧
eI dP k3 2 j7 ∧
rSS dP k1 0 fun Ly qP sj PB oC iq =>
rS dP k1 3 fun WQ qD uo =>
rI dP k3 0 fun sL =>
aO (sL == 1)
 (rI dP k3 2 fun Ke =>
 kB dP k5 (iV 1) (iV iQ) (iV Ke) (iV 0) fun lZ =>
 bH lZ k5 0 fun J2 Nd n41 FL =>
 K (.agg #[(iV J2), (iV Nd), (iV n41), (iV FL)]) lZ)
 (aO (sL == 2)
 (sT dP k5 0 (iV 2) fun tL =>
 sT tL k5 1 (iV iQ) fun AO =>
 sT AO k5 2 (iV gd) fun tM =>
 sT tM k5 3 (iV 0) fun FM =>
 bH FM k5 0 fun xq Kh T8 Nb =>
 K (.agg #[(iV xq), (iV Kh), (iV T8), (iV Nb)]) FM)
 (aO (sL == 3)
 (rI dP k3 0 fun GC =>
 kB dP k5 (iV GC) (iV iQ) (iV gd) (iV qS) fun vT =>
 bH vT k5 0 fun Nw Iz CP tK =>
 K (.agg #[(iV Nw), (iV Iz), (iV CP), (iV tK)]) vT)
 (aO (sL == 4)
 (rI dP k3 0 fun MO =>
 kB dP k5 (iV MO) (iV iQ) (iV gd) (iV qS) fun IA =>
 bH IA k5 0 fun xT Sn Sy Nc =>
 K (.agg #[(iV xT), (iV Sn), (iV Sy), (iV Nc)]) IA)
 (aO (sL == 5)
 (rI dP k3 0 fun Yg =>
 kB dP k5 (iV Yg) (iV iQ) (iV gd) (iV qS) fun tN =>
 bH tN k5 0 fun Nq CQ J7 CR =>
 K (.agg #[(iV Nq), (iV CQ), (iV J7), (iV CR)]) tN)
 (aO (sL == 6)
 (rI dP k3 0 fun C5 =>
 kB dP k5 (iV C5) (iV iQ) (iV gd) (iV qS) fun M82 =>
 bH M82 k5 0 fun Sq Iu SC n86 =>
 K (.agg #[(iV Sq), (iV Iu), (iV SC), (iV n86)]) M82)
 (aO (sL == 7)
 (rI dP k3 1 fun Yx =>
 aa Tryz.prog 66 #[(iV Yx), (iV (m1 : Int))] dP (fun v88 Ez =>
 aJ (some v88) .i64 fun SE =>
 kB Ez k5 (iV 7) (iV SE) (iV 0) (iV 0) fun M94 =>
 bH M94 k5 0 fun Ka Kb n97 Sr =>
 K (.agg #[(iV Ka), (iV Kb), (iV n97), (iV Sr)]) M94) Kp)
 (aO (sL == 8)
 (rI dP k3 2 fun LC =>
 aa Tryz.prog 66 #[(iV LC), (iV (m1 : Int))] dP (fun Vu jf =>
 aJ (some Vu) .i64 fun MR =>
 kB jf k5 (iV 8) (iV iQ) (iV MR) (iV 0) fun QB =>
 bH QB k5 0 fun Vm C2 n109 MS =>
 K (.agg #[(iV Vm), (iV C2), (iV n109), (iV MS)]) QB) Kp)
 (aO (sL == 9)
 (rI dP k3 1 fun Ud =>
 rI dP k3 0 fun yO =>
 aa Tryz.prog 66 #[(iV Ud), (iV (qP : Int))] dP (fun v113 AR =>
 aJ (some v113) .i64 fun n115 =>
 eI AR k3 0 yO ∧
 kB AR k5 (iV yO) (iV n115) (iV gd) (iV qS) fun C3 =>
 eI C3 k3 0 yO ∧
 bH C3 k5 0 fun y3 y4 Nr Vp =>
 K (.agg #[(iV y3), (iV y4), (iV Nr), (iV Vp)]) C3) Kp)
 (aO (sL == 11)
 (rI dP k3 1 fun n124 =>
 rI dP k3 0 fun GQ =>
 aa Tryz.prog 66 #[(iV n124), (iV (qP : Int))] dP (fun Ug QC =>
 aJ (some Ug) .i64 fun xC =>
 eI QC k3 0 GQ ∧
 kB QC k5 (iV GQ) (iV xC) (iV gd) (iV qS) fun VK =>
 eI VK k3 0 GQ ∧
 bH VK k5 0 fun n133 n134 n135 n136 =>
 K (.agg #[(iV n133), (iV n134), (iV n135), (iV n136)]) VK) Kp)
 (aO (sL == 10)
 (rI dP k3 0 fun Vr =>
 kB dP k5 (iV Vr) (iV iQ) (iV 0) (iV 0) fun Kr =>
 bH Kr k5 0 fun Uh n143 NF NG =>
 K (.agg #[(iV Uh), (iV n143), (iV NF), (iV NG)]) Kr)
 (aO (sL == 17)
 (rI dP k3 0 fun NH =>
 kB dP k5 (iV NH) (iV iQ) (iV 0) (iV 0) fun YN =>
 bH YN k5 0 fun Ui Uj n153 n154 =>
 K (.agg #[(iV Ui), (iV Uj), (iV n153), (iV n154)]) YN)
 (aO (sL == 20)
 (rI dP k3 0 fun n155 =>
 kB dP k5 (iV n155) (iV iQ) (iV 0) (iV 0) fun YO =>
 bH YO k5 0 fun za n161 n162 n163 =>
 K (.agg #[(iV za), (iV n161), (iV n162), (iV n163)]) YO)
 (aO (sL == 13)
 (aO ((oC : Int) == 0)
 (sT dP k5 0 (iV 0) fun NN =>
 sT NN k5 1 (iV 0) fun NO =>
 sT NO k5 2 (iV 0) fun NP =>
 sT NP k5 3 (iV 0) fun Ks =>
 bH Ks k5 0 fun n168 NQ NR NS =>
 K (.agg #[(iV n168), (iV NQ), (iV NR), (iV NS)]) Ks)
 (rI dP k3 1 fun n172 =>
 rI dP k3 0 fun VL =>
 (True) ∧
 aa Tryz.prog 66 #[(iV n172), (iV (oC : Int))] dP (fun v174 YP =>
 aJ (some v174) .i64 fun n176 =>
 eI YP k3 0 VL ∧
 bh YP ij fun uE M178 =>
 kB M178 uE (iV VL) (iV n176) (iV 0) (iV 0) fun AX =>
 eI AX k3 0 VL ∧
 rI AX k3 0 fun n183 =>
 aO (decide (n183 < 15))
 (sT AX uE 2 (iV gd) fun GR =>
 rI GR k3 0 fun UA =>
 aO (UA == 14)
 (sT GR uE 3 (iV qS) fun YQ =>
 bH YQ uE 0 fun n187 GO VE VF =>
 kB YQ k5 (iV n187) (iV GO) (iV VE) (iV VF) fun YR =>
 bH YR k5 0 fun n195 n196 n197 QF =>
 K (.agg #[(iV n195), (iV n196), (iV n197), (iV QF)]) YR)
 (rI GR uE 0 fun n199 =>
 rI GR uE 1 fun n200 =>
 rI GR uE 2 fun QG =>
 rI GR uE 3 fun NU =>
 kB GR k5 (iV n199) (iV n200) (iV QG) (iV NU) fun YS =>
 bH YS k5 0 fun n207 VG VH VI =>
 K (.agg #[(iV n207), (iV VG), (iV VH), (iV VI)]) YS))
 (rI AX k3 0 fun VJ =>
 aO (VJ == 14)
 (sT AX uE 3 (iV qS) fun QH =>
 bH QH uE 0 fun n213 QS QT QU =>
 kB QH k5 (iV n213) (iV QS) (iV QT) (iV QU) fun YT =>
 bH YT k5 0 fun n221 n222 n223 UI =>
 K (.agg #[(iV n221), (iV n222), (iV n223), (iV UI)]) YT)
 (rI AX uE 0 fun n225 =>
 rI AX uE 1 fun n226 =>
 rI AX uE 2 fun n227 =>
 rI AX uE 3 fun n228 =>
 kB AX k5 (iV n225) (iV n226) (iV n227) (iV n228) fun YU =>
 bH YU k5 0 fun n233 n234 n235 n236 =>
 K (.agg #[(iV n233), (iV n234), (iV n235), (iV n236)]) YU))) Kp))
 (aO (sL == 14)
 (aO ((oC : Int) == 0)
 (sT dP k5 0 (iV 0) fun M237 =>
 sT M237 k5 1 (iV 0) fun UO =>
 sT UO k5 2 (iV 0) fun UP =>
 sT UP k5 3 (iV 0) fun QJ =>
 bH QJ k5 0 fun n241 n242 UQ UR =>
 K (.agg #[(iV n241), (iV n242), (iV UQ), (iV UR)]) QJ)
 (rI dP k3 1 fun US =>
 rI dP k3 0 fun VM =>
 (True) ∧
 aa Tryz.prog 66 #[(iV US), (iV (oC : Int))] dP (fun v247 YV =>
 aJ (some v247) .i64 fun n249 =>
 eI YV k3 0 VM ∧
 bh YV ij fun uF M251 =>
 kB M251 uF (iV VM) (iV n249) (iV 0) (iV 0) fun AY =>
 eI AY k3 0 VM ∧
 rI AY k3 0 fun n256 =>
 aO (decide (n256 < 15))
 (sT AY uF 2 (iV gd) fun GS =>
 rI GS k3 0 fun n258 =>
 aO (n258 == 14)
 (sT GS uF 3 (iV qS) fun YW =>
 bH YW uF 0 fun n260 n261 n262 n263 =>
 kB YW k5 (iV n260) (iV n261) (iV n262) (iV n263) fun EG =>
 bH EG k5 0 fun UZ U0 U1 n271 =>
 K (.agg #[(iV UZ), (iV U0), (iV U1), (iV n271)]) EG)
 (rI GS uF 0 fun n272 =>
 rI GS uF 1 fun n273 =>
 rI GS uF 2 fun U2 =>
 rI GS uF 3 fun n275 =>
 kB GS k5 (iV n272) (iV n273) (iV U2) (iV n275) fun YX =>
 bH YX k5 0 fun n280 n281 U3 n283 =>
 K (.agg #[(iV n280), (iV n281), (iV U3), (iV n283)]) YX))
 (rI AY k3 0 fun n284 =>
 aO (n284 == 14)
 (sT AY uF 3 (iV qS) fun QL =>
 bH QL uF 0 fun n286 n287 n288 n289 =>
 kB QL k5 (iV n286) (iV n287) (iV n288) (iV n289) fun YY =>
 bH YY k5 0 fun U4 U5 n296 n297 =>
 K (.agg #[(iV U4), (iV U5), (iV n296), (iV n297)]) YY)
 (rI AY uF 0 fun n298 =>
 rI AY uF 1 fun n299 =>
 rI AY uF 2 fun n300 =>
 rI AY uF 3 fun n301 =>
 kB AY k5 (iV n298) (iV n299) (iV n300) (iV n301) fun YZ =>
 bH YZ k5 0 fun n306 n307 n308 n309 =>
 K (.agg #[(iV n306), (iV n307), (iV n308), (iV n309)]) YZ))) Kp))
 (aO (sL == 15)
 (aO ((oC : Int) == 0)
 (sT dP k5 0 (iV 0) fun M310 =>
 sT M310 k5 1 (iV 0) fun M311 =>
 sT M311 k5 2 (iV 0) fun M312 =>
 sT M312 k5 3 (iV 0) fun Y0 =>
 bH Y0 k5 0 fun n314 n315 n316 n317 =>
 K (.agg #[(iV n314), (iV n315), (iV n316), (iV n317)]) Y0)
 (rI dP k3 1 fun n318 =>
 rI dP k3 0 fun VN =>
 (True) ∧
 aa Tryz.prog 66 #[(iV n318), (iV (oC : Int))] dP (fun v320 Y1 =>
 aJ (some v320) .i64 fun n322 =>
 eI Y1 k3 0 VN ∧
 bh Y1 ij fun uG M324 =>
 kB M324 uG (iV VN) (iV n322) (iV 0) (iV 0) fun AZ =>
 eI AZ k3 0 VN ∧
 rI AZ k3 0 fun n329 =>
 aO (decide (n329 < 15))
 (sT AZ uG 2 (iV gd) fun GU =>
 rI GU k3 0 fun n331 =>
 aO (n331 == 14)
 (sT GU uG 3 (iV qS) fun Y3 =>
 bH Y3 uG 0 fun n333 n334 n335 n336 =>
 kB Y3 k5 (iV n333) (iV n334) (iV n335) (iV n336) fun Y4 =>
 bH Y4 k5 0 fun n341 n342 n343 n344 =>
 K (.agg #[(iV n341), (iV n342), (iV n343), (iV n344)]) Y4)
 (rI GU uG 0 fun n345 =>
 rI GU uG 1 fun n346 =>
 rI GU uG 2 fun n347 =>
 rI GU uG 3 fun n348 =>
 kB GU k5 (iV n345) (iV n346) (iV n347) (iV n348) fun Y5 =>
 bH Y5 k5 0 fun n353 n354 n355 n356 =>
 K (.agg #[(iV n353), (iV n354), (iV n355), (iV n356)]) Y5))
 (rI AZ k3 0 fun n357 =>
 aO (n357 == 14)
 (sT AZ uG 3 (iV qS) fun Y6 =>
 bH Y6 uG 0 fun n359 n360 n361 n362 =>
 kB Y6 k5 (iV n359) (iV n360) (iV n361) (iV n362) fun Y7 =>
 bH Y7 k5 0 fun n367 n368 n369 n370 =>
 K (.agg #[(iV n367), (iV n368), (iV n369), (iV n370)]) Y7)
 (rI AZ uG 0 fun n371 =>
 rI AZ uG 1 fun n372 =>
 rI AZ uG 2 fun n373 =>
 rI AZ uG 3 fun n374 =>
 kB AZ k5 (iV n371) (iV n372) (iV n373) (iV n374) fun Y8 =>
 bH Y8 k5 0 fun n379 n380 n381 n382 =>
 K (.agg #[(iV n379), (iV n380), (iV n381), (iV n382)]) Y8))) Kp))
 (aO (sL == 16)
 (aO ((qD : Int) == 0)
 (sT dP k5 0 (iV 0) fun M383 =>
 sT M383 k5 1 (iV 0) fun M384 =>
 sT M384 k5 2 (iV 0) fun M385 =>
 sT M385 k5 3 (iV 0) fun Y9 =>
 bH Y9 k5 0 fun n387 n388 n389 n390 =>
 K (.agg #[(iV n387), (iV n388), (iV n389), (iV n390)]) Y9)
 (rI dP k3 1 fun n391 =>
 aa Tryz.prog 66 #[(iV n391), (iV (qD : Int))] dP (fun v392 Za =>
 aJ (some v392) .i64 fun Zb =>
 rI Za k3 2 fun n395 =>
 aa Tryz.prog 66 #[(iV n395), (iV (IntKind.wrap .i64 ((qD : Int) - Zb)))] Za (fun v396 M397 =>
 aJ (some v396) .i64 fun n398 =>
 kB M397 k5 (iV 16) (iV Zb) (iV (IntKind.wrap .i64 (1 + n398))) (iV qS) fun Zc =>
 bH Zc k5 0 fun n403 n404 n405 n406 =>
 K (.agg #[(iV n403), (iV n404), (iV n405), (iV n406)]) Zc) Kp) Kp))
 (aO (sL == 18)
 (rI dP k1 2 fun n407 =>
 aO (n407 == 0)
 (sT dP k5 0 (iV 0) fun M408 =>
 sT M408 k5 1 (iV 0) fun M409 =>
 sT M409 k5 2 (iV 0) fun M410 =>
 sT M410 k5 3 (iV 0) fun Zd =>
 bH Zd k5 0 fun n412 n413 n414 n415 =>
 K (.agg #[(iV n412), (iV n413), (iV n414), (iV n415)]) Zd)
 (rI dP k3 1 fun n416 =>
 rI dP k1 2 fun n417 =>
 rI dP k3 0 fun VO =>
 aa Tryz.prog 66 #[(iV n416), (iV n417)] dP (fun v419 Ze =>
 aJ (some v419) .i64 fun n421 =>
 eI Ze k3 0 VO ∧
 kB Ze k5 (iV VO) (iV n421) (iV 0) (iV 0) fun VP =>
 eI VP k3 0 VO ∧
 bH VP k5 0 fun n426 n427 n428 n429 =>
 K (.agg #[(iV n426), (iV n427), (iV n428), (iV n429)]) VP) Kp))
 (aO (sL == 19)
 (rI dP k1 2 fun n430 =>
 aO (n430 == 0)
 (sT dP k5 0 (iV 0) fun M431 =>
 sT M431 k5 1 (iV 0) fun M432 =>
 sT M432 k5 2 (iV 0) fun M433 =>
 sT M433 k5 3 (iV 0) fun Zf =>
 bH Zf k5 0 fun n435 n436 n437 n438 =>
 K (.agg #[(iV n435), (iV n436), (iV n437), (iV n438)]) Zf)
 (rI dP k3 1 fun n439 =>
 rI dP k1 2 fun n440 =>
 rI dP k3 0 fun VQ =>
 aa Tryz.prog 66 #[(iV n439), (iV n440)] dP (fun v442 Zg =>
 aJ (some v442) .i64 fun n444 =>
 eI Zg k3 0 VQ ∧
 kB Zg k5 (iV VQ) (iV n444) (iV 0) (iV 0) fun VR =>
 eI VR k3 0 VQ ∧
 bH VR k5 0 fun n449 n450 n451 n452 =>
 K (.agg #[(iV n449), (iV n450), (iV n451), (iV n452)]) VR) Kp))
 (aO (sL == 21)
 (rI dP k3 2 fun n453 =>
 aa Tryz.prog 66 #[(iV n453), (iV 1000)] dP (fun v454 M455 =>
 aJ (some v454) .i64 fun n456 =>
 kB M455 k5 (iV 21) (iV iQ) (iV (IntKind.wrap .i64 (1 + n456))) (iV 0) fun Zh =>
 bH Zh k5 0 fun n461 n462 n463 n464 =>
 K (.agg #[(iV n461), (iV n462), (iV n463), (iV n464)]) Zh) Kp)
 (aO (sL == 22)
 (rI dP k3 1 fun n465 =>
 aa Tryz.prog 66 #[(iV n465), (iV 1000)] dP (fun v466 M467 =>
 aJ (some v466) .i64 fun n468 =>
 kB M467 k5 (iV 22) (iV n468) (iV 0) (iV 0) fun Zi =>
 bH Zi k5 0 fun n473 n474 n475 n476 =>
 K (.agg #[(iV n473), (iV n474), (iV n475), (iV n476)]) Zi) Kp)
 (rI dP k3 0 fun n477 =>
 kB dP k5 (iV n477) (iV 0) (iV 0) (iV 0) fun Zj =>
 bH Zj k5 0 fun n482 n483 n484 n485 =>
 K (.agg #[(iV n482), (iV n483), (iV n484), (iV n485)]) Zj)))))))))))))))))))))) Kp) Kp) Kp) Kp) :
 aa Tryz.prog 67 #[.agg #[.slice mL mN mO, .slice mP mQ mR, .int .i64 gR, .slice mS mT mU], .slice B1 m1 c1, .agg #[.int .i64 Nf, .int .i64 Ng, .int .i64 Nh, .int .i64 Ni]] M K Kp := vw [(2, .bQ [0, 1, 3, 0, 8, 31, 0, 64, 255, 511, 1023, 2047] (sy [0, 3, 6, 1] (.dD 4 (.dD 7 (sy [2, 5, 8, 9, 10, 11] .done))))), (3, .bQ [0, 1, 3, 0, 8, 24, 0, 64, 192, 7, 575, 2047] (sy [0, 3, 6, 1, 2, 9, 4, 5, 10, 7, 8, 11] .done)), (20, .bQ [0, 1, 0, 4, 0, 28, 0, 0, 255, 511] (sy [0, 2, 4, 6, 7, 3] (.dD 1 (sy [5, 8, 9] .done)))), (30, .bQ [0, 1, 0, 4, 0, 28, 63, 0, 255] (sy [0, 2, 4, 3] (.dD 1 (.late 5 (sy [6, 7, 8] .done))))), (45, .bQ [0, 1, 0, 4, 0, 16, 60, 127, 255] (sy [0, 2, 4, 3, 5] (.dD 1 (sy [6, 7, 8] .done))))] Tryz.func67 h
end Go.Proofs
namespace Go.Proofs
open Go.AF
set_option maxRecDepth 100000
theorem oL  {M : Mem} {K : Value → Mem → Prop} {Kp : List PanicEntry → Mem → Prop} (h :
bh M (cl [(iV 1), (.int .u64 0), (iV 1), (.int .u64 1), (iV 1), (.int .u64 0)] 95) fun k1 M2 =>
aa Tryz.prog 75 #[(.slice (some ⟨k1, 0, none⟩) 3 3), (iV 2)] M2 (fun v3 M4 =>
aJ (some v3) .i64 fun n5 =>
aO (n5 == 2)
 (aa Tryz.prog 30 #[(.agg #[(iV 0), (iV 0), (iV 2), (iV 1)]), (iV 1), (iV 1)] M4 (fun v6 M7 =>
 aJ (some v6) .i64 fun n8 =>
 K (.bool (n8 == 156)) M7) Kp)
 (K (.bool false) M4)) Kp) :
 aa Tryz.prog 36 #[] M K Kp := vw [] Tryz.func36 h
theorem mW {mL : Option Addr} {mN mO : Nat} {mP : Option Addr} {mQ mR : Nat} {gR : Int} {mS : Option Addr} {mT mU : Nat} {cU : Int} {cV : Int} {cW : Int} {eX : Int} {B2 : Option Addr} {m2 c2 : Nat} {M : Mem} {K : Value → Mem → Prop} {Kp : List PanicEntry → Mem → Prop} (h :
bh M (cl [(.slice mL mN mO), (.slice mP mQ mR), (iV gR), (.slice mS mT mU)] 59) fun k1 M2 =>
bh M2 (cl [(iV cU), (iV cV), (iV cW), (iV eX)] 23) fun k3 M4 =>
aa Tryz.prog 36 #[] M4 (fun v5 M6 =>
de (some v5) fun t7 =>
aO (!t7)
 (K (.bool false) M6)
 (rI M6 k3 0 fun n8 =>
 rI M6 k3 1 fun n9 =>
 rI M6 k3 2 fun iZ =>
 rI M6 k3 3 fun iI =>
 aa Tryz.prog 14 #[(.agg #[(iV n8), (iV n9), (iV iZ), (iV iI)])] M6 (fun Im mG =>
 ∃ lY kZ nh iQ : Int, (Im = (.agg #[(iV lY), (iV kZ), (iV nh), (iV iQ)])) ∧
 bh mG JX fun fI jB =>
 kB jB fI (iV lY) (iV kZ) (iV nh) (iV iQ) fun mj =>
 ((0 : Int) ≤ c2) ∧
 ((c2 : Int) ≤ c2) ∧
 ((0 : Int) ≤ (if (400 : Int) < (m2 : Int) then 400 else (m2 : Int))) ∧
 (((if (400 : Int) < (m2 : Int) then 400 else (m2 : Int)) : Int) ≤ (c2 : Int)) ∧
 ((0 : Int) ≤ 0) ∧
 ((0 : Int) ≤ (if (400 : Int) < (m2 : Int) then 400 else (m2 : Int))) ∧
 yJ mj k1 0 fun Ly qP sj PB oC iq Ey TO uo so =>
 bH mj fI 0 fun Ke DH vP Eo =>
 (True) ∧
 aa Tryz.prog 24 #[(.agg #[(.slice Ly qP sj), (.slice PB oC iq), (iV Ey), (.slice TO uo so)])] mj (fun v38 Nj =>
 ∃ XQ : Option Addr, ∃ It Lw : Nat, ∃ A43 : Option Addr, ∃ Gq FG : Nat, ∃ DI : Int, ∃ A47 : Option Addr, ∃ Qp GB : Nat, (v38 = (.agg #[(.slice XQ It Lw), (.slice A43 Gq FG), (iV DI), (.slice A47 Qp GB)])) ∧
 ((Mem.iS Nj ⟨fI, 0, none⟩ 0 4) = some [(iV Ke), (iV DH), (iV vP), (iV Eo)]) ∧
 (True) ∧
 aa Tryz.prog 25 #[(.agg #[(.slice XQ It Lw), (.slice A43 Gq FG), (iV DI), (.slice A47 Qp GB)])] Nj (fun v50 So =>
 ∃ A52 : Option Addr, ∃ qB J5 : Nat, ∃ A55 : Option Addr, ∃ LA Au : Nat, ∃ CP : Int, ∃ A59 : Option Addr, ∃ k60 k61 : Nat, (v50 = (.agg #[(.slice A52 qB J5), (.slice A55 LA Au), (iV CP), (.slice A59 k60 k61)])) ∧
 ((Mem.iS So ⟨fI, 0, none⟩ 0 4) = some [(iV Ke), (iV DH), (iV vP), (iV Eo)]) ∧
 (True) ∧
 aa Tryz.prog 29 #[(.agg #[(.slice A52 qB J5), (.slice A55 LA Au), (iV CP), (.slice A59 k60 k61)]), (.agg #[(iV Ke), (iV DH), (iV vP), (iV Eo)]), (.slice (lp B2 0 (Int.toNat (c2 : Int)) 1) ((Int.toNat (if (400 : Int) < (m2 : Int) then 400 else (m2 : Int))) - 0) ((Int.toNat (c2 : Int)) - 0)), (iV 400)] So (fun Qq Al =>
 ∃ n64 xT Sn Sy : Int, (Qq = (.agg #[(iV n64), (iV xT), (iV Sn), (iV Sy)])) ∧
 ((Mem.iS Al ⟨fI, 0, none⟩ 0 4) = some [(iV Ke), (iV DH), (iV vP), (iV Eo)]) ∧
 bh Al BJ fun xD M69 =>
 kB M69 xD (iV n64) (iV xT) (iV Sn) (iV Sy) fun tN =>
 ((Mem.iS tN ⟨fI, 0, none⟩ 0 4) = some [(iV Ke), (iV DH), (iV vP), (iV Eo)]) ∧
 rI tN xD 2 fun Nq =>
 aO (Nq == 0)
 (K (.bool true) tN)
 (rI tN fI 0 fun CQ =>
 rI tN fI 1 fun J7 =>
 rI tN fI 2 fun CR =>
 rI tN fI 3 fun C5 =>
 rI tN xD 2 fun n79 =>
 rI tN xD 1 fun XW =>
 rI tN xD 3 fun QN =>
 aa Tryz.prog 30 #[(.agg #[(iV CQ), (iV J7), (iV CR), (iV C5)]), (iV n79), (iV XW)] tN (fun v82 Av =>
 aJ (some v82) .i64 fun Iu =>
 eI Av xD 3 QN ∧
 K (.bool (decide (QN ≤ Iu))) Av) Kp)) Kp) Kp) Kp) Kp)) Kp) :
 aa Tryz.prog 8 #[.agg #[.slice mL mN mO, .slice mP mQ mR, .int .i64 gR, .slice mS mT mU], .agg #[.int .i64 cU, .int .i64 cV, .int .i64 cW, .int .i64 eX], .slice B2 m2 c2] M K Kp := vw [(4, .bQ [0, 1, 3, 0, 0, 0, 32, 96, 240, 511, 0, 2047] (sy [4, 5, 6, 7, 8, 0] (.dD 3 (.late 1 (.late 2 (.late 9 (sy [10, 11] .done))))))), (5, .bQ [0, 1, 3, 7, 15, 31, 15, 15, 143, 15, 527, 1999, 4095, 8191, 16383] (sy [0, 1, 2, 3, 4, 7, 9, 6, 8, 10] (.dD 5 (sy [11, 12, 13, 14] .done))))] Tryz.func8 h
end Go.Proofs
