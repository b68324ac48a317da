/- A part of proofs about one program. -/
import Derived.Test.YtnnlgknlialpmaaGreatZReplayTold0
set_option linter.unusedVariables false
namespace Go.Proofs
open Go.AF
set_option maxRecDepth 100000
variable {M : Mem} {K : Value → Mem → Prop} {Kp : List PanicEntry → Mem → Prop}
theorem tN {r0 : ByteArray} (h :
aX M J2 fun k1 M2 =>
aX M2 G7 fun k3 M4 =>
sT M4 k3 0 (iV 0) fun M5 =>
aa Tryz.prog 169 #[(.string r0), (.int .u64 0), (.func (.func 170) #[] #[(.pointer (some ⟨k1, 0, none⟩)), (.pointer (some ⟨k3, 0, none⟩))])] M5 (fun v6 M7 =>
aE (some v6) .i64 fun n8 =>
rS M7 k1 0 fun A9 cX cN =>
rI M7 k3 0 fun ek =>
K (.tuple #[(.slice A9 cX cN), (iV n8), (iV ek)]) M7) Kp) :
 aa Tryz.prog 144 #[.string r0] M K Kp := vw [(4, .bL [0, 0, 0, 1, 11, 31] (sy [1, 0, 3, 4, 2, 5] .done))] Tryz.func144 h
theorem tO {r0 : ByteArray} {x1 : Int} {u2 : Value} (h :
∃ I1 : IT, (∃ k2, I1 k2 [(.int .u64 x1), (iV 0)] M) ∧
∀ (k3 : Nat) (_ : Nat → Value) (n5 : Int) (n6 : Int) (M7 : Mem), (I1 k3 [(.int .u64 n5), (iV n6)] M7) → aa Tryz.prog 196 #[(.string r0), (iV n6)] M7 (fun v8 M9 =>
∃ gA : Int, ∃ s11 : ByteArray, ∃ ek gG : Int, (v8 = (.tuple #[(.int .u64 gA), (.string s11), (iV ek), (iV gG)])) ∧
aK (gG != 0)
 (K (iV n6) M9)
 (aK (gA != n5)
 (K (iV n6) M9)
 (gn Cx u2 [(.string s11), (iV ek)] M9 (fun QL pK =>
 cY (some QL) fun t16 =>
 aK (!t16)
 (K (iV n6) pK)
 (∃ dm : Nat, (dm < k3) ∧
 I1 dm [(.int .u64 (IntKind.wrap .u64 (n5 + 1))), (iV ek)] pK)) Kp))) Kp) :
 aa Tryz.prog 169 #[.string r0, .int .u64 x1, u2] M K Kp := vw [(2000000, .loop [(1, .c (.int .u64)), (7, .c (.int .i64))])] Tryz.func169 h
theorem tP {r0 : ByteArray} {x1 : Int} (h :
aK (decide ((x1 : Int) < 0))
 (K (.tuple #[(.int .u64 0), (.string ({ data := #[] })), (iV 0), (iV 4)]) M)
 (aK (decide ((x1 : Int) > (((ByteArray.size r0) : Nat) : Int)))
 (K (.tuple #[(.int .u64 0), (.string ({ data := #[] })), (iV 0), (iV 4)]) M)
 (aa Tryz.prog 223 #[(.string r0), (iV x1)] M (fun v1 M2 =>
 ∃ n3 n4 n5 n6 : Int, (v1 = (.tuple #[(.int .u64 n3), (iV n4), (iV n5), (iV n6)])) ∧
 aK (n6 != 0)
 (K (.tuple #[(.int .u64 0), (.string ({ data := #[] })), (iV 0), (iV n6)]) M2)
 (aK (decide ((n4 : Int) > (IntKind.wrap .i64 ((IntKind.wrap .i64 ((((ByteArray.size r0) : Nat) : Int) - n5)) - 4))))
 (K (.tuple #[(.int .u64 0), (.string ({ data := #[] })), (iV 0), (iV 2)]) M2)
 (((0 : Int) ≤ (((ByteArray.size r0) : Nat) : Int)) ∧
 (((((ByteArray.size r0) : Nat) : Int) : Int) ≤ (((ByteArray.size r0) : Nat) : Int)) ∧
 ((0 : Int) ≤ (IntKind.wrap .i64 ((IntKind.wrap .i64 (n5 + n4)) + 4))) ∧
 (((IntKind.wrap .i64 ((IntKind.wrap .i64 (n5 + n4)) + 4)) : Int) ≤ (((ByteArray.size r0) : Nat) : Int)) ∧
 ((0 : Int) ≤ (IntKind.wrap .i64 (n5 + n4))) ∧
 (((IntKind.wrap .i64 (n5 + n4)) : Int) ≤ (IntKind.wrap .i64 ((IntKind.wrap .i64 (n5 + n4)) + 4))) ∧
 ((0 : Int) ≤ (((ByteArray.size r0) : Nat) : Int)) ∧
 (((((ByteArray.size r0) : Nat) : Int) : Int) ≤ (((ByteArray.size r0) : Nat) : Int)) ∧
 ((0 : Int) ≤ (IntKind.wrap .i64 (n5 + n4))) ∧
 (((IntKind.wrap .i64 (n5 + n4)) : Int) ≤ (((ByteArray.size r0) : Nat) : Int)) ∧
 ((0 : Int) ≤ x1) ∧
 ((x1 : Int) ≤ (IntKind.wrap .i64 (n5 + n4))) ∧
 aX M2 (cl [(.string (ByteArray.extract r0 (Int.toNat x1) (Int.toNat (IntKind.wrap .i64 (n5 + n4)))))] 9) fun k7 M8 =>
 aa Tryz.prog 102 #[(.slice (some ⟨k7, 0, none⟩) 1 1)] M8 (fun v9 iQ =>
 aE (some v9) .u32 fun fA =>
 aa Tryz.prog 118 #[(.int .u32 fA)] iQ (fun F2 jB =>
 gh (some F2) fun s14 =>
 aK (!((r0.extract (IntKind.i64.wrap (n5 + n4)).toNat (IntKind.i64.wrap (IntKind.i64.wrap (n5 + n4) + 4)).toNat).toList ==
 s14.toList))
 (K (.tuple #[(.int .u64 0), (.string ({ data := #[] })), (iV 0), (iV 7)]) jB)
 (((0 : Int) ≤ (((ByteArray.size r0) : Nat) : Int)) ∧
 (((((ByteArray.size r0) : Nat) : Int) : Int) ≤ (((ByteArray.size r0) : Nat) : Int)) ∧
 ((0 : Int) ≤ (IntKind.wrap .i64 (n5 + n4))) ∧
 (((IntKind.wrap .i64 (n5 + n4)) : Int) ≤ (((ByteArray.size r0) : Nat) : Int)) ∧
 (0 ≤ n5) ∧
 ((n5 : Int) ≤ (IntKind.wrap .i64 (n5 + n4))) ∧
 K (.tuple #[(.int .u64 n3), (.string (ByteArray.extract r0 (Int.toNat n5) (Int.toNat (IntKind.wrap .i64 (n5 + n4))))), (iV (IntKind.wrap .i64 ((IntKind.wrap .i64 (n5 + n4)) + 4))), (iV 0)]) jB)) Kp) Kp))) Kp))) :
 aa Tryz.prog 196 #[.string r0, .int .i64 x1] M K Kp := vw [(8, .bL [0, 0, 0, 6, 0, 0, 48, 112, 255, 0, 0, 0, 0, 6144, 15872, 32256, 65024, 130560, 262143, 524287] (sy [0, 1, 2, 3, 4, 5, 6, 7, 8, 9, 10, 11, 12, 13, 14, 15, 16, 17, 18, 19] .done)), (10, .bL [0, 0, 0, 0, 0, 24, 62, 0, 0, 384, 896, 1, 2175, 8191, 16383] (sy [0, 1, 2, 3, 4, 5, 6, 7, 8, 9, 10, 11, 12, 13, 14] .done))] Tryz.func196 h
theorem tQ {r0 : ByteArray} {x1 : Int} (h :
∃ I1 : IT, (∃ k2, I1 k2 [(iV 0)] M) ∧
∀ (k3 : Nat) (_ : Nat → Value) (n5 : Int) (M6 : Mem), (I1 k3 [(iV n5)] M6) → aK (decide (n5 < 2))
 (aK (decide (((IntKind.wrap .i64 (x1 + n5)) : Int) ≥ (((ByteArray.size r0) : Nat) : Int)))
 (K (.tuple #[(.int .u64 0), (iV 0), (iV 0), (iV 2)]) M6)
 (((0 : Int) ≤ (IntKind.wrap .i64 (x1 + n5))) ∧
 (((IntKind.wrap .i64 (x1 + n5)) : Int) < (((ByteArray.size r0) : Nat) : Int)) ∧
 (0 ≤ n5) ∧
 (n5 < 2) ∧
 aK ((DF r0 (Int.toNat (IntKind.wrap .i64 (x1 + n5)))) != (DF ({ data := #[83, 103] }) (Int.toNat n5)))
 (K (.tuple #[(.int .u64 0), (iV 0), (iV 0), (iV 1)]) M6)
 (∃ k7 : Nat, (k7 < k3) ∧
 I1 k7 [(iV (IntKind.wrap .i64 (n5 + 1)))] M6)))
 (aa Tryz.prog 247 #[(.string r0), (iV (IntKind.wrap .i64 (x1 + 2)))] M6 (fun v8 M9 =>
 ∃ gA fA ek : Int, (v8 = (.tuple #[(.int .u64 gA), (iV fA), (iV ek)])) ∧
 aK (ek != 0)
 (K (.tuple #[(.int .u64 0), (iV 0), (iV 0), (iV ek)]) M9)
 (aa Tryz.prog 247 #[(.string r0), (iV fA)] M9 (fun BS jz =>
 ∃ fk jf fB : Int, (BS = (.tuple #[(.int .u64 fk), (iV jf), (iV fB)])) ∧
 aK (fB != 0)
 (K (.tuple #[(.int .u64 0), (iV 0), (iV 0), (iV fB)]) jz)
 (aK (decide (fk > 4096))
 (K (.tuple #[(.int .u64 0), (iV 0), (iV 0), (iV 3)]) jz)
 (K (.tuple #[(.int .u64 gA), (iV (IntKind.wrap .i64 fk)), (iV jf), (iV 0)]) jz))) Kp)) Kp)) :
 aa Tryz.prog 223 #[.string r0, .int .i64 x1] M K Kp := vw [(2000000, .loop [(13, .c (.int .i64))]), (6, .bL [0, 0, 0, 6, 15, 0, 32, 127] (sy [0, 1, 2, 3, 4, 5, 6, 7] .done))] Tryz.func223 h
end Go.Proofs
namespace Go.Proofs
open Go.AF
set_option maxRecDepth 100000
variable {M : Mem} {K : Value → Mem → Prop} {Kp : List PanicEntry → Mem → Prop}
theorem iJ {jM : Int} {jN : Int} {eR : Int} {fS : Option Addr} {fT fU : Nat} {qC : Option Addr} {qD qE : Nat} {bP : Int} {bQ : Int} {bR : Int} {vl : Option Addr} {vn vo : Nat} {vp : Option Addr} {vq vr : Nat} (h :
aX M (cl [(iV jM), (iV jN), (iV eR), (.slice fS fT fU), (.slice qC qD qE)] 120) fun k1 M2 =>
aX M2 (cl [(iV bP), (iV bQ), (iV bR), (.slice vl vn vo), (.slice vp vq vr)] 120) fun k3 M4 =>
aa Tryz.prog 47 #[] M4 (fun v5 M6 =>
cY (some v5) fun t7 =>
aK (!t7)
 (K (.bool false) M6)
 (rI M6 k1 0 fun n8 =>
 rI M6 k1 1 fun n9 =>
 rI M6 k1 2 fun gA =>
 rS M6 k1 3 fun yY di cI =>
 rS M6 k1 4 fun gz eV dk =>
 yI M6 k3 0 fun fB fy iS D3 cU eX CA kU oq =>
 (True) ∧
 (True) ∧
 aa Tryz.prog 48 #[(.agg #[(iV n8), (iV n9), (iV gA), (.slice yY di cI), (.slice gz eV dk)])] M6 (fun MY ou =>
 ∃ oO tE sV : Int, ∃ wD : Option Addr, ∃ l8 kX : Nat, ∃ Jz : Option Addr, ∃ pH wC : Nat, ∃ wA uN yM CJ CQ wE : Int, (MY = (.agg #[(iV oO), (iV tE), (iV sV), (.slice wD l8 kX), (.slice Jz pH wC), (iV wA), (iV uN), (iV yM), (iV CJ), (iV CQ), (.int .u64 wE)])) ∧
 ((Mem.dP ou ⟨k3, 0, none⟩ 0 5) = some [(iV fB), (iV fy), (iV iS), (.slice D3 cU eX), (.slice CA kU oq)]) ∧
 (True) ∧
 (True) ∧
 aa Tryz.prog 48 #[(.agg #[(iV fB), (iV fy), (iV iS), (.slice D3 cU eX), (.slice CA kU oq)])] ou (fun QI ug =>
 ∃ tG wX ru : Int, ∃ Gg : Option Addr, ∃ Ga Jn : Nat, ∃ Jm : Option Addr, ∃ nm rj : Nat, ∃ Jt Jv wH BY zC yN : Int, (QI = (.agg #[(iV tG), (iV wX), (iV ru), (.slice Gg Ga Jn), (.slice Jm nm rj), (iV Jt), (iV Jv), (iV wH), (iV BY), (iV zC), (.int .u64 yN)])) ∧
 ((Mem.dP ug ⟨k3, 0, none⟩ 0 5) = some [(iV fB), (iV fy), (iV iS), (.slice D3 cU eX), (.slice CA kU oq)]) ∧
 aX ug bD fun cj yO =>
 aX yO bD fun wY tB =>
 nk tB cj (iV oO) (iV tE) (iV sV) (.slice wD l8 kX) (.slice Jz pH wC) (iV wA) (iV uN) (iV yM) (iV CJ) (iV CQ) (.int .u64 wE) fun xS =>
 ((Mem.dP xS ⟨k3, 0, none⟩ 0 5) = some [(iV fB), (iV fy), (iV iS), (.slice D3 cU eX), (.slice CA kU oq)]) ∧
 nk xS wY (iV tG) (iV wX) (iV ru) (.slice Gg Ga Jn) (.slice Jm nm rj) (iV Jt) (iV Jv) (iV wH) (iV BY) (iV zC) (.int .u64 yN) fun SD =>
 ((Mem.dP SD ⟨k3, 0, none⟩ 0 5) = some [(iV fB), (iV fy), (iV iS), (.slice D3 cU eX), (.slice CA kU oq)]) ∧
 ∃ SR : IT, (∃ QO, SR QO [(iV (-1)), (iV 0)] SD) ∧
 ∀ (HH : Nat) (_ : Nat → Value) (D5 : Int) (AO : Int) (gI : Mem), (SR HH [(iV D5), (iV AO)] gI) → rS gI cj 4 fun A93 Kk k95 =>
 aK (decide (AO < Kk))
 (rS gI wY 4 fun A96 k97 Ku =>
 aK (decide (AO < k97))
 (aK (decide (D5 < 0))
 (rS gI cj 4 fun A99 Wn HI =>
 (0 ≤ AO) ∧
 (AO < Wn) ∧
 az A99 fun y5 qB =>
 aE (Mem.ld gI ⟨y5, (qB + (Int.toNat AO)), none⟩) .u32 fun Fv =>
 rS gI wY 4 fun r9 nQ zc =>
 (0 ≤ AO) ∧
 (AO < nQ) ∧
 az r9 fun Wo zd =>
 aE (Mem.ld gI ⟨Wo, (zd + (Int.toNat AO)), none⟩) .u32 fun Hv =>
 aK (Fv != Hv)
 (∃ RA : Nat, (RA < HH) ∧
 SR RA [(iV AO), (iV (IntKind.wrap .i64 (AO + 1)))] gI)
 (∃ AJ : Nat, (AJ < HH) ∧
 SR AJ [(iV D5), (iV (IntKind.wrap .i64 (AO + 1)))] gI))
 (rI gI cj 0 fun yT =>
 rI gI cj 1 fun yU =>
 rI gI cj 2 fun OA =>
 rS gI cj 3 fun Wp Io Wq =>
 rS gI cj 4 fun Wr Ip Ws =>
 rI gI cj 5 fun HK =>
 rI gI cj 6 fun Wu =>
 rI gI cj 7 fun KE =>
 rI gI cj 8 fun AM =>
 rI gI cj 9 fun AN =>
 rU gI cj 10 fun vb =>
 yI gI wY 0 fun tM Fb Fc AH u9 Fe Wv ze zf =>
 aa Tryz.prog 49 #[(.agg #[(iV yT), (iV yU), (iV OA), (.slice Wp Io Wq), (.slice Wr Ip Ws), (iV HK), (iV Wu), (iV KE), (iV AM), (iV AN), (.int .u64 vb)]), (.agg #[(iV tM), (iV Fb), (iV Fc), (.slice AH u9 Fe), (.slice Wv ze zf)])] gI (fun Ww CT =>
 aE (some Ww) .i64 fun Wx =>
 aN CT cj 0 fun Ns Nt Nu Nv Nw Nx Wy Wz HX WB za HM HN WC WD =>
 aN CT wY 0 fun WE WG WH WI HY HZ WJ H6 H7 OB WK WL WM OC H9 =>
 aa Tryz.prog 50 #[(.agg #[(iV Ns), (iV Nt), (iV Nu), (.slice Nv Nw Nx), (.slice Wy Wz HX), (iV WB), (iV za), (iV HM), (iV HN), (iV WC), (.int .u64 WD)]), (.agg #[(iV WE), (iV WG), (iV WH), (.slice WI HY HZ), (.slice WJ H6 H7), (iV OB), (iV WK), (iV WL), (iV WM), (iV OC), (.int .u64 H9)])] CT (fun WN qF =>
 aE (some WN) .i64 fun KI =>
 aK (KI == D5)
 (rI qF cj 0 fun KJ =>
 rI qF cj 1 fun WO =>
 rI qF cj 2 fun WQ =>
 rS qF cj 3 fun WR WS KK =>
 rS qF cj 4 fun WT WU WV =>
 rI qF cj 5 fun Fo =>
 rI qF cj 6 fun KL =>
 rI qF cj 7 fun KM =>
 rI qF cj 8 fun Fp =>
 rI qF cj 9 fun WW =>
 rU qF cj 10 fun WX =>
 aN qF wY 0 fun Ia WY WZ W0 Q7 N1 W1 W2 W3 OD Fq OE W4 Kx Ib =>
 aa Tryz.prog 51 #[(.agg #[(iV KJ), (iV WO), (iV WQ), (.slice WR WS KK), (.slice WT WU WV), (iV Fo), (iV KL), (iV KM), (iV Fp), (iV WW), (.int .u64 WX)]), (.agg #[(iV Ia), (iV WY), (iV WZ), (.slice W0 Q7 N1), (.slice W1 W2 W3), (iV OD), (iV Fq), (iV OE), (iV W4), (iV Kx), (.int .u64 Ib)])] qF (fun W5 jR =>
 cY (some W5) fun t205 =>
 aK (t205 == (Wx == 0))
 (rI jR cj 0 fun OF =>
 rI jR cj 1 fun OG =>
 rI jR cj 2 fun OH =>
 rS jR cj 3 fun W6 Ic W7 =>
 rS jR cj 4 fun W8 W9 Xa =>
 rI jR cj 5 fun Xb =>
 rI jR cj 6 fun Xc =>
 rI jR cj 7 fun KN =>
 rI jR cj 8 fun Fs =>
 rI jR cj 9 fun Ft =>
 rU jR cj 10 fun N5 =>
 aN jR cj 0 fun Xd Xe Xf Xg KO Xh Xi Q8 Xj KP KQ N6 Xk Xl Xm =>
 aa Tryz.prog 51 #[(.agg #[(iV OF), (iV OG), (iV OH), (.slice W6 Ic W7), (.slice W8 W9 Xa), (iV Xb), (iV Xc), (iV KN), (iV Fs), (iV Ft), (.int .u64 N5)]), (.agg #[(iV Xd), (iV Xe), (iV Xf), (.slice Xg KO Xh), (.slice Xi Q8 Xj), (iV KP), (iV KQ), (iV N6), (iV Xk), (iV Xl), (.int .u64 Xm)])] jR (fun Xn Xo =>
 cY (some Xn) fun t238 =>
 K (.bool t238) Xo) Kp)
 (K (.bool false) jR)) Kp)
 (K (.bool false) qF)) Kp) Kp))
 (rI gI cj 0 fun Xp =>
 rI gI cj 1 fun Xq =>
 rI gI cj 2 fun Xr =>
 rS gI cj 3 fun Xs Xt Xu =>
 rS gI cj 4 fun Xv Xw Ig =>
 rI gI cj 5 fun Xx =>
 rI gI cj 6 fun Xy =>
 rI gI cj 7 fun Xz =>
 rI gI cj 8 fun KA =>
 rI gI cj 9 fun CU =>
 rU gI cj 10 fun OI =>
 yI gI wY 0 fun OJ OK OL XA XB Ii XC XD XE =>
 aa Tryz.prog 49 #[(.agg #[(iV Xp), (iV Xq), (iV Xr), (.slice Xs Xt Xu), (.slice Xv Xw Ig), (iV Xx), (iV Xy), (iV Xz), (iV KA), (iV CU), (.int .u64 OI)]), (.agg #[(iV OJ), (iV OK), (iV OL), (.slice XA XB Ii), (.slice XC XD XE)])] gI (fun XF Ij =>
 aE (some XF) .i64 fun XG =>
 aN Ij cj 0 fun XH XI Od XJ XK XL XM Oe XN XO XP XQ XR XS XT =>
 aN Ij wY 0 fun XU Of XV XW XX Og XY XZ X0 X3 X4 X5 Oh Oi Oj =>
 aa Tryz.prog 50 #[(.agg #[(iV XH), (iV XI), (iV Od), (.slice XJ XK XL), (.slice XM Oe XN), (iV XO), (iV XP), (iV XQ), (iV XR), (iV XS), (.int .u64 XT)]), (.agg #[(iV XU), (iV Of), (iV XV), (.slice XW XX Og), (.slice XY XZ X0), (iV X3), (iV X4), (iV X5), (iV Oh), (iV Oi), (.int .u64 Oj)])] Ij (fun X6 qG =>
 aE (some X6) .i64 fun X7 =>
 aK (X7 == D5)
 (rI qG cj 0 fun X8 =>
 rI qG cj 1 fun X9 =>
 rI qG cj 2 fun Ya =>
 rS qG cj 3 fun Yb Yc Yd =>
 rS qG cj 4 fun Ye Yf Yg =>
 rI qG cj 5 fun Yh =>
 rI qG cj 6 fun Yi =>
 rI qG cj 7 fun Yj =>
 rI qG cj 8 fun Yk =>
 rI qG cj 9 fun Yl =>
 rU qG cj 10 fun Ym =>
 aN qG wY 0 fun Yn Yo Yp Yq Yr Ys Yt Yu Yv Yw Yx Yy Yz YA YB =>
 aa Tryz.prog 51 #[(.agg #[(iV X8), (iV X9), (iV Ya), (.slice Yb Yc Yd), (.slice Ye Yf Yg), (iV Yh), (iV Yi), (iV Yj), (iV Yk), (iV Yl), (.int .u64 Ym)]), (.agg #[(iV Yn), (iV Yo), (iV Yp), (.slice Yq Yr Ys), (.slice Yt Yu Yv), (iV Yw), (iV Yx), (iV Yy), (iV Yz), (iV YA), (.int .u64 YB)])] qG (fun YC qH =>
 cY (some YC) fun t331 =>
 aK (t331 == (XG == 0))
 (rI qH cj 0 fun YD =>
 rI qH cj 1 fun YE =>
 rI qH cj 2 fun YF =>
 rS qH cj 3 fun YG YH YI =>
 rS qH cj 4 fun YJ YK YL =>
 rI qH cj 5 fun YM =>
 rI qH cj 6 fun YN =>
 rI qH cj 7 fun YO =>
 rI qH cj 8 fun YP =>
 rI qH cj 9 fun YQ =>
 rU qH cj 10 fun YR =>
 aN qH cj 0 fun YS YT YU YV YW YX YY YZ Y0 Y3 Y4 Y5 Y6 Y7 Y8 =>
 aa Tryz.prog 51 #[(.agg #[(iV YD), (iV YE), (iV YF), (.slice YG YH YI), (.slice YJ YK YL), (iV YM), (iV YN), (iV YO), (iV YP), (iV YQ), (.int .u64 YR)]), (.agg #[(iV YS), (iV YT), (iV YU), (.slice YV YW YX), (.slice YY YZ Y0), (iV Y3), (iV Y4), (iV Y5), (iV Y6), (iV Y7), (.int .u64 Y8)])] qH (fun Y9 Za =>
 cY (some Y9) fun t364 =>
 K (.bool t364) Za) Kp)
 (K (.bool false) qH)) Kp)
 (K (.bool false) qG)) Kp) Kp))
 (rI gI cj 0 fun Zb =>
 rI gI cj 1 fun Zc =>
 rI gI cj 2 fun Zd =>
 rS gI cj 3 fun Ze Zf Zg =>
 rS gI cj 4 fun Zh Zi Zj =>
 rI gI cj 5 fun Zk =>
 rI gI cj 6 fun Zl =>
 rI gI cj 7 fun Zm =>
 rI gI cj 8 fun Zn =>
 rI gI cj 9 fun Zo =>
 rU gI cj 10 fun Zp =>
 yI gI wY 0 fun Zq Zr Zs Zt Zu Zv Zw Zx Zy =>
 aa Tryz.prog 49 #[(.agg #[(iV Zb), (iV Zc), (iV Zd), (.slice Ze Zf Zg), (.slice Zh Zi Zj), (iV Zk), (iV Zl), (iV Zm), (iV Zn), (iV Zo), (.int .u64 Zp)]), (.agg #[(iV Zq), (iV Zr), (iV Zs), (.slice Zt Zu Zv), (.slice Zw Zx Zy)])] gI (fun Zz OM =>
 aE (some Zz) .i64 fun ZA =>
 aN OM cj 0 fun ZB ZC ZD ZE ZF ZG ZH ZI ZJ ZK ZL ZM ZN ZO ZP =>
 aN OM wY 0 fun ZQ ZR ZS ZT ZU ZV ZW ZX ZY ZZ Z0 Z1 Z2 Z3 Z4 =>
 aa Tryz.prog 50 #[(.agg #[(iV ZB), (iV ZC), (iV ZD), (.slice ZE ZF ZG), (.slice ZH ZI ZJ), (iV ZK), (iV ZL), (iV ZM), (iV ZN), (iV ZO), (.int .u64 ZP)]), (.agg #[(iV ZQ), (iV ZR), (iV ZS), (.slice ZT ZU ZV), (.slice ZW ZX ZY), (iV ZZ), (iV Z0), (iV Z1), (iV Z2), (iV Z3), (.int .u64 Z4)])] OM (fun Z5 qI =>
 aE (some Z5) .i64 fun Z6 =>
 aK (Z6 == D5)
 (rI qI cj 0 fun Z7 =>
 rI qI cj 1 fun Z8 =>
 rI qI cj 2 fun Z9 =>
 rS qI cj 3 fun aaa aab aac =>
 rS qI cj 4 fun aad aae aaf =>
 rI qI cj 5 fun aag =>
 rI qI cj 6 fun aah =>
 rI qI cj 7 fun aai =>
 rI qI cj 8 fun aaj =>
 rI qI cj 9 fun aak =>
 rU qI cj 10 fun aal =>
 aN qI wY 0 fun aam aan aao aap aaq aar aas aat aau aav aaw aax aay aaz aaA =>
 aa Tryz.prog 51 #[(.agg #[(iV Z7), (iV Z8), (iV Z9), (.slice aaa aab aac), (.slice aad aae aaf), (iV aag), (iV aah), (iV aai), (iV aaj), (iV aak), (.int .u64 aal)]), (.agg #[(iV aam), (iV aan), (iV aao), (.slice aap aaq aar), (.slice aas aat aau), (iV aav), (iV aaw), (iV aax), (iV aay), (iV aaz), (.int .u64 aaA)])] qI (fun aaB qJ =>
 cY (some aaB) fun aaC =>
 aK (aaC == (ZA == 0))
 (rI qJ cj 0 fun aaD =>
 rI qJ cj 1 fun aaE =>
 rI qJ cj 2 fun aaF =>
 rS qJ cj 3 fun aaG aaH aaI =>
 rS qJ cj 4 fun aaJ aaK aaL =>
 rI qJ cj 5 fun aaM =>
 rI qJ cj 6 fun aaN =>
 rI qJ cj 7 fun aaO =>
 rI qJ cj 8 fun aaP =>
 rI qJ cj 9 fun aaQ =>
 rU qJ cj 10 fun aaR =>
 aN qJ cj 0 fun aaS aaT aaU aaV aaW aaX aaY aaZ aa0 aa1 aa2 aa3 aa4 aa5 aa6 =>
 aa Tryz.prog 51 #[(.agg #[(iV aaD), (iV aaE), (iV aaF), (.slice aaG aaH aaI), (.slice aaJ aaK aaL), (iV aaM), (iV aaN), (iV aaO), (iV aaP), (iV aaQ), (.int .u64 aaR)]), (.agg #[(iV aaS), (iV aaT), (iV aaU), (.slice aaV aaW aaX), (.slice aaY aaZ aa0), (iV aa1), (iV aa2), (iV aa3), (iV aa4), (iV aa5), (.int .u64 aa6)])] qJ (fun aa7 aa8 =>
 cY (some aa7) fun aa9 =>
 K (.bool aa9) aa8) Kp)
 (K (.bool false) qJ)) Kp)
 (K (.bool false) qI)) Kp) Kp)) Kp) Kp)) Kp) :
 aa Tryz.prog 11 #[.agg #[.int .i64 jM, .int .i64 jN, .int .i64 eR, .slice fS fT fU, .slice qC qD qE], .agg #[.int .i64 bP, .int .i64 bQ, .int .i64 bR, .slice vl vn vo, .slice vp vq vr]] M K Kp := vw [(4, .bL [0, 0, 3, 0, 0, 31, 0, 0, 255, 511] (sy [0, 3, 1] (.eo 4 (.late 2 (.late 5 (sy [6, 7, 8, 9] .done)))))), (2000000, .loop [(8, .c (.int .i64)), (9, .c (.int .i64))]), (9, .bL [0, 1, 0, 7, 15, 0, 32, 0, 224, 480, 1023] (sy [0, 2, 5, 7, 1, 3, 4, 6, 8, 9, 10] .done))] Tryz.func11 h
theorem gV {jM : Int} {jN : Int} {eR : Int} {fS : Option Addr} {fT fU : Nat} {qC : Option Addr} {qD qE : Nat} (h :
aX M (cl [(iV jM), (iV jN), (iV eR), (.slice fS fT fU), (.slice qC qD qE)] 120) fun k1 M2 =>
aX M2 bD fun k3 M4 =>
DU M4 k1 0 fun n5 n6 n7 A8 k9 cX =>
rS M4 k1 3 fun yY di cI =>
((0 : Int) ≤ cX) ∧
((cX : Int) ≤ cX) ∧
((0 : Int) ≤ (if (9 : Int) < (di : Int) then 9 else (di : Int))) ∧
(((if (9 : Int) < (di : Int) then 9 else (di : Int)) : Int) ≤ (cX : Int)) ∧
((0 : Int) ≤ 0) ∧
((0 : Int) ≤ (if (9 : Int) < (di : Int) then 9 else (di : Int))) ∧
rS M4 k1 4 fun gz eV dk =>
rS M4 k1 4 fun BU dK gN =>
((0 : Int) ≤ dk) ∧
((dk : Int) ≤ dk) ∧
((0 : Int) ≤ (if (20 : Int) < (dK : Int) then 20 else (dK : Int))) ∧
(((if (20 : Int) < (dK : Int) then 20 else (dK : Int)) : Int) ≤ (dk : Int)) ∧
((0 : Int) ≤ 0) ∧
((0 : Int) ≤ (if (20 : Int) < (dK : Int) then 20 else (dK : Int))) ∧
nk M4 k3 (iV n5) (iV n6) (iV n7) (.slice (iO A8 0 (Int.toNat (cX : Int)) 1) ((Int.toNat (if (9 : Int) < (di : Int) then 9 else (di : Int))) - 0) ((Int.toNat (cX : Int)) - 0)) (.slice (iO gz 0 (Int.toNat (dk : Int)) 1) ((Int.toNat (if (20 : Int) < (dK : Int) then 20 else (dK : Int))) - 0) ((Int.toNat (dk : Int)) - 0)) (iV 0) (iV 0) (iV 0) (iV 0) (iV 0) (.int .u64 0) fun mZ =>
aN mZ k3 0 fun sP n32 sQ Jz pH wC BZ fC lG CJ CQ wE pF sW tG =>
K (.agg #[(iV sP), (iV n32), (iV sQ), (.slice Jz pH wC), (.slice BZ fC lG), (iV CJ), (iV CQ), (iV wE), (iV pF), (iV sW), (.int .u64 tG)]) mZ) :
 aa Tryz.prog 48 #[.agg #[.int .i64 jM, .int .i64 jN, .int .i64 eR, .slice fS fT fU, .slice qC qD qE]] M K Kp := vw [(1, .bL [0, 1, 0, 4, 0, 16, 0, 64, 0, 256, 768, 1792, 4032, 0, 8192, 0, 32768, 98304, 229376, 516096, 1048575, 2097151] (sy [0, 2, 4, 6, 8, 13, 15, 1, 3, 5, 7, 9, 10, 11, 12, 14, 16, 17, 18, 19, 20, 21] .done))] Tryz.func48 h
theorem pg {jM : Int} {jN : Int} {eR : Int} {fS : Option Addr} {fT fU : Nat} {qC : Option Addr} {qD qE : Nat} {AP : Int} {AQ : Int} {AR : Int} {AS : Int} {AT : Int} {sZ : Int} {bP : Int} {bQ : Int} {bR : Int} {vl : Option Addr} {vn vo : Nat} {vp : Option Addr} {vq vr : Nat} (h :
aX M (cl [(iV jM), (iV jN), (iV eR), (.slice fS fT fU), (.slice qC qD qE), (iV AP), (iV AQ), (iV AR), (iV AS), (iV AT), (.int .u64 sZ)] 114) fun k1 M2 =>
aX M2 (cl [(iV bP), (iV bQ), (iV bR), (.slice vl vn vo), (.slice vp vq vr)] 120) fun k3 M4 =>
rI M4 k1 0 fun n5 =>
rI M4 k3 0 fun n6 =>
aK (n5 != n6)
 (K (iV (-1)) M4)
 (rI M4 k1 1 fun n7 =>
 rI M4 k3 1 fun n8 =>
 aK (n7 != n8)
 (K (iV (-1)) M4)
 (rI M4 k1 2 fun n9 =>
 rI M4 k3 2 fun gA =>
 aK (n9 != gA)
 (K (iV (-1)) M4)
 (rS M4 k1 3 fun yY di cI =>
 rS M4 k3 3 fun gz eV dk =>
 aa Tryz.prog 39 #[(.slice yY di cI), (.slice gz eV dk)] M4 (fun Nj kP =>
 aE (some Nj) .i64 fun iS =>
 aK (iS != 0)
 (K (iV (-1)) kP)
 (rS kP k1 4 fun D3 cU eX =>
 rS kP k3 4 fun CA kU oq =>
 aK ((cU : Int) != (kU : Int))
 (K (iV (-1)) kP)
 (rS kP k3 4 fun D4 qd nv =>
 ∃ I29 : IT, (∃ jL, I29 jL [(iV 0)] kP) ∧
 ∀ (nt : Nat) (_ : Nat → Value) (sQ : Int) (kQ : Mem), (I29 nt [(iV sQ)] kQ) → aK (decide (sQ < qd))
 ((0 ≤ sQ) ∧
 (sQ < qd) ∧
 az D4 fun pH wC =>
 aE (Mem.ld kQ ⟨pH, (wC + (Int.toNat sQ)), none⟩) .u32 fun wA =>
 rS kQ k1 4 fun HJ lG wB =>
 (0 ≤ sQ) ∧
 (sQ < lG) ∧
 az HJ fun xP Ap =>
 aE (Mem.ld kQ ⟨xP, (Ap + (Int.toNat sQ)), none⟩) .u32 fun pF =>
 aK (pF != wA)
 (K (iV (-1)) kQ)
 (∃ J5 : Nat, (J5 < nt) ∧
 I29 J5 [(iV (IntKind.wrap .i64 (sQ + 1)))] kQ))
 (K (iV 0) kQ)))) Kp)))) :
 aa Tryz.prog 49 #[.agg #[.int .i64 jM, .int .i64 jN, .int .i64 eR, .slice fS fT fU, .slice qC qD qE, .int .i64 AP, .int .i64 AQ, .int .i64 AR, .int .i64 AS, .int .i64 AT, .int .u64 sZ], .agg #[.int .i64 bP, .int .i64 bQ, .int .i64 bR, .slice vl vn vo, .slice vp vq vr]] M K Kp := vw [(2000000, .loop [(46, .c (.int .i64))])] Tryz.func49 h
theorem sg {jM : Int} {jN : Int} {eR : Int} {fS : Option Addr} {fT fU : Nat} {qC : Option Addr} {qD qE : Nat} {AP : Int} {AQ : Int} {AR : Int} {AS : Int} {AT : Int} {sZ : Int} {bP : Int} {bQ : Int} {bR : Int} {vl : Option Addr} {vn vo : Nat} {vp : Option Addr} {vq vr : Nat} {It : Int} {Iu : Int} {Iv : Int} {Iw : Int} {Ix : Int} {AU : Int} (h :
aX M (cl [(iV jM), (iV jN), (iV eR), (.slice fS fT fU), (.slice qC qD qE), (iV AP), (iV AQ), (iV AR), (iV AS), (iV AT), (.int .u64 sZ)] 114) fun k1 M2 =>
aX M2 (cl [(iV bP), (iV bQ), (iV bR), (.slice vl vn vo), (.slice vp vq vr), (iV It), (iV Iu), (iV Iv), (iV Iw), (iV Ix), (.int .u64 AU)] 114) fun k3 M4 =>
rS M4 k1 4 fun A5 k6 k7 =>
rS M4 k3 4 fun A8 k9 cX =>
∃ Nc : IT, (∃ di, Nc di [(iV 0)] M4) ∧
∀ (cI : Nat) (_ : Nat → Value) (fk : Int) (dG : Mem), (Nc cI [(iV fk)] dG) → aK (decide ((fk : Int) < (if (k9 : Int) < (k6 : Int) then (k9 : Int) else (k6 : Int))))
 (rS dG k1 4 fun BU dK gN =>
 (0 ≤ fk) ∧
 (fk < dK) ∧
 az BU fun iT cU =>
 aE (Mem.ld dG ⟨iT, (cU + (Int.toNat fk)), none⟩) .u32 fun kT =>
 rS dG k3 4 fun CA kU oq =>
 (0 ≤ fk) ∧
 (fk < kU) ∧
 az CA fun oN qd =>
 aE (Mem.ld dG ⟨oN, (qd + (Int.toNat fk)), none⟩) .u32 fun oO =>
 aK (kT != oO)
 (K (iV fk) dG)
 (∃ m5 : Nat, (m5 < cI) ∧
 Nc m5 [(iV (IntKind.wrap .i64 (fk + 1)))] dG))
 (K (iV (-1)) dG)) :
 aa Tryz.prog 50 #[.agg #[.int .i64 jM, .int .i64 jN, .int .i64 eR, .slice fS fT fU, .slice qC qD qE, .int .i64 AP, .int .i64 AQ, .int .i64 AR, .int .i64 AS, .int .i64 AT, .int .u64 sZ], .agg #[.int .i64 bP, .int .i64 bQ, .int .i64 bR, .slice vl vn vo, .slice vp vq vr, .int .i64 It, .int .i64 Iu, .int .i64 Iv, .int .i64 Iw, .int .i64 Ix, .int .u64 AU]] M K Kp := vw [(2000000, .loop [(13, .c (.int .i64))]), (4, .bL [0, 1, 0, 7, 15, 0, 32, 0, 224, 480, 1023] (sy [0, 2, 5, 7, 1, 3, 4, 6, 8, 9, 10] .done))] Tryz.func50 h
theorem vt {jM : Int} {jN : Int} {eR : Int} {fS : Option Addr} {fT fU : Nat} {qC : Option Addr} {qD qE : Nat} {AP : Int} {AQ : Int} {AR : Int} {AS : Int} {AT : Int} {sZ : Int} {bP : Int} {bQ : Int} {bR : Int} {vl : Option Addr} {vn vo : Nat} {vp : Option Addr} {vq vr : Nat} {It : Int} {Iu : Int} {Iv : Int} {Iw : Int} {Ix : Int} {AU : Int} (h :
aX M (cl [(iV jM), (iV jN), (iV eR), (.slice fS fT fU), (.slice qC qD qE), (iV AP), (iV AQ), (iV AR), (iV AS), (iV AT), (.int .u64 sZ)] 114) fun k1 M2 =>
aX M2 (cl [(iV bP), (iV bQ), (iV bR), (.slice vl vn vo), (.slice vp vq vr), (iV It), (iV Iu), (iV Iv), (iV Iw), (iV Ix), (.int .u64 AU)] 114) fun k3 M4 =>
rI M4 k1 0 fun n5 =>
rI M4 k3 0 fun n6 =>
aK (n5 != n6)
 (K (.bool false) M4)
 (rI M4 k1 1 fun n7 =>
 rI M4 k3 1 fun n8 =>
 aK (n7 != n8)
 (K (.bool false) M4)
 (rI M4 k1 2 fun n9 =>
 rI M4 k3 2 fun gA =>
 aK (n9 != gA)
 (K (.bool false) M4)
 (rS M4 k1 3 fun yY di cI =>
 rS M4 k3 3 fun gz eV dk =>
 aK ((di : Int) != (eV : Int))
 (K (.bool false) M4)
 (rS M4 k1 4 fun BU dK gN =>
 rS M4 k3 4 fun D3 cU eX =>
 aK ((dK : Int) != (cU : Int))
 (K (.bool false) M4)
 (rI M4 k1 0 fun uQ =>
 rI M4 k1 1 fun zD =>
 rI M4 k1 2 fun m7 =>
 rS M4 k1 3 fun D4 qd nv =>
 rS M4 k1 4 fun Jq jL nt =>
 rI M4 k1 5 fun n32 =>
 rI M4 k1 6 fun sQ =>
 rI M4 k1 7 fun D1 =>
 rI M4 k1 8 fun wW =>
 rI M4 k1 9 fun r5 =>
 rU M4 k1 10 fun wA =>
 aN M4 k3 0 fun uN yM CJ Ni Ap yP TW E2 E3 ru BX LQ HB zE Gb =>
 aa Tryz.prog 50 #[(.agg #[(iV uQ), (iV zD), (iV m7), (.slice D4 qd nv), (.slice Jq jL nt), (iV n32), (iV sQ), (iV D1), (iV wW), (iV r5), (.int .u64 wA)]), (.agg #[(iV uN), (iV yM), (iV CJ), (.slice Ni Ap yP), (.slice TW E2 E3), (iV ru), (iV BX), (iV LQ), (iV HB), (iV zE), (.int .u64 Gb)])] M4 (fun v53 BT =>
 aE (some v53) .i64 fun Jv =>
 aK (decide (Jv ≥ 0))
 (K (.bool false) BT)
 (rS BT k1 3 fun KC y4 yQ =>
 ∃ I59 : IT, (∃ cj, I59 cj [(iV 0)] BT) ∧
 ∀ (RB : Nat) (_ : Nat → Value) (rT : Int) (HF : Mem), (I59 RB [(iV rT)] HF) → aK (decide (rT < y4))
 ((0 ≤ rT) ∧
 (rT < y4) ∧
 az KC fun QT AB =>
 rI HF QT (AB + (Int.toNat rT)) fun Jr =>
 rS HF k3 3 fun A68 LS Gd =>
 (0 ≤ rT) ∧
 (rT < LS) ∧
 az A68 fun CL LP =>
 rI HF CL (LP + (Int.toNat rT)) fun F6 =>
 aK (F6 != Jr)
 (K (.bool false) HF)
 (∃ PC : Nat, (PC < RB) ∧
 I59 PC [(iV (IntKind.wrap .i64 (rT + 1)))] HF))
 (K (.bool true) HF))) Kp)))))) :
 aa Tryz.prog 51 #[.agg #[.int .i64 jM, .int .i64 jN, .int .i64 eR, .slice fS fT fU, .slice qC qD qE, .int .i64 AP, .int .i64 AQ, .int .i64 AR, .int .i64 AS, .int .i64 AT, .int .u64 sZ], .agg #[.int .i64 bP, .int .i64 bQ, .int .i64 bR, .slice vl vn vo, .slice vp vq vr, .int .i64 It, .int .i64 Iu, .int .i64 Iv, .int .i64 Iw, .int .i64 Ix, .int .u64 AU]] M K Kp := vw [(2000000, .loop [(53, .c (.int .i64))])] Tryz.func51 h
theorem lC  (h :
aX M (cl [(iV 10), (iV 0), (iV 0), (iV 0)] 27) fun k1 M2 =>
aX M2 (cl [(.slice (some ⟨k1, 0, none⟩) 1 1)] 28) fun k3 M4 =>
aX M4 EY fun k5 M6 =>
MT M6 k5 (.slice (some ⟨k3, 0, none⟩) 1 1) (.slice none 0 0) (iV 0) (.slice none 0 0) fun iQ =>
aX iQ EZ fun cN ri =>
MT ri cN (iV 1) (iV 1) (iV 2) (iV 1) fun dG =>
uL dG k5 0 fun BU dK gN D3 cU eX uQ Hw oq oN =>
gM dG cN 0 fun tF oO tE sV =>
uL dG k5 0 fun wD l8 kX Jz pH wC wA HJ lG wB =>
gM dG cN 0 fun CQ wE pF sW =>
(True) ∧
(True) ∧
aa Tryz.prog 103 #[(.agg #[(.slice BU dK gN), (.slice D3 cU eX), (iV uQ), (.slice Hw oq oN)]), (.agg #[(iV tF), (iV oO), (iV tE), (iV sV)]), (.string ({ data := #[120] })), (iV 9)] dG (fun T8 HG =>
∃ ru BX LQ : Int, ∃ PD : Option Addr, ∃ HE nm : Nat, ∃ SC : Option Addr, ∃ Ht Kh : Nat, ∃ wH BY zC yN CB yR : Int, (T8 = (.agg #[(iV ru), (iV BX), (iV LQ), (.slice PD HE nm), (.slice SC Ht Kh), (iV wH), (iV BY), (iV zC), (iV yN), (iV CB), (.int .u64 yR)])) ∧
((Mem.dP HG ⟨cN, 0, none⟩ 0 4) = some [(iV CQ), (iV wE), (iV pF), (iV sW)]) ∧
((Mem.dP HG ⟨k5, 0, none⟩ 0 4) = some [(.slice wD l8 kX), (.slice Jz pH wC), (iV wA), (.slice HJ lG wB)]) ∧
(True) ∧
(True) ∧
aa Tryz.prog 103 #[(.agg #[(.slice wD l8 kX), (.slice Jz pH wC), (iV wA), (.slice HJ lG wB)]), (.agg #[(iV CQ), (iV wE), (iV pF), (iV sW)]), (.string ({ data := #[] })), (iV 9)] HG (fun Kd tB =>
∃ n64 pG E5 : Int, ∃ A67 : Option Addr, ∃ Gh LS : Nat, ∃ SF : Option Addr, ∃ CL LP : Nat, ∃ F6 Jy Jo CC uO w6 : Int, (Kd = (.agg #[(iV n64), (iV pG), (iV E5), (.slice A67 Gh LS), (.slice SF CL LP), (iV F6), (iV Jy), (iV Jo), (iV CC), (iV uO), (.int .u64 w6)])) ∧
((Mem.dP tB ⟨cN, 0, none⟩ 0 4) = some [(iV CQ), (iV wE), (iV pF), (iV sW)]) ∧
((Mem.dP tB ⟨k5, 0, none⟩ 0 4) = some [(.slice wD l8 kX), (.slice Jz pH wC), (iV wA), (.slice HJ lG wB)]) ∧
aX tB bD fun Jx wZ =>
aX wZ bD fun AD Us =>
nk Us Jx (iV ru) (iV BX) (iV LQ) (.slice PD HE nm) (.slice SC Ht Kh) (iV wH) (iV BY) (iV zC) (iV yN) (iV CB) (.int .u64 yR) fun va =>
((Mem.dP va ⟨cN, 0, none⟩ 0 4) = some [(iV CQ), (iV wE), (iV pF), (iV sW)]) ∧
((Mem.dP va ⟨k5, 0, none⟩ 0 4) = some [(.slice wD l8 kX), (.slice Jz pH wC), (iV wA), (.slice HJ lG wB)]) ∧
nk va AD (iV n64) (iV pG) (iV E5) (.slice A67 Gh LS) (.slice SF CL LP) (iV F6) (iV Jy) (iV Jo) (iV CC) (iV uO) (.int .u64 w6) fun tK =>
((Mem.dP tK ⟨cN, 0, none⟩ 0 4) = some [(iV CQ), (iV wE), (iV pF), (iV sW)]) ∧
((Mem.dP tK ⟨k5, 0, none⟩ 0 4) = some [(.slice wD l8 kX), (.slice Jz pH wC), (iV wA), (.slice HJ lG wB)]) ∧
rI tK Jx 0 fun KR =>
aK (KR == 7)
 (rI tK Jx 5 fun KS =>
 aK (KS == 1)
 (rI tK AD 0 fun KT =>
 aK (KT == 4)
 (rI tK AD 1 fun tL =>
 K (.bool (tL == 0)) tK)
 (K (.bool false) tK))
 (K (.bool false) tK))
 (K (.bool false) tK)) Kp) Kp) :
 aa Tryz.prog 47 #[] M K Kp := vw [(3, .bL [0, 0, 3, 0, 0, 31, 0, 0, 255, 511] (sy [0, 1] (.eo 3 (.eo 4 (.late 2 (.late 5 (sy [6, 7, 8, 9] .done)))))))] Tryz.func47 h
theorem jS {qq : Option Addr} {qt qu : Nat} {qv : Option Addr} {qw qx : Nat} {eR : Int} {fS : Option Addr} {fT fU : Nat} {bP : Int} {bQ : Int} {bR : Int} {c9 : Int} {r2 : ByteArray} {x3 : Int} (h :
aX M (cl [(.slice qq qt qu), (.slice qv qw qx), (iV eR), (.slice fS fT fU)] 39) fun k1 M2 =>
aX M2 (cl [(iV bP), (iV bQ), (iV bR), (iV c9)] 29) fun k3 M4 =>
aX M4 bD fun k5 M6 =>
aa Tryz.prog 144 #[(.string r2)] M6 (fun v7 M8 =>
∃ A9 : Option Addr, ∃ cX cN : Nat, ∃ ek gG : Int, (v7 = (.tuple #[(.slice A9 cX cN), (iV ek), (iV gG)])) ∧
aK (decide ((ek : Int) < (((ByteArray.size r2) : Nat) : Int)))
 (sT M8 k5 0 (iV 7) fun jz =>
 sT jz k5 1 (iV 0) fun pK =>
 sT pK k5 2 (iV 0) fun dG =>
 sT dG k5 3 (.slice none 0 0) fun l6 =>
 sT l6 k5 4 (.slice none 0 0) fun kP =>
 sT kP k5 5 (iV 1) fun jA =>
 sT jA k5 6 (iV 0) fun oM =>
 sT oM k5 7 (iV 0) fun rq =>
 sT rq k5 8 (iV 0) fun kx =>
 sT kx k5 9 (iV 0) fun jZ =>
 sT jZ k5 10 (.int .u64 0) fun iH =>
 aN iH k5 0 fun m7 m8 tF J6 m5 jL wD l8 kX D1 wW r5 wA uN yM =>
 K (.agg #[(iV m7), (iV m8), (iV tF), (.slice J6 m5 jL), (.slice wD l8 kX), (iV D1), (iV wW), (iV r5), (iV wA), (iV uN), (.int .u64 yM)]) iH)
 (rS M8 k1 0 fun LB xP Ap =>
 rS M8 k1 1 fun Uo J5 E2 =>
 rI M8 k1 2 fun wX =>
 rS M8 k1 3 fun T9 Pw Ga =>
 gM M8 k3 0 fun HB zE Gb Gc =>
 aa Tryz.prog 145 #[(.agg #[(.slice LB xP Ap), (.slice Uo J5 E2), (iV wX), (.slice T9 Pw Ga)]), (.agg #[(iV HB), (iV zE), (iV Gb), (iV Gc)]), (.slice A9 cX cN), (iV x3)] M8 (fun Fg r8 =>
 ∃ wH BY zC : Int, ∃ A59 : Option Addr, ∃ cj RB : Nat, ∃ SK : Option Addr, ∃ CK SL : Nat, ∃ pG E5 Jr BW Jw SM : Int, (Fg = (.agg #[(iV wH), (iV BY), (iV zC), (.slice A59 cj RB), (.slice SK CK SL), (iV pG), (iV E5), (iV Jr), (iV BW), (iV Jw), (.int .u64 SM)])) ∧
 nk r8 k5 (iV wH) (iV BY) (iV zC) (.slice A59 cj RB) (.slice SK CK SL) (iV pG) (iV E5) (iV Jr) (iV BW) (iV Jw) (.int .u64 SM) fun PE =>
 aN PE k5 0 fun F7 LG Jp A85 Fi QO A88 Ut k90 AO Qy n93 F8 DY F9 =>
 K (.agg #[(iV F7), (iV LG), (iV Jp), (.slice A85 Fi QO), (.slice A88 Ut k90), (iV AO), (iV Qy), (iV n93), (iV F8), (iV DY), (.int .u64 F9)]) PE) Kp)) Kp) :
 aa Tryz.prog 103 #[.agg #[.slice qq qt qu, .slice qv qw qx, .int .i64 eR, .slice fS fT fU], .agg #[.int .i64 bP, .int .i64 bQ, .int .i64 bR, .int .i64 c9], .string r2, .int .i64 x3] M K Kp := vw [] Tryz.func103 h
theorem w7 {qq : Option Addr} {qt qu : Nat} {qv : Option Addr} {qw qx : Nat} {eR : Int} {fS : Option Addr} {fT fU : Nat} {bP : Int} {bQ : Int} {bR : Int} {c9 : Int} {B2 : Option Addr} {m2 c2 : Nat} {x3 : Int} (h :
aX M (cl [(.slice qq qt qu), (.slice qv qw qx), (iV eR), (.slice fS fT fU)] 39) fun k1 M2 =>
aX M2 (cl [(iV bP), (iV bQ), (iV bR), (iV c9)] 29) fun k3 M4 =>
aX M4 bD fun k5 M6 =>
uL M6 k1 0 fun A7 k8 k9 wz cN di gG gz eV dk =>
gM M6 k3 0 fun fB fy iS eP =>
aa Tryz.prog 172 #[(.slice B2 m2 c2)] M6 (fun QM kx =>
cz (some QM) fun CA =>
((Mem.dP kx ⟨k3, 0, none⟩ 0 4) = some [(iV fB), (iV fy), (iV iS), (iV eP)]) ∧
((Mem.dP kx ⟨k1, 0, none⟩ 0 4) = some [(.slice A7 k8 k9), (.slice wz cN di), (iV gG), (.slice gz eV dk)]) ∧
aa Tryz.prog 43 #[(.agg #[(.slice A7 k8 k9), (.slice wz cN di), (iV gG), (.slice gz eV dk)]), (.agg #[(iV fB), (iV fy), (iV iS), (iV eP)]), (.pointer CA)] kx (fun HD ud =>
cz (some HD) fun D4 =>
((Mem.dP ud ⟨k3, 0, none⟩ 0 4) = some [(iV fB), (iV fy), (iV iS), (iV eP)]) ∧
((Mem.dP ud ⟨k1, 0, none⟩ 0 4) = some [(.slice A7 k8 k9), (.slice wz cN di), (iV gG), (.slice gz eV dk)]) ∧
aa Tryz.prog 44 #[(.pointer D4), (iV x3), (.pointer none)] ud (fun Hx ua =>
∃ tE sV sP : Int, ∃ A32 : Option Addr, ∃ kX sR : Nat, ∃ SB : Option Addr, ∃ wC sX : Nat, ∃ uN yM CJ CQ wE pF : Int, (Hx = (.agg #[(iV tE), (iV sV), (iV sP), (.slice A32 kX sR), (.slice SB wC sX), (iV uN), (iV yM), (iV CJ), (iV CQ), (iV wE), (.int .u64 pF)])) ∧
((Mem.dP ua ⟨k3, 0, none⟩ 0 4) = some [(iV fB), (iV fy), (iV iS), (iV eP)]) ∧
((Mem.dP ua ⟨k1, 0, none⟩ 0 4) = some [(.slice A7 k8 k9), (.slice wz cN di), (iV gG), (.slice gz eV dk)]) ∧
nk ua k5 (iV tE) (iV sV) (iV sP) (.slice A32 kX sR) (.slice SB wC sX) (iV uN) (iV yM) (iV CJ) (iV CQ) (iV wE) (.int .u64 pF) fun BT =>
((Mem.dP BT ⟨k3, 0, none⟩ 0 4) = some [(iV fB), (iV fy), (iV iS), (iV eP)]) ∧
((Mem.dP BT ⟨k1, 0, none⟩ 0 4) = some [(.slice A7 k8 k9), (.slice wz cN di), (iV gG), (.slice gz eV dk)]) ∧
aN BT k5 0 fun Jv wH BY Wi F5 cj Nk wY CK n64 pG E5 Jr BW Jw =>
K (.agg #[(iV Jv), (iV wH), (iV BY), (.slice Wi F5 cj), (.slice Nk wY CK), (iV n64), (iV pG), (iV E5), (iV Jr), (iV BW), (.int .u64 Jw)]) BT) Kp) Kp) Kp) :
 aa Tryz.prog 145 #[.agg #[.slice qq qt qu, .slice qv qw qx, .int .i64 eR, .slice fS fT fU], .agg #[.int .i64 bP, .int .i64 bQ, .int .i64 bR, .int .i64 c9], .slice B2 m2 c2, .int .i64 x3] M K Kp := vw [(1, .bL [0, 0, 0, 4, 15, 0, 63, 127] (sy [2, 5] (.eo 0 (.eo 1 (sy [3, 4, 6, 7] .done)))))] Tryz.func145 h
end Go.Proofs
