/- A part of proofs about one program. -/
import Derived.Test.YtnnlgknlialpmaaGreatZTaperSums0
set_option linter.unusedVariables false
namespace Go.Proofs
open Go.AF
set_option maxRecDepth 100000
theorem qE {nq : Int} {AG : Int} {gk : Int} {Ql : Int} {M : Mem} {K : Value → Mem → Prop} {Kp : List PanicEntry → Mem → Prop} (h :
aW M (cl [(iV nq), (iV AG), (iV gk), (iV Ql)] 23) fun k1 M2 =>
aW M2 Mq fun k3 M4 =>
bN M4 k1 0 fun n5 n6 n7 n8 =>
aa Tryz.prog 55 #[(iV n5), (iV 5)] M4 (fun v9 fJ =>
aK (some v9) .i64 fun eO =>
eI fJ k1 3 n8 ∧
eI fJ k1 2 n7 ∧
eI fJ k1 1 n6 ∧
aa Tryz.prog 55 #[(iV n6), (iV 5)] fJ (fun zL jl =>
aK (some zL) .i64 fun j5 =>
eI jl k1 3 n8 ∧
eI jl k1 2 n7 ∧
eI jl k1 1 n6 ∧
aa Tryz.prog 55 #[(iV n7), (iV 5)] jl (fun vK eB =>
aK (some vK) .i64 fun fK =>
eI eB k1 3 n8 ∧
eI eB k1 2 n7 ∧
eI eB k1 1 n6 ∧
aa Tryz.prog 55 #[(iV n8), (iV 12)] eB (fun AB iN =>
aK (some AB) .i64 fun dZ =>
eI iN k1 3 n8 ∧
eI iN k1 2 n7 ∧
eI iN k1 1 n6 ∧
kB iN k3 (iV (IntKind.wrap .i64 (1 + eO))) (iV (IntKind.wrap .i64 (1 + j5))) (iV (IntKind.wrap .i64 (2 + fK))) (iV (IntKind.wrap .i64 (1 + dZ))) fun j6 =>
eI j6 k1 3 n8 ∧
eI j6 k1 2 n7 ∧
eI j6 k1 1 n6 ∧
bN j6 k3 0 fun oA lX xC rM =>
K (.agg #[(iV oA), (iV lX), (iV xC), (iV rM)]) j6) Kp) Kp) Kp) Kp) :
 aa Tryz.prog 14 #[.agg #[.int .i64 nq, .int .i64 AG, .int .i64 gk, .int .i64 Ql]] M K Kp := vw [(2, .bQ [0, 0, 2, 7, 15, 0, 0, 64, 239, 495, 0, 0, 2048, 7663, 15855, 0, 0, 65536, 245231, 507375, 1048575, 2097151] (sy [0, 1, 5, 6, 10, 11, 15, 16, 2] (.cE 7 (.cE 12 (.cE 17 (sy [3, 4, 8, 9, 13, 14, 18, 19, 20, 21] .done))))))] Tryz.func14 h
theorem oE {x0 : Int} {x1 : Int} {M : Mem} {K : Value → Mem → Prop} {Kp : List PanicEntry → Mem → Prop} (h :
((x1 : Int) ≠ 0) ∧
K (iV (Int.tmod (IntKind.wrap .i64 (((Nat.bitwise and (BitVec.ofInt IntKind.i64.bits x0).toNat (BitVec.ofInt IntKind.i64.bits 255).toNat) : Nat) : Int)) x1)) M) :
 aa Tryz.prog 55 #[.int .i64 x0, .int .i64 x1] M K Kp := vw [] Tryz.func55 h
variable {M : Mem} {K : Value → Mem → Prop} {Kp : List PanicEntry → Mem → Prop}
theorem Gz {b0 o0 : Nat} {x1 : Int} {x2 : Int} (h :
aa Tryz.prog 83 #[(.pointer (some ⟨b0, o0, none⟩))] M (fun v1 M2 =>
az (some v1) fun A3 k4 k5 =>
aa Tryz.prog 18 #[(.pointer (some ⟨b0, o0, none⟩))] M2 (fun v6 M7 =>
cv (some v6) fun A8 =>
aa Tryz.prog 41 #[(.pointer A8), (iV x1), (iV x2)] M7 (fun v9 fJ =>
az (some v9) fun wV eU cY =>
aA 53 A3 k4 k5 wV eU cY fJ (fun Wr rO =>
az (some Wr) fun KU dS dx =>
K (.slice KU dS dx) rO) Kp) Kp) Kp) Kp) :
 aa Tryz.prog 40 #[.pointer (some ⟨b0, o0, none⟩), .int .i64 x1, .int .i64 x2] M K Kp := vw [] Tryz.func40 h
theorem Cu {b0 o0 : Nat} {x1 : Int} {x2 : Int} (h :
aW M KH fun k1 M2 =>
aW M2 KI fun k3 M4 =>
sT M4 k3 0 (.pointer (some ⟨k1, 0, none⟩)) fun M5 =>
aa Tryz.prog 28 #[(.pointer (some ⟨b0, o0, none⟩))] M5 (fun v6 M7 =>
∃ n8 n9 : Int, (v6 = (.tuple #[(iV n8), (iV n9)])) ∧
rP M7 k3 0 fun vg =>
aa Tryz.prog 84 #[(.pointer vg), (iV n8)] M7 (fun v11 j0 =>
(v11 = (.tuple #[])) ∧
rP j0 k3 0 fun Dc =>
aa Tryz.prog 84 #[(.pointer Dc), (iV n9)] j0 (fun Wr rO =>
(Wr = (.tuple #[])) ∧
rP rO k3 0 fun KU =>
aa Tryz.prog 86 #[(.pointer (some ⟨b0, o0, none⟩))] rO (fun Wq nU =>
aK (some Wq) .u64 fun lF =>
((Mem.ld nU ⟨k3, 0, none⟩) = (some (.pointer KU))) ∧
aW nU (cl [(iV (IntKind.wrap .i64 lF))] 2) fun iM jG =>
aa Tryz.prog 85 #[(.pointer KU), (.slice (some ⟨iM, 0, none⟩) 1 1)] jG (fun AA gQ =>
(AA = (.tuple #[])) ∧
((Mem.ld gQ ⟨k3, 0, none⟩) = (some (.pointer KU))) ∧
rP gQ k3 0 fun ze =>
aa Tryz.prog 87 #[(.pointer ze), (.pointer (some ⟨b0, o0, none⟩))] gQ (fun Mx vj =>
(Mx = (.tuple #[])) ∧
∃ Wu : IT, (∃ ko, Wu ko [(iV 0)] vj) ∧
∀ (nT : Nat) (_ : Nat → Value) (tQ : Int) (nk : Mem), (Wu nT [(iV tQ)] nk) → aQ (decide (tQ < x1))
 (rP nk k3 0 fun F2 =>
 aa Tryz.prog 89 #[(.pointer (some ⟨b0, o0, none⟩)), (iV tQ)] nk (fun v34 rQ =>
 ∃ Fj : Option Addr, ∃ pg gm : Nat, ∃ HT : Option Addr, ∃ xq AD : Nat, ∃ Eg : Option Addr, ∃ nR BX : Nat, ∃ t45 : Bool, (v34 = (.agg #[(.slice Fj pg gm), (.slice HT xq AD), (.slice Eg nR BX), (.bool t45)])) ∧
 ((Mem.ld rQ ⟨k3, 0, none⟩) = (some (.pointer F2))) ∧
 aa Tryz.prog 88 #[(.pointer F2), (.agg #[(.slice Fj pg gm), (.slice HT xq AD), (.slice Eg nR BX), (.bool t45)])] rQ (fun v46 sF =>
 (v46 = (.tuple #[])) ∧
 ((Mem.ld sF ⟨k3, 0, none⟩) = (some (.pointer F2))) ∧
 ∃ Od : Nat, (Od < nT) ∧
 Wu Od [(iV (IntKind.wrap .i64 (tQ + 1)))] sF) Kp) Kp)
 (∃ I49 : IT, (∃ KO, I49 KO [(iV 0)] nk) ∧
 ∀ (IZ : Nat) (_ : Nat → Value) (IY : Int) (Ff : Mem), (I49 IZ [(iV IY)] Ff) → aQ (decide (IY < x2))
 (aa Tryz.prog 90 #[(.pointer (some ⟨b0, o0, none⟩)), (iV IY)] Ff (fun Wh U9 =>
 ∃ KW : Int, ∃ XJ : Option Addr, ∃ F3 KR : Nat, (Wh = (.tuple #[(iV KW), (.slice XJ F3 KR)])) ∧
 rP U9 k3 0 fun SR =>
 aa Tryz.prog 84 #[(.pointer SR), (iV KW)] U9 (fun Pr zf =>
 (Pr = (.tuple #[])) ∧
 rP zf k3 0 fun A64 =>
 aa Tryz.prog 91 #[(.pointer A64), (.slice XJ F3 KR)] zf (fun v65 Vh =>
 (v65 = (.tuple #[])) ∧
 ∃ xD : Nat, (xD < IZ) ∧
 I49 xD [(iV (IntKind.wrap .i64 (IY + 1)))] Vh) Kp) Kp) Kp)
 (aa Tryz.prog 19 #[(.pointer (some ⟨b0, o0, none⟩))] Ff (fun v68 RZ =>
 az (some v68) fun A70 KY Zs =>
 rP RZ k3 0 fun Wz =>
 aa Tryz.prog 84 #[(.pointer Wz), (iV (KY : Int))] RZ (fun v74 xH =>
 (v74 = (.tuple #[])) ∧
 ∃ I76 : IT, (∃ k77, I76 k77 [(iV 0)] xH) ∧
 ∀ (RX : Nat) (_ : Nat → Value) (RP : Int) (PD : Mem), (I76 RX [(iV RP)] PD) → aQ (decide (RP < KY))
 ((0 ≤ RP) ∧
 (RP < KY) ∧
 aE A70 fun Gh zQ =>
 aag PD Gh (zQ + ((Int.toNat RP) * 3)) fun Ob HZ ME =>
 aW PD Mr fun Ww WS =>
 FY WS Ww (.int .u64 Ob) (.int .u64 HZ) (iV ME) fun my =>
 rP my k3 0 fun Wx =>
 aag my Ww 0 fun Tk KP Fg =>
 aW my (cl [(iV (IntKind.wrap .i64 Tk)), (iV (IntKind.wrap .i64 KP)), (iV Fg)] 2) fun Zq PC =>
 aa Tryz.prog 85 #[(.pointer Wx), (.slice (some ⟨Zq, 0, none⟩) 3 3)] PC (fun v98 M99 =>
 (v98 = (.tuple #[])) ∧
 ∃ k100 : Nat, (k100 < RX) ∧
 I76 k100 [(iV (IntKind.wrap .i64 (RP + 1)))] M99) Kp)
 (rP PD k3 0 fun MF =>
 aa Tryz.prog 23 #[(.pointer (some ⟨b0, o0, none⟩))] PD (fun v102 Gj =>
 az (some v102) fun A104 k105 sW =>
 ((Mem.ld Gj ⟨k3, 0, none⟩) = (some (.pointer MF))) ∧
 aa Tryz.prog 92 #[(.pointer MF), (.slice A104 k105 sW), (.func (.func 93) #[] #[(.pointer (some ⟨k3, 0, none⟩))])] Gj (fun v107 Gw =>
 (v107 = (.tuple #[])) ∧
 ((Mem.ld Gw ⟨k3, 0, none⟩) = (some (.pointer MF))) ∧
 rP Gw k3 0 fun A109 =>
 aE A109 fun Cp k111 =>
 rS Gw Cp k111 fun XK Ey PE =>
 K (.slice XK Ey PE) Gw) Kp) Kp)) Kp) Kp))) Kp) Kp) Kp) Kp) Kp) Kp) :
 aa Tryz.prog 41 #[.pointer (some ⟨b0, o0, none⟩), .int .i64 x1, .int .i64 x2] M K Kp := vw [(5, .bQ [0, 0, 2, 6, 14, 31] (sy [1] (.cE 0 (sy [2, 3, 4, 5] .done)))), (2000000, .loop [(40, .c (.int .i64))]), (10, .bQ [0, 0, 0, 6, 15] (sy [1, 2] (.cE 0 (sy [3, 4] .done)))), (2000002, .loop [(50, .c (.int .i64))]), (2000004, .loop [(74, .c (.int .i64))]), (26, .bQ [0, 0, 2, 0, 15] (sy [1, 3] (.cE 0 (sy [2, 4] .done))))] Tryz.func41 h
theorem zu {x0 : Int} {b1 o1 : Nat} (h :
rP M b1 o1 fun A1 =>
aW M (cl [(iV x0)] 2) fun k2 M3 =>
aa Tryz.prog 85 #[(.pointer A1), (.slice (some ⟨k2, 0, none⟩) 1 1)] M3 (fun v4 M5 =>
(v4 = (.tuple #[])) ∧
K (.tuple #[]) M5) Kp) :
 aa Tryz.prog 93 #[.int .i64 x0, .pointer (some ⟨b1, o1, none⟩)] M K Kp := vw [] Tryz.func93 h
theorem AV {b0 o0 : Nat} (h :
aW M KH fun k1 M2 =>
aW M2 KI fun k3 M4 =>
sT M4 k3 0 (.pointer (some ⟨k1, 0, none⟩)) fun M5 =>
rP M5 k3 0 fun A6 =>
aa Tryz.prog 35 #[(.pointer (some ⟨b0, o0, none⟩))] M5 (fun v7 M8 =>
aK (some v7) .i64 fun n9 =>
((Mem.ld M8 ⟨k3, 0, none⟩) = (some (.pointer A6))) ∧
aa Tryz.prog 84 #[(.pointer A6), (iV n9)] M8 (fun v10 ir =>
(v10 = (.tuple #[])) ∧
((Mem.ld ir ⟨k3, 0, none⟩) = (some (.pointer A6))) ∧
rP ir k3 0 fun ur =>
aa Tryz.prog 22 #[(.pointer (some ⟨b0, o0, none⟩))] ir (fun C7 jM =>
aK (some C7) .i64 fun gT =>
((Mem.ld jM ⟨k3, 0, none⟩) = (some (.pointer ur))) ∧
aa Tryz.prog 84 #[(.pointer ur), (iV gT)] jM (fun My kY =>
(My = (.tuple #[])) ∧
((Mem.ld kY ⟨k3, 0, none⟩) = (some (.pointer ur))) ∧
rP kY k3 0 fun Ck =>
aa Tryz.prog 20 #[(.pointer (some ⟨b0, o0, none⟩))] kY (fun Gg kX =>
az (some Gg) fun xB g6 iI =>
((Mem.ld kX ⟨k3, 0, none⟩) = (some (.pointer Ck))) ∧
aa Tryz.prog 91 #[(.pointer Ck), (.slice xB g6 iI)] kX (fun MA wU =>
(MA = (.tuple #[])) ∧
((Mem.ld wU ⟨k3, 0, none⟩) = (some (.pointer Ck))) ∧
rP wU k3 0 fun HY =>
aa Tryz.prog 126 #[(.pointer (some ⟨b0, o0, none⟩))] wU (fun F7 oU =>
az (some F7) fun RQ kZ lZ =>
((Mem.ld oU ⟨k3, 0, none⟩) = (some (.pointer HY))) ∧
aa Tryz.prog 125 #[(.pointer HY), (.slice RQ kZ lZ), (.func (.func 127) #[] #[(.pointer (some ⟨k3, 0, none⟩))])] oU (fun v32 xw =>
(v32 = (.tuple #[])) ∧
((Mem.ld xw ⟨k3, 0, none⟩) = (some (.pointer HY))) ∧
rP xw k3 0 fun Ve =>
aa Tryz.prog 129 #[(.pointer (some ⟨b0, o0, none⟩))] xw (fun v35 Ee =>
az (some v35) fun Fk gm rK =>
((Mem.ld Ee ⟨k3, 0, none⟩) = (some (.pointer Ve))) ∧
aa Tryz.prog 128 #[(.pointer Ve), (.slice Fk gm rK), (.func (.func 130) #[] #[(.pointer (some ⟨k3, 0, none⟩))])] Ee (fun Ge uw =>
(Ge = (.tuple #[])) ∧
((Mem.ld uw ⟨k3, 0, none⟩) = (some (.pointer Ve))) ∧
rP uw k3 0 fun Eg =>
aE Eg fun nR BX =>
rS uw nR BX fun Zj Fe N7 =>
K (.slice Zj Fe N7) uw) Kp) Kp) Kp) Kp) Kp) Kp) Kp) Kp) Kp) Kp) :
 aa Tryz.prog 83 #[.pointer (some ⟨b0, o0, none⟩)] M K Kp := vw [(2, .bQ [0, 0, 2, 7] (sy [1] (.cE 0 (sy [2, 3] .done)))), (3, .bQ [0, 0, 2, 7] (sy [1] (.cE 0 (sy [2, 3] .done)))), (4, .bQ [0, 0, 2, 7] (sy [1] (.cE 0 (sy [2, 3] .done)))), (5, .bQ [0, 0, 2, 0, 15] (sy [1, 3] (.cE 0 (sy [2, 4] .done)))), (6, .bQ [0, 0, 2, 0, 15] (sy [1, 3] (.cE 0 (sy [2, 4] .done))))] Tryz.func83 h
theorem xM {nq : Int} {jO : Option Addr} {jP jQ : Nat} {gk : Int} {Ql : Int} {b1 o1 : Nat} (h :
aW M (cl [(iV nq), (.slice jO jP jQ), (iV gk), (iV Ql)] 263) fun k1 M2 =>
rP M2 b1 o1 fun A3 =>
rI M2 k1 0 fun n4 =>
aa Tryz.prog 84 #[(.pointer A3), (iV n4)] M2 (fun v5 M6 =>
(v5 = (.tuple #[])) ∧
rP M6 b1 o1 fun A7 =>
rS M6 k1 1 fun A8 k9 c6 =>
aa Tryz.prog 91 #[(.pointer A7), (.slice A8 k9 c6)] M6 (fun v11 j0 =>
(v11 = (.tuple #[])) ∧
rP j0 b1 o1 fun Dc =>
rI j0 k1 2 fun j5 =>
aa Tryz.prog 84 #[(.pointer Dc), (iV j5)] j0 (fun vK eB =>
(vK = (.tuple #[])) ∧
rP eB b1 o1 fun Ed =>
rI eB k1 3 fun g9 =>
aa Tryz.prog 84 #[(.pointer Ed), (iV g9)] eB (fun Gg kX =>
(Gg = (.tuple #[])) ∧
K (.tuple #[]) kX) Kp) Kp) Kp) Kp) :
 aa Tryz.prog 127 #[.agg #[.int .i64 nq, .slice jO jP jQ, .int .i64 gk, .int .i64 Ql], .pointer (some ⟨b1, o1, none⟩)] M K Kp := vw [] Tryz.func127 h
theorem xN {nq : Int} {AG : Int} {gk : Int} {b1 o1 : Nat} (h :
aW M (cl [(iV nq), (iV AG), (iV gk)] 268) fun k1 M2 =>
rP M2 b1 o1 fun A3 =>
rI M2 k1 0 fun n4 =>
aa Tryz.prog 84 #[(.pointer A3), (iV n4)] M2 (fun v5 M6 =>
(v5 = (.tuple #[])) ∧
rP M6 b1 o1 fun A7 =>
rI M6 k1 1 fun n8 =>
aa Tryz.prog 84 #[(.pointer A7), (iV n8)] M6 (fun v9 fJ =>
(v9 = (.tuple #[])) ∧
rP fJ b1 o1 fun wV =>
rI fJ k1 2 fun gy =>
aa Tryz.prog 84 #[(.pointer wV), (iV gy)] fJ (fun C7 jM =>
(C7 = (.tuple #[])) ∧
K (.tuple #[]) jM) Kp) Kp) Kp) :
 aa Tryz.prog 130 #[.agg #[.int .i64 nq, .int .i64 AG, .int .i64 gk], .pointer (some ⟨b1, o1, none⟩)] M K Kp := vw [] Tryz.func130 h
theorem uO {b0 o0 : Nat} {x1 : Int} (h :
aW M (cl [(iV x1)] 2) fun k1 M2 =>
aa Tryz.prog 85 #[(.pointer (some ⟨b0, o0, none⟩)), (.slice (some ⟨k1, 0, none⟩) 1 1)] M2 (fun v3 M4 =>
(v3 = (.tuple #[])) ∧
K (.tuple #[]) M4) Kp) :
 aa Tryz.prog 84 #[.pointer (some ⟨b0, o0, none⟩), .int .i64 x1] M K Kp := vw [] Tryz.func84 h
theorem uP {b0 o0 : Nat} {B1 : Option Addr} {m1 c1 : Nat} (h :
rS M b0 o0 fun A1 k2 k3 =>
aA 53 A1 k2 k3 B1 m1 c1 M (fun v4 M5 =>
az (some v4) fun A6 k7 k8 =>
sT M5 b0 o0 (.slice A6 k7 k8) fun M9 =>
K (.tuple #[]) M9) Kp) :
 aa Tryz.prog 85 #[.pointer (some ⟨b0, o0, none⟩), .slice B1 m1 c1] M K Kp := vw [] Tryz.func85 h
theorem tw {b0 o0 : Nat} {B1 : Option Addr} {m1 c1 : Nat} (h :
aa Tryz.prog 84 #[(.pointer (some ⟨b0, o0, none⟩)), (iV (m1 : Int))] M (fun v1 M2 =>
(v1 = (.tuple #[])) ∧
∃ I3 : IT, (∃ k4, I3 k4 [(iV 0)] M2) ∧
∀ (k5 : Nat) (_ : Nat → Value) (n7 : Int) (M8 : Mem), (I3 k5 [(iV n7)] M8) → aQ (decide (n7 < m1))
 ((0 ≤ n7) ∧
 (n7 < m1) ∧
 aE B1 fun k9 c6 =>
 rI M8 k9 (c6 + (Int.toNat n7)) fun eO =>
 aa Tryz.prog 84 #[(.pointer (some ⟨b0, o0, none⟩)), (iV eO)] M8 (fun zL jl =>
 (zL = (.tuple #[])) ∧
 ∃ eX : Nat, (eX < k5) ∧
 I3 eX [(iV (IntKind.wrap .i64 (n7 + 1)))] jl) Kp)
 (K (.tuple #[]) M8)) Kp) :
 aa Tryz.prog 91 #[.pointer (some ⟨b0, o0, none⟩), .slice B1 m1 c1] M K Kp := vw [(2000000, .loop [(12, .c (.int .i64))])] Tryz.func91 h
theorem mb {b0 o0 : Nat} {b1 o1 : Nat} (h :
aa Tryz.prog 73 #[(.pointer (some ⟨b1, o1, none⟩))] M (fun v1 M2 =>
aK (some v1) .i64 fun n3 =>
aa Tryz.prog 84 #[(.pointer (some ⟨b0, o0, none⟩)), (iV n3)] M2 (fun v4 M5 =>
(v4 = (.tuple #[])) ∧
aa Tryz.prog 73 #[(.pointer (some ⟨b1, o1, none⟩))] M5 (fun v6 M7 =>
aK (some v6) .i64 fun n8 =>
∃ I9 : IT, (∃ c6, I9 c6 [(iV 0)] M7) ∧
∀ (dL : Nat) (_ : Nat → Value) (hG : Int) (jM : Mem), (I9 dL [(iV hG)] jM) → aQ (decide (hG < n8))
 (aa Tryz.prog 119 #[(.pointer (some ⟨b1, o1, none⟩)), (iV hG)] jM (fun vK eB =>
 aK (some vK) .i64 fun fK =>
 aa Tryz.prog 84 #[(.pointer (some ⟨b0, o0, none⟩)), (iV fK)] eB (fun AB iN =>
 (AB = (.tuple #[])) ∧
 aa Tryz.prog 132 #[(.pointer (some ⟨b1, o1, none⟩)), (iV hG)] iN (fun v20 jG =>
 az (some v20) fun Mz iI kC =>
 aa Tryz.prog 131 #[(.pointer (some ⟨b0, o0, none⟩)), (.slice Mz iI kC), (.func (.func 133) #[(.pointer (some ⟨b0, o0, none⟩))] #[])] jG (fun Mx vj =>
 (Mx = (.tuple #[])) ∧
 ∃ oT : Nat, (oT < dL) ∧
 I9 oT [(iV (IntKind.wrap .i64 (hG + 1)))] vj) Kp) Kp) Kp) Kp)
 (K (.tuple #[]) jM)) Kp) Kp) Kp) :
 aa Tryz.prog 87 #[.pointer (some ⟨b0, o0, none⟩), .pointer (some ⟨b1, o1, none⟩)] M K Kp := vw [(2000000, .loop [(11, .c (.int .i64))])] Tryz.func87 h
theorem oF {b0 o0 : Nat} {B1_0 : Option Addr} {m1_0 c1_0 : Nat} {B1_1 : Option Addr} {m1_1 c1_1 : Nat} {B1_2 : Option Addr} {m1_2 c1_2 : Nat} {q1_3 : Bool} (h :
aW M (cl [(.pointer (some ⟨b0, o0, none⟩))] 187) fun k1 M2 =>
aW M2 (cl [(.slice B1_0 m1_0 c1_0), (.slice B1_1 m1_1 c1_1), (.slice B1_2 m1_2 c1_2), (.bool q1_3)] 197) fun k3 M4 =>
rB M4 k3 3 fun t5 =>
aQ t5
 (rP M4 k1 0 fun A6 =>
 aW M4 (cl [(iV 1)] 2) fun k7 M8 =>
 aa Tryz.prog 85 #[(.pointer A6), (.slice (some ⟨k7, 0, none⟩) 1 1)] M8 (fun v9 fJ =>
 (v9 = (.tuple #[])) ∧
 rP fJ k1 0 fun wV =>
 rS fJ k3 0 fun ur cY eX =>
 aa Tryz.prog 92 #[(.pointer wV), (.slice ur cY eX), (.func (.func 134) #[] #[(.pointer (some ⟨k1, 0, none⟩))])] fJ (fun vK eB =>
 (vK = (.tuple #[])) ∧
 rP eB k1 0 fun Ed =>
 rS eB k3 1 fun Ck gZ iM =>
 rP eB k1 0 fun xB =>
 aa Tryz.prog 135 #[(.pointer Ed), (.slice Ck gZ iM), (.func (.func 136) #[(.pointer xB)] #[])] eB (fun AA gQ =>
 (AA = (.tuple #[])) ∧
 rP gQ k1 0 fun ze =>
 rS gQ k3 2 fun SK lV oT =>
 rP gQ k1 0 fun SO =>
 aa Tryz.prog 135 #[(.pointer ze), (.slice SK lV oT), (.func (.func 136) #[(.pointer SO)] #[])] gQ (fun IG kW =>
 (IG = (.tuple #[])) ∧
 K (.tuple #[]) kW) Kp) Kp) Kp) Kp)
 (rP M4 k1 0 fun Db =>
 aW M4 aah fun nO xw =>
 aa Tryz.prog 85 #[(.pointer Db), (.slice (some ⟨nO, 0, none⟩) 1 1)] xw (fun v34 rQ =>
 (v34 = (.tuple #[])) ∧
 rP rQ k1 0 fun Fj =>
 rS rQ k3 0 fun Fk gm rK =>
 aa Tryz.prog 92 #[(.pointer Fj), (.slice Fk gm rK), (.func (.func 134) #[] #[(.pointer (some ⟨k1, 0, none⟩))])] rQ (fun Ge uw =>
 (Ge = (.tuple #[])) ∧
 rP uw k1 0 fun Eg =>
 rS uw k3 1 fun A43 BX II =>
 rP uw k1 0 fun A46 =>
 aa Tryz.prog 135 #[(.pointer Eg), (.slice A43 BX II), (.func (.func 136) #[(.pointer A46)] #[])] uw (fun v47 Pd =>
 (v47 = (.tuple #[])) ∧
 rP Pd k1 0 fun WE =>
 rS Pd k3 2 fun A50 IZ um =>
 rP Pd k1 0 fun A53 =>
 aa Tryz.prog 135 #[(.pointer WE), (.slice A50 IZ um), (.func (.func 136) #[(.pointer A53)] #[])] Pd (fun Jg l8 =>
 (Jg = (.tuple #[])) ∧
 K (.tuple #[]) l8) Kp) Kp) Kp) Kp)) :
 aa Tryz.prog 88 #[.pointer (some ⟨b0, o0, none⟩), .agg #[.slice B1_0 m1_0 c1_0, .slice B1_1 m1_1 c1_1, .slice B1_2 m1_2 c1_2, .bool q1_3]] M K Kp := vw [] Tryz.func88 h
theorem mR {x0 : Int} {b1 o1 : Nat} (h :
rP M b1 o1 fun A1 =>
aW M (cl [(iV x0)] 2) fun k2 M3 =>
aa Tryz.prog 85 #[(.pointer A1), (.slice (some ⟨k2, 0, none⟩) 1 1)] M3 (fun v4 M5 =>
(v4 = (.tuple #[])) ∧
K (.tuple #[]) M5) Kp) :
 aa Tryz.prog 134 #[.int .i64 x0, .pointer (some ⟨b1, o1, none⟩)] M K Kp := vw [] Tryz.func134 h
theorem qF {b0 o0 : Nat} {cQ : Int} {cR : Int} {cT : Int} {eJ : Int} {x1_4 : Int} {x1_5 : Int} {x1_6 : Int} {x1_7 : Int} {x1_8 : Int} {x1_9 : Int} {Vl : Int} (h :
aW M (cl [(iV cQ), (iV cR), (iV cT), (iV eJ), (iV x1_4), (iV x1_5), (iV x1_6), (iV x1_7), (iV x1_8), (iV x1_9), (iV Vl)] 275) fun k1 M2 =>
rI M2 k1 0 fun n3 =>
aa Tryz.prog 84 #[(.pointer (some ⟨b0, o0, none⟩)), (iV n3)] M2 (fun v4 M5 =>
(v4 = (.tuple #[])) ∧
rI M5 k1 1 fun n6 =>
aa Tryz.prog 84 #[(.pointer (some ⟨b0, o0, none⟩)), (iV n6)] M5 (fun v7 M8 =>
(v7 = (.tuple #[])) ∧
((0 : Int) ≤ 8) ∧
((8 : Int) ≤ 8) ∧
((0 : Int) ≤ 8) ∧
((8 : Int) ≤ 8) ∧
((0 : Int) ≤ 0) ∧
((0 : Int) ≤ 8) ∧
aa Tryz.prog 85 #[(.pointer (some ⟨b0, o0, none⟩)), (.slice (kx (some ⟨k1, 2, none⟩) 0 8 1) 8 8)] M8 (fun v9 fJ =>
(v9 = (.tuple #[])) ∧
rI fJ k1 10 fun eO =>
aa Tryz.prog 84 #[(.pointer (some ⟨b0, o0, none⟩)), (iV eO)] fJ (fun zL jl =>
(zL = (.tuple #[])) ∧
K (.tuple #[]) jl) Kp) Kp) Kp) Kp) :
 aa Tryz.prog 133 #[.pointer (some ⟨b0, o0, none⟩), .agg #[.int .i64 cQ, .int .i64 cR, .int .i64 cT, .int .i64 eJ, .int .i64 x1_4, .int .i64 x1_5, .int .i64 x1_6, .int .i64 x1_7, .int .i64 x1_8, .int .i64 x1_9, .int .i64 Vl]] M K Kp := vw [] Tryz.func133 h
theorem tx {b0 o0 : Nat} {cQ : Int} {cR : Int} {cT : Int} (h :
aW M (cl [(iV cQ), (iV cR), (iV cT)] 280) fun k1 M2 =>
rI M2 k1 0 fun n3 =>
aa Tryz.prog 84 #[(.pointer (some ⟨b0, o0, none⟩)), (iV n3)] M2 (fun v4 M5 =>
(v4 = (.tuple #[])) ∧
rI M5 k1 1 fun n6 =>
aa Tryz.prog 84 #[(.pointer (some ⟨b0, o0, none⟩)), (iV n6)] M5 (fun v7 M8 =>
(v7 = (.tuple #[])) ∧
rI M8 k1 2 fun n9 =>
aW M8 (cl [(iV n9)] 2) fun c6 ir =>
aa Tryz.prog 85 #[(.pointer (some ⟨b0, o0, none⟩)), (.slice (some ⟨c6, 0, none⟩) 1 1)] ir (fun zL jl =>
(zL = (.tuple #[])) ∧
K (.tuple #[]) jl) Kp) Kp) Kp) :
 aa Tryz.prog 136 #[.pointer (some ⟨b0, o0, none⟩), .agg #[.int .i64 cQ, .int .i64 cR, .int .i64 cT]] M K Kp := vw [] Tryz.func136 h
theorem tB {b0 o0 : Nat} {B1 : Option Addr} {m1 c1 : Nat} {u2 : Value} (h :
aa Tryz.prog 84 #[(.pointer (some ⟨b0, o0, none⟩)), (iV (m1 : Int))] M (fun v1 M2 =>
(v1 = (.tuple #[])) ∧
∃ I3 : IT, (∃ k4, I3 k4 [(iV 0)] M2) ∧
∀ (k5 : Nat) (_ : Nat → Value) (n7 : Int) (M8 : Mem), (I3 k5 [(iV n7)] M8) → aQ (decide (n7 < m1))
 ((0 ≤ n7) ∧
 (n7 < m1) ∧
 aE B1 fun k9 c6 =>
 rI M8 k9 (c6 + (Int.toNat n7)) fun eO =>
 gf Cx u2 [(iV eO)] M8 (fun zL jl =>
 (zL = (.tuple #[])) ∧
 ∃ eX : Nat, (eX < k5) ∧
 I3 eX [(iV (IntKind.wrap .i64 (n7 + 1)))] jl) Kp)
 (K (.tuple #[]) M8)) Kp) :
 aa Tryz.prog 92 #[.pointer (some ⟨b0, o0, none⟩), .slice B1 m1 c1, u2] M K Kp := vw [(2000000, .loop [(14, .c (.int .i64))])] Tryz.func92 h
theorem jS {b0 o0 : Nat} {B1 : Option Addr} {m1 c1 : Nat} {u2 : Value} (h :
aa Tryz.prog 84 #[(.pointer (some ⟨b0, o0, none⟩)), (iV (m1 : Int))] M (fun v1 M2 =>
(v1 = (.tuple #[])) ∧
∃ I3 : IT, (∃ k4, I3 k4 [(iV 0)] M2) ∧
∀ (k5 : Nat) (_ : Nat → Value) (n7 : Int) (M8 : Mem), (I3 k5 [(iV n7)] M8) → aQ (decide (n7 < m1))
 ((0 ≤ n7) ∧
 (n7 < m1) ∧
 aE B1 fun k9 c6 =>
 U6 M8 k9 (c6 + ((Int.toNat n7) * 4)) fun eO ur cY eX gT jz =>
 aW M8 IB fun dS nU =>
 kB nU dS (iV eO) (.slice ur cY eX) (iV gT) (iV jz) fun cU =>
 U6 cU dS 0 fun o6 ze nj lV xC rM =>
 gf Cx u2 [(.agg #[(iV o6), (.slice ze nj lV), (iV xC), (iV rM)])] cU (fun IG kW =>
 (IG = (.tuple #[])) ∧
 ∃ lZ : Nat, (lZ < k5) ∧
 I3 lZ [(iV (IntKind.wrap .i64 (n7 + 1)))] kW) Kp)
 (K (.tuple #[]) M8)) Kp) :
 aa Tryz.prog 125 #[.pointer (some ⟨b0, o0, none⟩), .slice B1 m1 c1, u2] M K Kp := vw [(2000000, .loop [(14, .c (.int .i64))])] Tryz.func125 h
theorem kN {b0 o0 : Nat} {B1 : Option Addr} {m1 c1 : Nat} {u2 : Value} (h :
aa Tryz.prog 84 #[(.pointer (some ⟨b0, o0, none⟩)), (iV (m1 : Int))] M (fun v1 M2 =>
(v1 = (.tuple #[])) ∧
∃ I3 : IT, (∃ k4, I3 k4 [(iV 0)] M2) ∧
∀ (k5 : Nat) (_ : Nat → Value) (n7 : Int) (M8 : Mem), (I3 k5 [(iV n7)] M8) → aQ (decide (n7 < m1))
 ((0 ≤ n7) ∧
 (n7 < m1) ∧
 aE B1 fun k9 c6 =>
 j9 M8 k9 (c6 + ((Int.toNat n7) * 3)) fun eO gy hG =>
 aW M8 Ms fun eX rO =>
 FY rO eX (iV eO) (iV gy) (iV hG) fun nU =>
 j9 nU eX 0 fun lF dZ jr =>
 gf Cx u2 [(.agg #[(iV lF), (iV dZ), (iV jr)])] nU (fun AA gQ =>
 (AA = (.tuple #[])) ∧
 ∃ kC : Nat, (kC < k5) ∧
 I3 kC [(iV (IntKind.wrap .i64 (n7 + 1)))] gQ) Kp)
 (K (.tuple #[]) M8)) Kp) :
 aa Tryz.prog 128 #[.pointer (some ⟨b0, o0, none⟩), .slice B1 m1 c1, u2] M K Kp := vw [(2000000, .loop [(14, .c (.int .i64))])] Tryz.func128 h
theorem me {b0 o0 : Nat} {B1 : Option Addr} {m1 c1 : Nat} {u2 : Value} (h :
aa Tryz.prog 84 #[(.pointer (some ⟨b0, o0, none⟩)), (iV (m1 : Int))] M (fun v1 M2 =>
(v1 = (.tuple #[])) ∧
∃ I3 : IT, (∃ k4, I3 k4 [(iV 0)] M2) ∧
∀ (k5 : Nat) (_ : Nat → Value) (n7 : Int) (M8 : Mem), (I3 k5 [(iV n7)] M8) → aQ (decide (n7 < m1))
 ((0 ≤ n7) ∧
 (n7 < m1) ∧
 aE B1 fun k9 c6 =>
 vD M8 k9 (c6 + ((Int.toNat n7) * 11)) fun eO gy hG j5 gT jz fK g9 lF dZ jr =>
 aW M8 vC fun g6 gQ =>
 xl gQ g6 (iV eO) (iV gy) (iV hG) (iV j5) (iV gT) (iV jz) (iV fK) (iV g9) (iV lF) (iV dZ) (iV jr) fun pb =>
 vD pb g6 0 fun Ek zj KM Cc Ef IX PI Dh BW Di vU =>
 gf Cx u2 [(.agg #[(iV Ek), (iV zj), (iV KM), (iV Cc), (iV Ef), (iV IX), (iV PI), (iV Dh), (iV BW), (iV Di), (iV vU)])] pb (fun v46 sF =>
 (v46 = (.tuple #[])) ∧
 ∃ Od : Nat, (Od < k5) ∧
 I3 Od [(iV (IntKind.wrap .i64 (n7 + 1)))] sF) Kp)
 (K (.tuple #[]) M8)) Kp) :
 aa Tryz.prog 131 #[.pointer (some ⟨b0, o0, none⟩), .slice B1 m1 c1, u2] M K Kp := vw [(2000000, .loop [(14, .c (.int .i64))])] Tryz.func131 h
theorem mS {b0 o0 : Nat} {B1 : Option Addr} {m1 c1 : Nat} {u2 : Value} (h :
aa Tryz.prog 84 #[(.pointer (some ⟨b0, o0, none⟩)), (iV (m1 : Int))] M (fun v1 M2 =>
(v1 = (.tuple #[])) ∧
∃ I3 : IT, (∃ k4, I3 k4 [(iV 0)] M2) ∧
∀ (k5 : Nat) (_ : Nat → Value) (n7 : Int) (M8 : Mem), (I3 k5 [(iV n7)] M8) → aQ (decide (n7 < m1))
 ((0 ≤ n7) ∧
 (n7 < m1) ∧
 aE B1 fun k9 c6 =>
 j9 M8 k9 (c6 + ((Int.toNat n7) * 3)) fun eO gy hG =>
 aW M8 jy fun eX rO =>
 FY rO eX (iV eO) (iV gy) (iV hG) fun nU =>
 j9 nU eX 0 fun lF dZ jr =>
 gf Cx u2 [(.agg #[(iV lF), (iV dZ), (iV jr)])] nU (fun AA gQ =>
 (AA = (.tuple #[])) ∧
 ∃ kC : Nat, (kC < k5) ∧
 I3 kC [(iV (IntKind.wrap .i64 (n7 + 1)))] gQ) Kp)
 (K (.tuple #[]) M8)) Kp) :
 aa Tryz.prog 135 #[.pointer (some ⟨b0, o0, none⟩), .slice B1 m1 c1, u2] M K Kp := vw [(2000000, .loop [(14, .c (.int .i64))])] Tryz.func135 h
end Go.Proofs
namespace Go.Proofs
open Go.AF
set_option maxRecDepth 100000
variable {M : Mem} {K : Value → Mem → Prop} {Kp : List PanicEntry → Mem → Prop}
theorem tC {lI : Option Addr} {lJ lK : Nat} {jO : Option Addr} {jP jQ : Nat} {gk : Int} {lM : Option Addr} {lN lO : Nat} (h :
aW M (cl [(.slice lI lJ lK), (.slice jO jP jQ), (iV gk), (.slice lM lN lO)] 59) fun k1 M2 =>
aW M2 xm fun k3 M4 =>
rS M4 k1 1 fun A5 k6 k7 =>
rI M4 k1 2 fun n8 =>
aW M4 (cl [] 3) fun k9 fJ =>
(True) ∧
aA 36 (some ⟨k9, 0, none⟩) 0 0 A5 k6 k7 fJ (fun v11 j0 =>
az (some v11) fun Dc eX gj =>
eI j0 k1 2 n8 ∧
aW j0 xm fun dK kY =>
kB kY dK (.slice none 0 0) (.slice Dc eX gj) (iV n8) (.slice none 0 0) fun jG =>
eI jG k1 2 n8 ∧
rS jG k1 0 fun Mz iI kC =>
∃ WD : IT, (∃ lV, WD lV [(iV 0)] jG) ∧
∀ (oT : Nat) (_ : Nat → Value) (qi : Int) (kW : Mem), (WD oT [(iV qi)] kW) → aQ (decide (qi < iI))
 ((0 ≤ qi) ∧
 (qi < iI) ∧
 aE Mz fun lZ nO =>
 rS kW lZ (nO + (Int.toNat qi)) fun F2 sq yH =>
 aW kW (cl [] 27) fun Ga yG =>
 ∃ I38 : IT, (∃ rK, I38 rK [(.slice (some ⟨Ga, 0, none⟩) 0 0), (iV 0)] yG) ∧
 ∀ (xq : Nat) (_ : Nat → Value) (Eg : Option Addr) (nR : Nat) (BX : Nat) (vU : Int) (HX : Mem), (I38 xq [(.slice Eg nR BX), (iV vU)] HX) → aQ (decide (vU < sq))
 ((0 ≤ vU) ∧
 (vU < sq) ∧
 aE F2 fun N7 Od =>
 bN HX N7 (Od + ((Int.toNat vU) * 4)) fun MD Pq Fi RV =>
 aW HX iF fun uo Ff =>
 kB Ff uo (iV MD) (iV Pq) (iV Fi) (iV RV) fun Pz =>
 bN Pz uo 0 fun F1 HS De Pw =>
 aW Pz (cl [(iV F1), (iV HS), (iV De), (iV Pw)] 27) fun HW Px =>
 aA 28 Eg nR BX (some ⟨HW, 0, none⟩) 1 1 Px (fun v65 Vh =>
 az (some v65) fun A67 KZ k69 =>
 ∃ KX : Nat, (KX < xq) ∧
 I38 KX [(.slice A67 KZ k69), (iV (IntKind.wrap .i64 (vU + 1)))] Vh) Kp)
 (rS HX dK 0 fun WG Zs k73 =>
 aW HX (cl [(.slice Eg nR BX)] 28) fun Zt xH =>
 aA 35 WG Zs k73 (some ⟨Zt, 0, none⟩) 1 1 xH (fun v76 WB =>
 az (some v76) fun A78 SY Gk =>
 sT WB dK 0 (.slice A78 SY Gk) fun PD =>
 ∃ Gh : Nat, (Gh < oT) ∧
 WD Gh [(iV (IntKind.wrap .i64 (qi + 1)))] PD) Kp))
 (rS kW k1 3 fun A83 Sa K0 =>
 ∃ I86 : IT, (∃ Ww, I86 Ww [(iV 0)] kW) ∧
 ∀ (RY : Nat) (_ : Nat → Value) (H6 : Int) (my : Mem), (I86 RY [(iV H6)] my) → aQ (decide (H6 < Sa))
 ((0 ≤ H6) ∧
 (H6 < Sa) ∧
 aE A83 fun WH WI =>
 j9 my WH (WI + ((Int.toNat H6) * 3)) fun KP Fg HU =>
 aW my xn fun k97 Fm =>
 FY Fm k97 (iV KP) (iV Fg) (iV HU) fun iP =>
 rS iP dK 3 fun AQ nx Gq =>
 j9 iP k97 0 fun Tl Tm MR =>
 aW iP (cl [(iV Tl), (iV Tm), (iV MR)] 165) fun XL vN =>
 aA 37 AQ nx Gq (some ⟨XL, 0, none⟩) 1 1 vN (fun v110 oD =>
 az (some v110) fun XK Ey PE =>
 sT oD dK 3 (.slice XK Ey PE) fun Jh =>
 ∃ MP : Nat, (MP < RY) ∧
 I86 MP [(iV (IntKind.wrap .i64 (H6 + 1)))] Jh) Kp)
 (rS my dK 0 fun Tn Qm Gx =>
 rS my dK 1 fun A120 k121 Qn =>
 rI my dK 2 fun XM =>
 rS my dK 3 fun A124 Et Qo =>
 kB my k3 (.slice Tn Qm Gx) (.slice A120 k121 Qn) (iV XM) (.slice A124 Et Qo) fun tu =>
 tP tu k3 0 fun Gn xI MG XN Cs tv MS A138 k139 k140 =>
 K (.agg #[(.slice Gn xI MG), (.slice XN Cs tv), (iV MS), (.slice A138 k139 k140)]) tu))) Kp) :
 aa Tryz.prog 25 #[.agg #[.slice lI lJ lK, .slice jO jP jQ, .int .i64 gk, .slice lM lN lO]] M K Kp := vw [(1, .bQ [0, 0, 2, 7, 0, 16, 63, 0, 255] (sy [1, 4, 2] (.cE 5 (sy [0] (.late 3 (sy [6, 7, 8] .done)))))), (2000000, .loop [(21, .c (.int .i64))]), (2000002, .loop [(6, .c .sl), (28, .c (.int .i64))]), (2000004, .loop [(55, .c (.int .i64))])] Tryz.func25 h
theorem qG {lI : Option Addr} {lJ lK : Nat} {jO : Option Addr} {jP jQ : Nat} {gk : Int} {lM : Option Addr} {lN lO : Nat} (h :
aW M (cl [(.slice lI lJ lK), (.slice jO jP jQ), (iV gk), (.slice lM lN lO)] 59) fun k1 M2 =>
aW M2 xo fun k3 M4 =>
rI M4 k1 2 fun n5 =>
aa Tryz.prog 66 #[(iV n5), (iV 4)] M4 (fun v6 M7 =>
aK (some v6) .i64 fun n8 =>
aW M7 xo fun k9 fJ =>
kB fJ k9 (.slice none 0 0) (.slice none 0 0) (iV n8) (.slice none 0 0) fun jM =>
∃ J15 : List Value → Mem → Prop, (∃ I16 : IT, (∃ dS, I16 dS [(iV 0)] jM) ∧
 ∀ (dx : Nat) (_ : Nat → Value) (dZ : Int) (jG : Mem), (I16 dx [(iV dZ)] jG) → rS jG k1 1 fun Mz iI kC =>
 aQ (decide (dZ < iI))
 (aQ (decide (dZ < 4))
 (∃ J25 : List Value → Mem → Prop, (rS jG k1 1 fun HY oT ko =>
 (0 ≤ dZ) ∧
 (dZ < oT) ∧
 aE HY fun nT kZ =>
 rI jG nT (kZ + (Int.toNat dZ)) fun tQ =>
 (rS jG k9 1 fun Zu nQ sq =>
 aa Tryz.prog 66 #[(iV tQ), (iV 4)] jG (fun v35 Ee =>
 aK (some v35) .i64 fun KM =>
 aW Ee (cl [(iV KM)] 3) fun gm Zn =>
 aA 36 Zu nQ sq (some ⟨gm, 0, none⟩) 1 1 Zn (fun Ge uw =>
 az (some Ge) fun Eg nR BX =>
 sT uw k9 1 (.slice Eg nR BX) fun vk =>
 J25 [] vk) Kp) Kp) ∧
 (aa Tryz.prog 66 #[(iV tQ), (iV 4)] jG (fun v46 sF =>
 aK (some v46) .i64 fun Cl =>
 rS sF k9 1 fun WE KO IZ =>
 aW sF (cl [(iV Cl)] 3) fun um I0 =>
 aA 36 WE KO IZ (some ⟨um, 0, none⟩) 1 1 I0 (fun Jg l8 =>
 az (some Jg) fun Pp AI BY =>
 sT l8 k9 1 (.slice Pp AI BY) fun B4 =>
 J25 [] B4) Kp) Kp) ∧
 True) ∧
 ∀ junk60 : Nat → Value, ∀ Dd : Mem, (J25 [] Dd) → ∃ PB : Nat, (PB < dx) ∧
 I16 PB [(iV (IntKind.wrap .i64 (dZ + 1)))] Dd)
 (J15 [] jG))
 (J15 [] jG)) ∧
∀ junk63 : Nat → Value, ∀ Px : Mem, (J15 [] Px) → ∃ J65 : List Value → Mem → Prop, (∃ I66 : IT, (∃ xD, I66 xD [(iV 0)] Px) ∧
 ∀ (KZ : Nat) (_ : Nat → Value) (To : Int) (R7 : Mem), (I66 KZ [(iV To)] R7) → rS R7 k1 3 fun A72 k73 Zt =>
 aQ (decide (To < k73))
 (aQ (decide (To < 8))
 (rS R7 k1 3 fun A75 k76 k77 =>
 (0 ≤ To) ∧
 (To < k76) ∧
 aE A75 fun RX SY =>
 j9 R7 RX (SY + ((Int.toNat To) * 3)) fun RP Zw Oa =>
 aW R7 xn fun zQ SZ =>
 FY SZ zQ (iV RP) (iV Zw) (iV Oa) fun K3 =>
 rII K3 zQ 0 fun Tp MT =>
 rS K3 k9 1 fun Zv B5 WH =>
 rI K3 zQ 2 fun Tk =>
 (True) ∧
 aa Tryz.prog 66 #[(iV Tp), (iV 3)] K3 (fun v94 R9 =>
 aK (some v94) .i64 fun HU =>
 eI R9 zQ 2 Tk ∧
 eS R9 k9 1 Zv B5 WH ∧
 eI R9 zQ 1 MT ∧
 (True) ∧
 aa Tryz.prog 66 #[(iV MT), (iV (B5 : Int))] R9 (fun v97 Fm =>
 aK (some v97) .i64 fun R8 =>
 eI Fm zQ 2 Tk ∧
 eS Fm k9 1 Zv B5 WH ∧
 eI Fm zQ 1 MT ∧
 (True) ∧
 aa Tryz.prog 66 #[(iV Tk), (iV 8)] Fm (fun XO iP =>
 aK (some XO) .i64 fun IJ =>
 eI iP zQ 2 Tk ∧
 eS iP k9 1 Zv B5 WH ∧
 eI iP zQ 1 MT ∧
 aW iP xn fun nx WJ =>
 FY WJ nx (iV HU) (iV R8) (iV IJ) fun Er =>
 eI Er zQ 2 Tk ∧
 eS Er k9 1 Zv B5 WH ∧
 eI Er zQ 1 MT ∧
 rS Er k9 1 fun A108 Co Cp =>
 ∃ XP : List Value → Mem → Prop, (aQ ((Co : Int) == 0)
 (sT Er nx 0 (iV 2) fun M112 =>
 sT M112 nx 1 (iV 0) fun wg =>
 sT wg nx 2 (iV 0) fun Cq =>
 XP [] Cq)
 (XP [] Er)) ∧
 ∀ junk115 : Nat → Value, ∀ zo : Mem, (XP [] zo) → rS zo k9 3 fun Tn Qm Gx =>
 j9 zo nx 0 fun qD uL Jd =>
 aW zo (cl [(iV qD), (iV uL), (iV Jd)] 163) fun Cr xL =>
 aA 57 Tn Qm Gx (some ⟨Cr, 0, none⟩) 1 1 xL (fun v125 M126 =>
 az (some v125) fun Tq MU Gy =>
 sT M126 k9 3 (.slice Tq MU Gy) fun tu =>
 ∃ Jk : Nat, (Jk < KZ) ∧
 I66 Jk [(iV (IntKind.wrap .i64 (To + 1)))] tu) Kp) Kp) Kp) Kp)
 (J65 [] R7))
 (J65 [] R7)) ∧
∀ junk132 : Nat → Value, ∀ Qp : Mem, (J65 [] Qp) → rS Qp k1 0 fun XN Cs tv =>
rS Qp k1 0 fun A137 Cv k139 =>
((0 : Int) ≤ tv) ∧
((tv : Int) ≤ tv) ∧
((0 : Int) ≤ (if (5 : Int) < (Cv : Int) then 5 else (Cv : Int))) ∧
(((if (5 : Int) < (Cv : Int) then 5 else (Cv : Int)) : Int) ≤ (tv : Int)) ∧
((0 : Int) ≤ 0) ∧
((0 : Int) ≤ (if (5 : Int) < (Cv : Int) then 5 else (Cv : Int))) ∧
∃ XQ : List Value → Mem → Prop, (aQ (((((Int.toNat (if (5 : Int) < (Cv : Int) then 5 else (Cv : Int))) - 0) : Nat) : Int) == 0)
 (aW Qp iF fun k141 PO =>
 aW PO (cl [(.slice (some ⟨k141, 0, none⟩) 1 1)] 61) fun k143 M144 =>
 XQ [(.slice (some ⟨k143, 0, none⟩) 1 1)] M144)
 (XQ [(.slice (kx XN 0 (Int.toNat (tv : Int)) 1) ((Int.toNat (if (5 : Int) < (Cv : Int) then 5 else (Cv : Int))) - 0) ((Int.toNat (tv : Int)) - 0))] Qp)) ∧
∀ junk145 : Nat → Value, ∀ A146 : Option Addr, ∀ Qq : Nat, ∀ PU : Nat, ∀ AO : Mem, (XQ [(.slice A146 Qq PU)] AO) → aX Tryz.prog (Go.Instr.makeSlice 56 (iV (Qq : Int)) (iV (Qq : Int))) AO (fun v150 AT =>
az (some v150) fun PV PW Jf =>
sT AT k9 0 (.slice PV PW Jf) fun M155 =>
∃ XR : IT, (∃ PX, XR PX [(iV 0)] M155) ∧
∀ (Tr : Nat) (_ : Nat → Value) (xO : Int) (xK : Mem), (XR Tr [(iV xO)] xK) → aQ (decide (xO < Qq))
 ((0 ≤ xO) ∧
 (xO < Qq) ∧
 aE A146 fun PY PZ =>
 rS xK PY (PZ + (Int.toNat xO)) fun A164 xP MW =>
 ((0 : Int) ≤ MW) ∧
 ((MW : Int) ≤ MW) ∧
 ((0 : Int) ≤ (if (20 : Int) < (xP : Int) then 20 else (xP : Int))) ∧
 (((if (20 : Int) < (xP : Int) then 20 else (xP : Int)) : Int) ≤ (MW : Int)) ∧
 ((0 : Int) ≤ 0) ∧
 ((0 : Int) ≤ (if (20 : Int) < (xP : Int) then 20 else (xP : Int))) ∧
 ∃ XS : List Value → Mem → Prop, (aQ (((((Int.toNat (if (20 : Int) < (xP : Int) then 20 else (xP : Int))) - 0) : Nat) : Int) == 0)
 (aW xK iF fun k168 M169 =>
 XS [(.slice (some ⟨k168, 0, none⟩) 1 1)] M169)
 (XS [(.slice (kx A164 0 (Int.toNat (MW : Int)) 4) ((Int.toNat (if (20 : Int) < (xP : Int) then 20 else (xP : Int))) - 0) ((Int.toNat (MW : Int)) - 0))] xK)) ∧
 ∀ junk170 : Nat → Value, ∀ XT : Option Addr, ∀ Ts : Nat, ∀ MJ : Nat, ∀ M174 : Mem, (XS [(.slice XT Ts MJ)] M174) → aW M174 (cl [] 63) fun Tt M176 =>
 ∃ XU : IT, (∃ Tu, XU Tu [(.slice (some ⟨Tt, 0, none⟩) 0 0), (iV 0)] M176) ∧
 ∀ (Qr : Nat) (_ : Nat → Value) (XV : Option Addr) (XW : Nat) (XX : Nat) (Ez : Int) (Qs : Mem), (XU Qr [(.slice XV XW XX), (iV Ez)] Qs) → aQ (decide (Ez < Ts))
 ((0 ≤ Ez) ∧
 (Ez < Ts) ∧
 aE XT fun k186 k187 =>
 bN Qs k186 (k187 + ((Int.toNat Ez) * 4)) fun Jj XY XZ n191 =>
 aW Qs iF fun W7 M193 =>
 kB M193 W7 (iV Jj) (iV XY) (iV XZ) (iV n191) fun P6 =>
 tP P6 k9 0 fun A198 k199 k200 A201 X0 k203 n204 W8 W9 k207 =>
 bN P6 W7 0 fun Qt Qu Qv Qw =>
 aa Tryz.prog 67 #[(.agg #[(.slice A198 k199 k200), (.slice A201 X0 k203), (iV n204), (.slice W8 W9 k207)]), (.slice XT Ts MJ), (.agg #[(iV Qt), (iV Qu), (iV Qv), (iV Qw)])] P6 (fun X1 P9 =>
 ∃ MX Tv Tw Qx : Int, (X1 = (.agg #[(iV MX), (iV Tv), (iV Tw), (iV Qx)])) ∧
 aW P9 (cl [(iV MX), (iV Tv), (iV Tw), (iV Qx)] 63) fun k218 M219 =>
 aA 61 XV XW XX (some ⟨k218, 0, none⟩) 1 1 M219 (fun v220 M221 =>
 az (some v220) fun A222 Xd Tx =>
 ∃ Qy : Nat, (Qy < Qr) ∧
 XU Qy [(.slice A222 Xd Tx), (iV (IntKind.wrap .i64 (Ez + 1)))] M221) Kp) Kp)
 (rS Qs k9 0 fun Xf Xg k228 =>
 (0 ≤ xO) ∧
 (xO < Xg) ∧
 aE Xf fun k229 Xh =>
 sT Qs k229 (Xh + (Int.toNat xO)) (.slice XV XW XX) fun M231 =>
 ∃ k232 : Nat, (k232 < Tr) ∧
 XR k232 [(iV (IntKind.wrap .i64 (xO + 1)))] M231))
 (rS xK k9 0 fun A233 Xi k235 =>
 rS xK k9 1 fun A236 Xj k238 =>
 rI xK k9 2 fun n239 =>
 rS xK k9 3 fun A240 k241 k242 =>
 kB xK k3 (.slice A233 Xi k235) (.slice A236 Xj k238) (iV n239) (.slice A240 k241 k242) fun M246 =>
 tP M246 k3 0 fun A247 Qe k249 A250 X3 k252 X4 A254 k255 Xo =>
 K (.agg #[(.slice A247 Qe k249), (.slice A250 X3 k252), (iV X4), (.slice A254 k255 Xo)]) M246)) Kp) Kp) :
 aa Tryz.prog 24 #[.agg #[.slice lI lJ lK, .slice jO jP jQ, .int .i64 gk, .slice lM lN lO]] M K Kp := vw [(1000000, .cut []), (2000000, .loop [(4, .c (.int .i64))]), (5, .It [0, 1, 0, 4, 0, 28, 60, 124, 252, 511, 1023, 2047] (sy [0, 2, 4, 3, 5, 6] (.fork 1 (sy [7, 8, 9, 10, 11] .done) (.fork 7 (sy [1, 8, 9, 10, 11] .done) .dead))) []), (1000002, .cut []), (2000002, .loop [(5, .c (.int .i64))]), (10, .bQ [0, 1, 3, 0, 8, 0, 32, 96, 255, 0, 512, 2047, 4095, 0, 16383] (sy [0, 3, 5, 9, 1] (.cE 4 (.cE 6 (sy [7] (.cE 10 (.late 2 (.late 8 (.late 11 (sy [12, 13, 14] .done)))))))))), (3000072, .cut []), (3000089, .cut [(8, .c .sl)]), (2000004, .loop [(99, .c (.int .i64))]), (3000111, .cut [(10, .c .sl)]), (2000006, .loop [(11, .c .sl), (117, .c (.int .i64))])] Tryz.func24 h
theorem tD {x0 : Int} {x1 : Int} (h :
aQ (decide ((x1 : Int) < 1))
 (K (iV 0) M)
 (((x1 : Int) ≠ 0) ∧
 ((x1 : Int) ≠ 0) ∧
 K (iV (Int.tmod (IntKind.wrap .i64 ((Int.tmod x0 x1) + x1)) x1)) M)) :
 aa Tryz.prog 66 #[.int .i64 x0, .int .i64 x1] M K Kp := vw [] Tryz.func66 h
theorem tE {lI : Option Addr} {lJ lK : Nat} {jO : Option Addr} {jP jQ : Nat} {gk : Int} {lM : Option Addr} {lN lO : Nat} {B1 : Option Addr} {m1 c1 : Nat} {Ps : Int} {Pt : Int} {Pu : Int} {Pv : Int} (h :
aW M (cl [(.slice lI lJ lK), (.slice jO jP jQ), (iV gk), (.slice lM lN lO)] 59) fun k1 M2 =>
aW M2 (cl [(iV Ps), (iV Pt), (iV Pu), (iV Pv)] 63) fun k3 M4 =>
aW M4 iF fun k5 M6 =>
rI M6 k3 0 fun n7 =>
aa Tryz.prog 66 #[(iV n7), (iV 23)] M6 (fun v8 M9 =>
aK (some v8) .i64 fun jN =>
sT M9 k3 0 (iV jN) fun ir =>
rI ir k3 1 fun gy =>
rI ir k3 2 fun hG =>
rI ir k3 3 fun j5 =>
aa Tryz.prog 66 #[(iV gy), (iV 8)] ir (fun vK eB =>
aK (some vK) .i64 fun fK =>
eI eB k3 3 j5 ∧
eI eB k3 2 hG ∧
aa Tryz.prog 66 #[(iV hG), (iV 8)] eB (fun AB iN =>
aK (some AB) .i64 fun dZ =>
eI iN k3 3 j5 ∧
eI iN k3 2 hG ∧
aa Tryz.prog 66 #[(iV j5), (iV 8)] iN (fun Py cU =>
aK (some Py) .i64 fun o6 =>
eI cU k3 3 j5 ∧
eI cU k3 2 hG ∧
rSS cU k1 0 fun ze nj lV Mw ko nT =>
rS cU k1 3 fun RR lZ nO =>
rI cU k3 0 fun rL =>
aQ (rL == 1)
 (rI cU k3 2 fun KS =>
 kB cU k5 (iV 1) (iV fK) (iV KS) (iV 0) fun lW =>
 bN lW k5 0 fun Ef IX PI Dh =>
 K (.agg #[(iV Ef), (iV IX), (iV PI), (iV Dh)]) lW)
 (aQ (rL == 2)
 (sT cU k5 0 (iV 2) fun zP =>
 sT zP k5 1 (iV fK) fun zk =>
 sT zk k5 2 (iV dZ) fun vk =>
 sT vk k5 3 (iV 0) fun HX =>
 bN HX k5 0 fun wT Cl MD Pq =>
 K (.agg #[(iV wT), (iV Cl), (iV MD), (iV Pq)]) HX)
 (aQ (rL == 3)
 (rI cU k3 0 fun Fi =>
 kB cU k5 (iV Fi) (iV fK) (iV dZ) (iV o6) fun l8 =>
 bN l8 k5 0 fun Gp KW KN F1 =>
 K (.agg #[(iV Gp), (iV KW), (iV KN), (iV F1)]) l8)
 (aQ (rL == 4)
 (rI cU k3 0 fun HS =>
 kB cU k5 (iV HS) (iV fK) (iV dZ) (iV o6) fun Px =>
 bN Px k5 0 fun vL N8 RW IW =>
 K (.agg #[(iV vL), (iV N8), (iV RW), (iV IW)]) Px)
 (aQ (rL == 5)
 (rI cU k3 0 fun SX =>
 kB cU k5 (iV SX) (iV fK) (iV dZ) (iV o6) fun Fl =>
 bN Fl k5 0 fun S1 SM F6 zh =>
 K (.agg #[(iV S1), (iV SM), (iV F6), (iV zh)]) Fl)
 (aQ (rL == 6)
 (rI cU k3 0 fun AP =>
 kB cU k5 (iV AP) (iV fK) (iV dZ) (iV o6) fun M82 =>
 bN M82 k5 0 fun Vb Ob HZ ME =>
 K (.agg #[(iV Vb), (iV Ob), (iV HZ), (iV ME)]) M82)
 (aQ (rL == 7)
 (rI cU k3 1 fun MO =>
 aa Tryz.prog 66 #[(iV MO), (iV (m1 : Int))] cU (fun v88 Gi =>
 aK (some v88) .i64 fun H6 =>
 kB Gi k5 (iV 7) (iV H6) (iV 0) (iV 0) fun M94 =>
 bN M94 k5 0 fun Fg HU n97 Zi =>
 K (.agg #[(iV Fg), (iV HU), (iV n97), (iV Zi)]) M94) Kp)
 (aQ (rL == 8)
 (rI cU k3 2 fun R8 =>
 aa Tryz.prog 66 #[(iV R8), (iV (m1 : Int))] cU (fun XO iP =>
 aK (some XO) .i64 fun IJ =>
 kB iP k5 (iV 8) (iV fK) (iV IJ) (iV 0) fun S2 =>
 bN S2 k5 0 fun MR zn n109 IK =>
 K (.agg #[(iV MR), (iV zn), (iV n109), (iV IK)]) S2) Kp)
 (aQ (rL == 9)
 (rI cU k3 1 fun Gm =>
 rI cU k3 0 fun xu =>
 aa Tryz.prog 66 #[(iV Gm), (iV (nj : Int))] cU (fun v113 Cq =>
 aK (some v113) .i64 fun Qz =>
 eI Cq k3 0 xu ∧
 kB Cq k5 (iV xu) (iV Qz) (iV dZ) (iV o6) fun zp =>
 eI zp k3 0 xu ∧
 bN zp k5 0 fun qD uL Jd XM =>
 K (.agg #[(iV qD), (iV uL), (iV Jd), (iV XM)]) zp) Kp)
 (aQ (rL == 11)
 (rI cU k3 1 fun zw =>
 rI cU k3 0 fun Ct =>
 aa Tryz.prog 66 #[(iV zw), (iV (nj : Int))] cU (fun WL S3 =>
 aK (some WL) .i64 fun zq =>
 eI S3 k3 0 Ct ∧
 kB S3 k5 (iV Ct) (iV zq) (iV dZ) (iV o6) fun X5 =>
 eI X5 k3 0 Ct ∧
 bN X5 k5 0 fun MY MZ Na Ty =>
 K (.agg #[(iV MY), (iV MZ), (iV Na), (iV Ty)]) X5) Kp)
 (aQ (rL == 10)
 (rI cU k3 0 fun MS =>
 kB cU k5 (iV MS) (iV fK) (iV 0) (iV 0) fun MI =>
 bN MI k5 0 fun WM n143 PR PS =>
 K (.agg #[(iV WM), (iV n143), (iV PR), (iV PS)]) MI)
 (aQ (rL == 17)
 (rI cU k3 0 fun PT =>
 kB cU k5 (iV PT) (iV fK) (iV 0) (iV 0) fun M150 =>
 bN M150 k5 0 fun PF PG n153 n154 =>
 K (.agg #[(iV PF), (iV PG), (iV n153), (iV n154)]) M150)
 (aQ (rL == 20)
 (rI cU k3 0 fun n155 =>
 kB cU k5 (iV n155) (iV fK) (iV 0) (iV 0) fun M159 =>
 bN M159 k5 0 fun xO X6 X7 X8 =>
 K (.agg #[(iV xO), (iV X6), (iV X7), (iV X8)]) M159)
 (aQ (rL == 13)
 (aQ ((ko : Int) == 0)
 (sT cU k5 0 (iV 0) fun P0 =>
 sT P0 k5 1 (iV 0) fun P2 =>
 sT P2 k5 2 (iV 0) fun P3 =>
 sT P3 k5 3 (iV 0) fun Gs =>
 bN Gs k5 0 fun X9 P4 P5 Gt =>
 K (.agg #[(iV X9), (iV P4), (iV P5), (iV Gt)]) Gs)
 (rI cU k3 1 fun Tz =>
 rI cU k3 0 fun Nb =>
 (True) ∧
 aa Tryz.prog 66 #[(iV Tz), (iV (ko : Int))] cU (fun v174 M175 =>
 aK (some v174) .i64 fun n176 =>
 eI M175 k3 0 Nb ∧
 aW M175 iF fun wh M178 =>
 kB M178 wh (iV Nb) (iV n176) (iV 0) (iV 0) fun Cw =>
 eI Cw k3 0 Nb ∧
 rI Cw k3 0 fun TA =>
 aQ (decide (TA < 15))
 (sT Cw wh 2 (iV dZ) fun Jl =>
 rI Jl k3 0 fun MM =>
 aQ (MM == 14)
 (sT Jl wh 3 (iV o6) fun M186 =>
 bN M186 wh 0 fun n187 Jj XY XZ =>
 kB M186 k5 (iV n187) (iV Jj) (iV XY) (iV XZ) fun M194 =>
 bN M194 k5 0 fun n195 n196 Ya MN =>
 K (.agg #[(iV n195), (iV n196), (iV Ya), (iV MN)]) M194)
 (rI Jl wh 0 fun Yb =>
 rI Jl wh 1 fun n200 =>
 rI Jl wh 2 fun Tb =>
 rI Jl wh 3 fun P7 =>
 kB Jl k5 (iV Yb) (iV n200) (iV Tb) (iV P7) fun M206 =>
 bN M206 k5 0 fun Yc Qt Qu Qv =>
 K (.agg #[(iV Yc), (iV Qt), (iV Qu), (iV Qv)]) M206))
 (rI Cw k3 0 fun Qw =>
 aQ (Qw == 14)
 (sT Cw wh 3 (iV o6) fun Tc =>
 bN Tc wh 0 fun n213 MX Tv Tw =>
 kB Tc k5 (iV n213) (iV MX) (iV Tv) (iV Tw) fun M220 =>
 bN M220 k5 0 fun n221 n222 n223 Xe =>
 K (.agg #[(iV n221), (iV n222), (iV n223), (iV Xe)]) M220)
 (rI Cw wh 0 fun n225 =>
 rI Cw wh 1 fun TB =>
 rI Cw wh 2 fun TC =>
 rI Cw wh 3 fun TD =>
 kB Cw k5 (iV n225) (iV TB) (iV TC) (iV TD) fun M232 =>
 bN M232 k5 0 fun n233 n234 n235 n236 =>
 K (.agg #[(iV n233), (iV n234), (iV n235), (iV n236)]) M232))) Kp))
 (aQ (rL == 14)
 (aQ ((ko : Int) == 0)
 (sT cU k5 0 (iV 0) fun M237 =>
 sT M237 k5 1 (iV 0) fun Xk =>
 sT Xk k5 2 (iV 0) fun Xl =>
 sT Xl k5 3 (iV 0) fun Th =>
 bN Th k5 0 fun n241 n242 Qb Qc =>
 K (.agg #[(iV n241), (iV n242), (iV Qb), (iV Qc)]) Th)
 (rI cU k3 1 fun Qd =>
 rI cU k3 0 fun Yd =>
 (True) ∧
 aa Tryz.prog 66 #[(iV Qd), (iV (ko : Int))] cU (fun v247 M248 =>
 aK (some v247) .i64 fun n249 =>
 eI M248 k3 0 Yd ∧
 aW M248 iF fun tF M251 =>
 kB M251 tF (iV Yd) (iV n249) (iV 0) (iV 0) fun Cy =>
 eI Cy k3 0 Yd ∧
 rI Cy k3 0 fun Ye =>
 aQ (decide (Ye < 15))
 (sT Cy tF 2 (iV dZ) fun Jm =>
 rI Jm k3 0 fun n258 =>
 aQ (n258 == 14)
 (sT Jm tF 3 (iV o6) fun M259 =>
 bN M259 tF 0 fun n260 n261 n262 n263 =>
 kB M259 k5 (iV n260) (iV n261) (iV n262) (iV n263) fun Gv =>
 bN Gv k5 0 fun Xr Xs Xt n271 =>
 K (.agg #[(iV Xr), (iV Xs), (iV Xt), (iV n271)]) Gv)
 (rI Jm tF 0 fun n272 =>
 rI Jm tF 1 fun n273 =>
 rI Jm tF 2 fun Xu =>
 rI Jm tF 3 fun n275 =>
 kB Jm k5 (iV n272) (iV n273) (iV Xu) (iV n275) fun M279 =>
 bN M279 k5 0 fun n280 n281 Xv n283 =>
 K (.agg #[(iV n280), (iV n281), (iV Xv), (iV n283)]) M279))
 (rI Cy k3 0 fun n284 =>
 aQ (n284 == 14)
 (sT Cy tF 3 (iV o6) fun Tj =>
 bN Tj tF 0 fun n286 n287 n288 n289 =>
 kB Tj k5 (iV n286) (iV n287) (iV n288) (iV n289) fun M293 =>
 bN M293 k5 0 fun Xw Xx n296 n297 =>
 K (.agg #[(iV Xw), (iV Xx), (iV n296), (iV n297)]) M293)
 (rI Cy tF 0 fun n298 =>
 rI Cy tF 1 fun n299 =>
 rI Cy tF 2 fun n300 =>
 rI Cy tF 3 fun n301 =>
 kB Cy k5 (iV n298) (iV n299) (iV n300) (iV n301) fun M305 =>
 bN M305 k5 0 fun n306 n307 n308 n309 =>
 K (.agg #[(iV n306), (iV n307), (iV n308), (iV n309)]) M305))) Kp))
 (aQ (rL == 15)
 (aQ ((ko : Int) == 0)
 (sT cU k5 0 (iV 0) fun M310 =>
 sT M310 k5 1 (iV 0) fun M311 =>
 sT M311 k5 2 (iV 0) fun M312 =>
 sT M312 k5 3 (iV 0) fun M313 =>
 bN M313 k5 0 fun n314 n315 n316 n317 =>
 K (.agg #[(iV n314), (iV n315), (iV n316), (iV n317)]) M313)
 (rI cU k3 1 fun n318 =>
 rI cU k3 0 fun Yf =>
 (True) ∧
 aa Tryz.prog 66 #[(iV n318), (iV (ko : Int))] cU (fun v320 M321 =>
 aK (some v320) .i64 fun n322 =>
 eI M321 k3 0 Yf ∧
 aW M321 iF fun wj M324 =>
 kB M324 wj (iV Yf) (iV n322) (iV 0) (iV 0) fun Cz =>
 eI Cz k3 0 Yf ∧
 rI Cz k3 0 fun n329 =>
 aQ (decide (n329 < 15))
 (sT Cz wj 2 (iV dZ) fun Jn =>
 rI Jn k3 0 fun n331 =>
 aQ (n331 == 14)
 (sT Jn wj 3 (iV o6) fun M332 =>
 bN M332 wj 0 fun n333 n334 n335 n336 =>
 kB M332 k5 (iV n333) (iV n334) (iV n335) (iV n336) fun M340 =>
 bN M340 k5 0 fun n341 n342 n343 n344 =>
 K (.agg #[(iV n341), (iV n342), (iV n343), (iV n344)]) M340)
 (rI Jn wj 0 fun n345 =>
 rI Jn wj 1 fun n346 =>
 rI Jn wj 2 fun n347 =>
 rI Jn wj 3 fun n348 =>
 kB Jn k5 (iV n345) (iV n346) (iV n347) (iV n348) fun M352 =>
 bN M352 k5 0 fun n353 n354 n355 n356 =>
 K (.agg #[(iV n353), (iV n354), (iV n355), (iV n356)]) M352))
 (rI Cz k3 0 fun n357 =>
 aQ (n357 == 14)
 (sT Cz wj 3 (iV o6) fun M358 =>
 bN M358 wj 0 fun n359 n360 n361 n362 =>
 kB M358 k5 (iV n359) (iV n360) (iV n361) (iV n362) fun M366 =>
 bN M366 k5 0 fun n367 n368 n369 n370 =>
 K (.agg #[(iV n367), (iV n368), (iV n369), (iV n370)]) M366)
 (rI Cz wj 0 fun n371 =>
 rI Cz wj 1 fun n372 =>
 rI Cz wj 2 fun n373 =>
 rI Cz wj 3 fun n374 =>
 kB Cz k5 (iV n371) (iV n372) (iV n373) (iV n374) fun M378 =>
 bN M378 k5 0 fun n379 n380 n381 n382 =>
 K (.agg #[(iV n379), (iV n380), (iV n381), (iV n382)]) M378))) Kp))
 (aQ (rL == 16)
 (aQ ((lZ : Int) == 0)
 (sT cU k5 0 (iV 0) fun M383 =>
 sT M383 k5 1 (iV 0) fun M384 =>
 sT M384 k5 2 (iV 0) fun M385 =>
 sT M385 k5 3 (iV 0) fun M386 =>
 bN M386 k5 0 fun n387 n388 n389 n390 =>
 K (.agg #[(iV n387), (iV n388), (iV n389), (iV n390)]) M386)
 (rI cU k3 1 fun n391 =>
 aa Tryz.prog 66 #[(iV n391), (iV (lZ : Int))] cU (fun v392 M393 =>
 aK (some v392) .i64 fun n394 =>
 rI M393 k3 2 fun n395 =>
 aa Tryz.prog 66 #[(iV n395), (iV (IntKind.wrap .i64 ((lZ : Int) - n394)))] M393 (fun v396 M397 =>
 aK (some v396) .i64 fun n398 =>
 kB M397 k5 (iV 16) (iV n394) (iV (IntKind.wrap .i64 (1 + n398))) (iV o6) fun M402 =>
 bN M402 k5 0 fun n403 n404 n405 n406 =>
 K (.agg #[(iV n403), (iV n404), (iV n405), (iV n406)]) M402) Kp) Kp))
 (aQ (rL == 18)
 (rI cU k1 2 fun n407 =>
 aQ (n407 == 0)
 (sT cU k5 0 (iV 0) fun M408 =>
 sT M408 k5 1 (iV 0) fun M409 =>
 sT M409 k5 2 (iV 0) fun M410 =>
 sT M410 k5 3 (iV 0) fun M411 =>
 bN M411 k5 0 fun n412 n413 n414 n415 =>
 K (.agg #[(iV n412), (iV n413), (iV n414), (iV n415)]) M411)
 (rI cU k3 1 fun n416 =>
 rI cU k1 2 fun n417 =>
 rI cU k3 0 fun Yg =>
 aa Tryz.prog 66 #[(iV n416), (iV n417)] cU (fun v419 M420 =>
 aK (some v419) .i64 fun n421 =>
 eI M420 k3 0 Yg ∧
 kB M420 k5 (iV Yg) (iV n421) (iV 0) (iV 0) fun Yh =>
 eI Yh k3 0 Yg ∧
 bN Yh k5 0 fun n426 n427 n428 n429 =>
 K (.agg #[(iV n426), (iV n427), (iV n428), (iV n429)]) Yh) Kp))
 (aQ (rL == 19)
 (rI cU k1 2 fun n430 =>
 aQ (n430 == 0)
 (sT cU k5 0 (iV 0) fun M431 =>
 sT M431 k5 1 (iV 0) fun M432 =>
 sT M432 k5 2 (iV 0) fun M433 =>
 sT M433 k5 3 (iV 0) fun M434 =>
 bN M434 k5 0 fun n435 n436 n437 n438 =>
 K (.agg #[(iV n435), (iV n436), (iV n437), (iV n438)]) M434)
 (rI cU k3 1 fun n439 =>
 rI cU k1 2 fun n440 =>
 rI cU k3 0 fun Yi =>
 aa Tryz.prog 66 #[(iV n439), (iV n440)] cU (fun v442 M443 =>
 aK (some v442) .i64 fun n444 =>
 eI M443 k3 0 Yi ∧
 kB M443 k5 (iV Yi) (iV n444) (iV 0) (iV 0) fun Yj =>
 eI Yj k3 0 Yi ∧
 bN Yj k5 0 fun n449 n450 n451 n452 =>
 K (.agg #[(iV n449), (iV n450), (iV n451), (iV n452)]) Yj) Kp))
 (aQ (rL == 21)
 (rI cU k3 2 fun n453 =>
 aa Tryz.prog 66 #[(iV n453), (iV 1000)] cU (fun v454 M455 =>
 aK (some v454) .i64 fun n456 =>
 kB M455 k5 (iV 21) (iV fK) (iV (IntKind.wrap .i64 (1 + n456))) (iV 0) fun M460 =>
 bN M460 k5 0 fun n461 n462 n463 n464 =>
 K (.agg #[(iV n461), (iV n462), (iV n463), (iV n464)]) M460) Kp)
 (aQ (rL == 22)
 (rI cU k3 1 fun n465 =>
 aa Tryz.prog 66 #[(iV n465), (iV 1000)] cU (fun v466 M467 =>
 aK (some v466) .i64 fun n468 =>
 kB M467 k5 (iV 22) (iV n468) (iV 0) (iV 0) fun M472 =>
 bN M472 k5 0 fun n473 n474 n475 n476 =>
 K (.agg #[(iV n473), (iV n474), (iV n475), (iV n476)]) M472) Kp)
 (rI cU k3 0 fun n477 =>
 kB cU k5 (iV n477) (iV 0) (iV 0) (iV 0) fun M481 =>
 bN M481 k5 0 fun n482 n483 n484 n485 =>
 K (.agg #[(iV n482), (iV n483), (iV n484), (iV n485)]) M481)))))))))))))))))))))) Kp) Kp) Kp) Kp) :
 aa Tryz.prog 67 #[.agg #[.slice lI lJ lK, .slice jO jP jQ, .int .i64 gk, .slice lM lN lO], .slice B1 m1 c1, .agg #[.int .i64 Ps, .int .i64 Pt, .int .i64 Pu, .int .i64 Pv]] M K Kp := vw [(2, .bQ [0, 1, 3, 0, 8, 31, 0, 64, 255, 511, 1023, 2047] (sy [0, 3, 6, 1] (.cE 4 (.cE 7 (sy [2, 5, 8, 9, 10, 11] .done))))), (3, .bQ [0, 1, 3, 0, 8, 24, 0, 64, 192, 7, 575, 2047] (sy [0, 3, 6, 1, 2, 9, 4, 5, 10, 7, 8, 11] .done)), (20, .bQ [0, 1, 0, 4, 0, 28, 0, 0, 255, 511] (sy [0, 2, 4, 6, 7, 3] (.cE 1 (sy [5, 8, 9] .done)))), (30, .bQ [0, 1, 0, 4, 0, 28, 63, 0, 255] (sy [0, 2, 4, 3] (.cE 1 (.late 5 (sy [6, 7, 8] .done))))), (45, .bQ [0, 1, 0, 4, 0, 16, 60, 127, 255] (sy [0, 2, 4, 3, 5] (.cE 1 (sy [6, 7, 8] .done))))] Tryz.func67 h
end Go.Proofs
namespace Go.Proofs
open Go.AF
set_option maxRecDepth 100000
variable {M : Mem} {K : Value → Mem → Prop} {Kp : List PanicEntry → Mem → Prop}
theorem AW {B0 : Option Addr} {m0 c0 : Nat} (h :
aW M (cl [] 5) fun k1 M2 =>
∃ I3 : IT, (∃ k4, I3 k4 [(.slice (some ⟨k1, 0, none⟩) 0 0), (iV 0)] M2) ∧
∀ (k5 : Nat) (_ : Nat → Value) (A7 : Option Addr) (k8 : Nat) (k9 : Nat) (jN : Int) (ir : Mem), (I3 k5 [(.slice A7 k8 k9), (iV jN)] ir) → aQ (decide (jN < m0))
 ((0 ≤ jN) ∧
 (jN < m0) ∧
 aE B0 fun eU cY =>
 rI ir eU (cY + (Int.toNat jN)) fun j5 =>
 aa Tryz.prog 101 #[(iV j5)] ir (fun vK eB =>
 aK (some vK) .u64 fun fK =>
 aa Tryz.prog 100 #[(.int .u64 fK)] eB (fun AB iN =>
 fz (some AB) fun s20 =>
 aX Tryz.prog (Go.Builtin.append_ #[212, 9] 212 #[(.slice A7 k8 k9), (.string s20)]) iN (fun Py cU =>
 az (some Py) fun HR kC nj =>
 ∃ lV : Nat, (lV < k5) ∧
 I3 lV [(.slice HR kC nj), (iV (IntKind.wrap .i64 (jN + 1)))] cU) Kp) Kp) Kp)
 (aX Tryz.prog (Go.convert 212 9 (.slice A7 k8 k9)) ir (fun F7 oU =>
 fz (some F7) fun s29 =>
 aW oU (cl [(.string s29)] 9) fun kZ KV =>
 aa Tryz.prog 102 #[(.slice (some ⟨kZ, 0, none⟩) 1 1)] KV (fun v32 xw =>
 aK (some v32) .u32 fun KS =>
 K (.int .u32 KS) xw) Kp) Kp)) :
 aa Tryz.prog 46 #[.slice B0 m0 c0] M K Kp := vw [(2000000, .loop [(3, .c .sl), (9, .c (.int .i64))])] Tryz.func46 h
theorem Jo {x0 : Int} (h :
∃ I1 : IT, (∃ k2, I1 k2 [(.int .u64 x0), (.slice none 0 0)] M) ∧
∀ (k3 : Nat) (_ : Nat → Value) (n5 : Int) (A6 : Option Addr) (k7 : Nat) (k8 : Nat) (M9 : Mem), (I1 k3 [(.int .u64 n5), (.slice A6 k7 k8)] M9) → aQ (decide (n5 ≥ 128))
 (aW M9 (cl [(.int .u8 (IntKind.wrap .u8 (((Nat.bitwise or (BitVec.ofInt IntKind.u8.bits (IntKind.u8.wrap n5)).toNat (BitVec.ofInt IntKind.u8.bits 128).toNat) : Nat) : Int)))] 5) fun c6 ir =>
 aA 212 A6 k7 k8 (some ⟨c6, 0, none⟩) 1 1 ir (fun zL jl =>
 az (some zL) fun jo gj dK =>
 ∃ dS : Nat, (dS < k3) ∧
 I1 dS [(.int .u64 (Int.fdiv n5 128)), (.slice jo gj dK)] jl) Kp)
 (aW M9 (cl [(.int .u8 (IntKind.wrap .u8 n5))] 5) fun dx iN =>
 aA 212 A6 k7 k8 (some ⟨dx, 0, none⟩) 1 1 iN (fun v20 jG =>
 az (some v20) fun Mz iI kC =>
 aX Tryz.prog (Go.convert 212 9 (.slice Mz iI kC)) jG (fun Mx vj =>
 fz (some Mx) fun s27 =>
 K (.string s27) vj) Kp) Kp)) :
 aa Tryz.prog 100 #[.int .u64 x0] M K Kp := vw [(2000000, .loop [(0, .c (.int .u64)), (3, .c .sl)])] Tryz.func100 h
theorem Jp {x0 : Int} (h :
K (.int .u64 (IntKind.wrap .u64 (((Nat.bitwise bne
 (BitVec.ofInt IntKind.u64.bits
 (IntKind.u64.wrap (IntKind.i64.wrap (x0 * 2 ^ min (Int.toNat 1) IntKind.i64.bits)))).toNat
 (BitVec.ofInt IntKind.u64.bits (IntKind.u64.wrap (x0.fdiv (2 ^ min (Int.toNat 63) IntKind.i64.bits)))).toNat) : Nat) : Int))) M) :
 aa Tryz.prog 101 #[.int .i64 x0] M K Kp := vw [] Tryz.func101 h
theorem Nc {B0 : Option Addr} {m0 c0 : Nat} (h :
aW M (cl [(.int .u32 0)] 287) fun k1 M2 =>
∃ I3 : IT, (∃ k4, I3 k4 [(iV 0)] M2) ∧
∀ (k5 : Nat) (_ : Nat → Value) (n7 : Int) (M8 : Mem), (I3 k5 [(iV n7)] M8) → aQ (decide (n7 < m0))
 ((0 ≤ n7) ∧
 (n7 < m0) ∧
 aE B0 fun k9 c6 =>
 fz (Mem.ld M8 ⟨k9, (c6 + (Int.toNat n7)), none⟩) fun s11 =>
 aK (Mem.ld M8 ⟨k1, 0, none⟩) .u32 fun gy =>
 aa Tryz.prog 142 #[(.agg #[(.int .u32 gy)]), (.string s11)] M8 (fun C7 jM =>
 ∃ gT : Int, (C7 = (.agg #[(.int .u32 gT)])) ∧
 sT jM k1 0 (.int .u32 gT) fun eB =>
 ∃ dS : Nat, (dS < k5) ∧
 I3 dS [(iV (IntKind.wrap .i64 (n7 + 1)))] eB) Kp)
 (aK (Mem.ld M8 ⟨k1, 0, none⟩) .u32 fun g9 =>
 aa Tryz.prog 143 #[(.agg #[(.int .u32 g9)])] M8 (fun Gg kX =>
 aK (some Gg) .u32 fun jr =>
 K (.int .u32 jr) kX) Kp)) :
 aa Tryz.prog 102 #[.slice B0 m0 c0] M K Kp := vw [(2000000, .loop [(8, .c (.int .i64))])] Tryz.func102 h
theorem EA  (h :
aW M (cl [(.int .u32 0), (.int .u32 0), (.int .u32 0), (.int .u32 0), (.int .u32 0), (.int .u32 0), (.int .u32 0), (.int .u32 0), (.int .u32 0), (.int .u32 0), (.int .u32 0), (.int .u32 0), (.int .u32 0), (.int .u32 0), (.int .u32 0), (.int .u32 0), (.int .u32 0), (.int .u32 0), (.int .u32 0), (.int .u32 0), (.int .u32 0), (.int .u32 0), (.int .u32 0), (.int .u32 0), (.int .u32 0), (.int .u32 0), (.int .u32 0), (.int .u32 0), (.int .u32 0), (.int .u32 0), (.int .u32 0), (.int .u32 0), (.int .u32 0), (.int .u32 0), (.int .u32 0), (.int .u32 0), (.int .u32 0), (.int .u32 0), (.int .u32 0), (.int .u32 0), (.int .u32 0), (.int .u32 0), (.int .u32 0), (.int .u32 0), (.int .u32 0), (.int .u32 0), (.int .u32 0), (.int .u32 0), (.int .u32 0), (.int .u32 0), (.int .u32 0), (.int .u32 0), (.int .u32 0), (.int .u32 0), (.int .u32 0), (.int .u32 0), (.int .u32 0), (.int .u32 0), (.int .u32 0), (.int .u32 0), (.int .u32 0), (.int .u32 0), (.int .u32 0), (.int .u32 0), (.int .u32 0), (.int .u32 0), (.int .u32 0), (.int .u32 0), (.int .u32 0), (.int .u32 0), (.int .u32 0), (.int .u32 0), (.int .u32 0), (.int .u32 0), (.int .u32 0), (.int .u32 0), (.int .u32 0), (.int .u32 0), (.int .u32 0), (.int .u32 0), (.int .u32 0), (.int .u32 0), (.int .u32 0), (.int .u32 0), (.int .u32 0), (.int .u32 0), (.int .u32 0), (.int .u32 0), (.int .u32 0), (.int .u32 0), (.int .u32 0), (.int .u32 0), (.int .u32 0), (.int .u32 0), (.int .u32 0), (.int .u32 0), (.int .u32 0), (.int .u32 0), (.int .u32 0), (.int .u32 0), (.int .u32 0), (.int .u32 0), (.int .u32 0), (.int .u32 0), (.int .u32 0), (.int .u32 0), (.int .u32 0), (.int .u32 0), (.int .u32 0), (.int .u32 0), (.int .u32 0), (.int .u32 0), (.int .u32 0), (.int .u32 0), (.int .u32 0), (.int .u32 0), (.int .u32 0), (.int .u32 0), (.int .u32 0), (.int .u32 0), (.int .u32 0), (.int .u32 0), (.int .u32 0), (.int .u32 0), (.int .u32 0), (.int .u32 0), (.int .u32 0), (.int .u32 0), (.int .u32 0), (.int .u32 0), (.int .u32 0), (.int .u32 0), (.int .u32 0), (.int .u32 0), (.int .u32 0), (.int .u32 0), (.int .u32 0), (.int .u32 0), (.int .u32 0), (.int .u32 0), (.int .u32 0), (.int .u32 0), (.int .u32 0), (.int .u32 0), (.int .u32 0), (.int .u32 0), (.int .u32 0), (.int .u32 0), (.int .u32 0), (.int .u32 0), (.int .u32 0), (.int .u32 0), (.int .u32 0), (.int .u32 0), (.int .u32 0), (.int .u32 0), (.int .u32 0), (.int .u32 0), (.int .u32 0), (.int .u32 0), (.int .u32 0), (.int .u32 0), (.int .u32 0), (.int .u32 0), (.int .u32 0), (.int .u32 0), (.int .u32 0), (.int .u32 0), (.int .u32 0), (.int .u32 0), (.int .u32 0), (.int .u32 0), (.int .u32 0), (.int .u32 0), (.int .u32 0), (.int .u32 0), (.int .u32 0), (.int .u32 0), (.int .u32 0), (.int .u32 0), (.int .u32 0), (.int .u32 0), (.int .u32 0), (.int .u32 0), (.int .u32 0), (.int .u32 0), (.int .u32 0), (.int .u32 0), (.int .u32 0), (.int .u32 0), (.int .u32 0), (.int .u32 0), (.int .u32 0), (.int .u32 0), (.int .u32 0), (.int .u32 0), (.int .u32 0), (.int .u32 0), (.int .u32 0), (.int .u32 0), (.int .u32 0), (.int .u32 0), (.int .u32 0), (.int .u32 0), (.int .u32 0), (.int .u32 0), (.int .u32 0), (.int .u32 0), (.int .u32 0), (.int .u32 0), (.int .u32 0), (.int .u32 0), (.int .u32 0), (.int .u32 0), (.int .u32 0), (.int .u32 0), (.int .u32 0), (.int .u32 0), (.int .u32 0), (.int .u32 0), (.int .u32 0), (.int .u32 0), (.int .u32 0), (.int .u32 0), (.int .u32 0), (.int .u32 0), (.int .u32 0), (.int .u32 0), (.int .u32 0), (.int .u32 0), (.int .u32 0), (.int .u32 0), (.int .u32 0), (.int .u32 0), (.int .u32 0), (.int .u32 0), (.int .u32 0), (.int .u32 0), (.int .u32 0), (.int .u32 0), (.int .u32 0), (.int .u32 0), (.int .u32 0), (.int .u32 0), (.int .u32 0), (.int .u32 0), (.int .u32 0), (.int .u32 0), (.int .u32 0), (.int .u32 0), (.int .u32 0), (.int .u32 0), (.int .u32 0), (.int .u32 0), (.int .u32 0), (.int .u32 0)] 325) fun k1 M2 =>
aW M2 (cl [(.int .u32 0), (.int .u32 0), (.int .u32 0), (.int .u32 0), (.int .u32 0), (.int .u32 0), (.int .u32 0), (.int .u32 0), (.int .u32 0), (.int .u32 0), (.int .u32 0), (.int .u32 0), (.int .u32 0), (.int .u32 0), (.int .u32 0), (.int .u32 0), (.int .u32 0), (.int .u32 0), (.int .u32 0), (.int .u32 0), (.int .u32 0), (.int .u32 0), (.int .u32 0), (.int .u32 0), (.int .u32 0), (.int .u32 0), (.int .u32 0), (.int .u32 0), (.int .u32 0), (.int .u32 0), (.int .u32 0), (.int .u32 0), (.int .u32 0), (.int .u32 0), (.int .u32 0), (.int .u32 0), (.int .u32 0), (.int .u32 0), (.int .u32 0), (.int .u32 0), (.int .u32 0), (.int .u32 0), (.int .u32 0), (.int .u32 0), (.int .u32 0), (.int .u32 0), (.int .u32 0), (.int .u32 0), (.int .u32 0), (.int .u32 0), (.int .u32 0), (.int .u32 0), (.int .u32 0), (.int .u32 0), (.int .u32 0), (.int .u32 0), (.int .u32 0), (.int .u32 0), (.int .u32 0), (.int .u32 0), (.int .u32 0), (.int .u32 0), (.int .u32 0), (.int .u32 0), (.int .u32 0), (.int .u32 0), (.int .u32 0), (.int .u32 0), (.int .u32 0), (.int .u32 0), (.int .u32 0), (.int .u32 0), (.int .u32 0), (.int .u32 0), (.int .u32 0), (.int .u32 0), (.int .u32 0), (.int .u32 0), (.int .u32 0), (.int .u32 0), (.int .u32 0), (.int .u32 0), (.int .u32 0), (.int .u32 0), (.int .u32 0), (.int .u32 0), (.int .u32 0), (.int .u32 0), (.int .u32 0), (.int .u32 0), (.int .u32 0), (.int .u32 0), (.int .u32 0), (.int .u32 0), (.int .u32 0), (.int .u32 0), (.int .u32 0), (.int .u32 0), (.int .u32 0), (.int .u32 0), (.int .u32 0), (.int .u32 0), (.int .u32 0), (.int .u32 0), (.int .u32 0), (.int .u32 0), (.int .u32 0), (.int .u32 0), (.int .u32 0), (.int .u32 0), (.int .u32 0), (.int .u32 0), (.int .u32 0), (.int .u32 0), (.int .u32 0), (.int .u32 0), (.int .u32 0), (.int .u32 0), (.int .u32 0), (.int .u32 0), (.int .u32 0), (.int .u32 0), (.int .u32 0), (.int .u32 0), (.int .u32 0), (.int .u32 0), (.int .u32 0), (.int .u32 0), (.int .u32 0), (.int .u32 0), (.int .u32 0), (.int .u32 0), (.int .u32 0), (.int .u32 0), (.int .u32 0), (.int .u32 0), (.int .u32 0), (.int .u32 0), (.int .u32 0), (.int .u32 0), (.int .u32 0), (.int .u32 0), (.int .u32 0), (.int .u32 0), (.int .u32 0), (.int .u32 0), (.int .u32 0), (.int .u32 0), (.int .u32 0), (.int .u32 0), (.int .u32 0), (.int .u32 0), (.int .u32 0), (.int .u32 0), (.int .u32 0), (.int .u32 0), (.int .u32 0), (.int .u32 0), (.int .u32 0), (.int .u32 0), (.int .u32 0), (.int .u32 0), (.int .u32 0), (.int .u32 0), (.int .u32 0), (.int .u32 0), (.int .u32 0), (.int .u32 0), (.int .u32 0), (.int .u32 0), (.int .u32 0), (.int .u32 0), (.int .u32 0), (.int .u32 0), (.int .u32 0), (.int .u32 0), (.int .u32 0), (.int .u32 0), (.int .u32 0), (.int .u32 0), (.int .u32 0), (.int .u32 0), (.int .u32 0), (.int .u32 0), (.int .u32 0), (.int .u32 0), (.int .u32 0), (.int .u32 0), (.int .u32 0), (.int .u32 0), (.int .u32 0), (.int .u32 0), (.int .u32 0), (.int .u32 0), (.int .u32 0), (.int .u32 0), (.int .u32 0), (.int .u32 0), (.int .u32 0), (.int .u32 0), (.int .u32 0), (.int .u32 0), (.int .u32 0), (.int .u32 0), (.int .u32 0), (.int .u32 0), (.int .u32 0), (.int .u32 0), (.int .u32 0), (.int .u32 0), (.int .u32 0), (.int .u32 0), (.int .u32 0), (.int .u32 0), (.int .u32 0), (.int .u32 0), (.int .u32 0), (.int .u32 0), (.int .u32 0), (.int .u32 0), (.int .u32 0), (.int .u32 0), (.int .u32 0), (.int .u32 0), (.int .u32 0), (.int .u32 0), (.int .u32 0), (.int .u32 0), (.int .u32 0), (.int .u32 0), (.int .u32 0), (.int .u32 0), (.int .u32 0), (.int .u32 0), (.int .u32 0), (.int .u32 0), (.int .u32 0), (.int .u32 0), (.int .u32 0), (.int .u32 0), (.int .u32 0), (.int .u32 0), (.int .u32 0), (.int .u32 0), (.int .u32 0), (.int .u32 0), (.int .u32 0), (.int .u32 0), (.int .u32 0), (.int .u32 0), (.int .u32 0), (.int .u32 0), (.int .u32 0), (.int .u32 0), (.int .u32 0), (.int .u32 0)] 325) fun k3 M4 =>
∃ I5 : IT, (∃ k6, I5 k6 [(iV 0)] M4) ∧
∀ (k7 : Nat) (_ : Nat → Value) (n9 : Int) (fJ : Mem), (I5 k7 [(iV n9)] fJ) → aQ (decide (n9 < 256))
 (∃ Vf : IT, (∃ eU, Vf eU [(.int .u32 (IntKind.wrap .u32 n9)), (iV 0)] fJ) ∧
 ∀ (cY : Nat) (_ : Nat → Value) (gT : Int) (jz : Int) (kY : Mem), (Vf cY [(.int .u32 gT), (iV jz)] kY) → aQ (decide (jz < 8))
 (aQ ((IntKind.wrap .u32 (((Nat.bitwise and (BitVec.ofInt IntKind.u32.bits gT).toNat (BitVec.ofInt IntKind.u32.bits 1).toNat) : Nat) : Int)) == 1)
 (∃ dx : Nat, (dx < cY) ∧
 Vf dx [(.int .u32 (IntKind.wrap .u32 (((Nat.bitwise bne (BitVec.ofInt IntKind.u32.bits (gT.fdiv (2 ^ min (Int.toNat 1) IntKind.u32.bits))).toNat
 (BitVec.ofInt IntKind.u32.bits 3988292384).toNat) : Nat) : Int))), (iV (IntKind.wrap .i64 (jz + 1)))] kY)
 (∃ gZ : Nat, (gZ < cY) ∧
 Vf gZ [(.int .u32 (Int.fdiv gT 2)), (iV (IntKind.wrap .i64 (jz + 1)))] kY))
 ((0 ≤ n9) ∧
 (n9 < 256) ∧
 sT kY k3 (0 + (Int.toNat n9)) (.int .u32 gT) fun kX =>
 ∃ eG : Nat, (eG < k7) ∧
 I5 eG [(iV (IntKind.wrap .i64 (n9 + 1)))] kX))
 (Sh (Mem.gd fJ ⟨k3, 0, none⟩ 0 256) fun l22 =>
 VQ fJ k1 0 l22 256 fun gQ =>
 Sh (Mem.gd gQ ⟨k1, 0, none⟩ 0 256) fun l24 =>
 K (.agg (l24.toArray)) gQ)) :
 aa Tryz.prog 168 #[] M K Kp := vw [(2000000, .loop [(4, .c (.int .i64))]), (2000002, .loop [(3, .c (.int .u32)), (9, .c (.int .i64))])] Tryz.func168 h
theorem xQ {nq : Int} {r1 : ByteArray} (h :
aW M (cl [(.int .u32 nq)] 287) fun k1 M2 =>
aW M2 (cl [(.int .u32 0)] 287) fun k3 M4 =>
aa Tryz.prog 168 #[] M4 (fun v5 M6 =>
∃ l7 : List Value, ((l7.length) = 256) ∧
(v5 = (.agg (l7.toArray))) ∧
aW M6 (cl [(.int .u32 0), (.int .u32 0), (.int .u32 0), (.int .u32 0), (.int .u32 0), (.int .u32 0), (.int .u32 0), (.int .u32 0), (.int .u32 0), (.int .u32 0), (.int .u32 0), (.int .u32 0), (.int .u32 0), (.int .u32 0), (.int .u32 0), (.int .u32 0), (.int .u32 0), (.int .u32 0), (.int .u32 0), (.int .u32 0), (.int .u32 0), (.int .u32 0), (.int .u32 0), (.int .u32 0), (.int .u32 0), (.int .u32 0), (.int .u32 0), (.int .u32 0), (.int .u32 0), (.int .u32 0), (.int .u32 0), (.int .u32 0), (.int .u32 0), (.int .u32 0), (.int .u32 0), (.int .u32 0), (.int .u32 0), (.int .u32 0), (.int .u32 0), (.int .u32 0), (.int .u32 0), (.int .u32 0), (.int .u32 0), (.int .u32 0), (.int .u32 0), (.int .u32 0), (.int .u32 0), (.int .u32 0), (.int .u32 0), (.int .u32 0), (.int .u32 0), (.int .u32 0), (.int .u32 0), (.int .u32 0), (.int .u32 0), (.int .u32 0), (.int .u32 0), (.int .u32 0), (.int .u32 0), (.int .u32 0), (.int .u32 0), (.int .u32 0), (.int .u32 0), (.int .u32 0), (.int .u32 0), (.int .u32 0), (.int .u32 0), (.int .u32 0), (.int .u32 0), (.int .u32 0), (.int .u32 0), (.int .u32 0), (.int .u32 0), (.int .u32 0), (.int .u32 0), (.int .u32 0), (.int .u32 0), (.int .u32 0), (.int .u32 0), (.int .u32 0), (.int .u32 0), (.int .u32 0), (.int .u32 0), (.int .u32 0), (.int .u32 0), (.int .u32 0), (.int .u32 0), (.int .u32 0), (.int .u32 0), (.int .u32 0), (.int .u32 0), (.int .u32 0), (.int .u32 0), (.int .u32 0), (.int .u32 0), (.int .u32 0), (.int .u32 0), (.int .u32 0), (.int .u32 0), (.int .u32 0), (.int .u32 0), (.int .u32 0), (.int .u32 0), (.int .u32 0), (.int .u32 0), (.int .u32 0), (.int .u32 0), (.int .u32 0), (.int .u32 0), (.int .u32 0), (.int .u32 0), (.int .u32 0), (.int .u32 0), (.int .u32 0), (.int .u32 0), (.int .u32 0), (.int .u32 0), (.int .u32 0), (.int .u32 0), (.int .u32 0), (.int .u32 0), (.int .u32 0), (.int .u32 0), (.int .u32 0), (.int .u32 0), (.int .u32 0), (.int .u32 0), (.int .u32 0), (.int .u32 0), (.int .u32 0), (.int .u32 0), (.int .u32 0), (.int .u32 0), (.int .u32 0), (.int .u32 0), (.int .u32 0), (.int .u32 0), (.int .u32 0), (.int .u32 0), (.int .u32 0), (.int .u32 0), (.int .u32 0), (.int .u32 0), (.int .u32 0), (.int .u32 0), (.int .u32 0), (.int .u32 0), (.int .u32 0), (.int .u32 0), (.int .u32 0), (.int .u32 0), (.int .u32 0), (.int .u32 0), (.int .u32 0), (.int .u32 0), (.int .u32 0), (.int .u32 0), (.int .u32 0), (.int .u32 0), (.int .u32 0), (.int .u32 0), (.int .u32 0), (.int .u32 0), (.int .u32 0), (.int .u32 0), (.int .u32 0), (.int .u32 0), (.int .u32 0), (.int .u32 0), (.int .u32 0), (.int .u32 0), (.int .u32 0), (.int .u32 0), (.int .u32 0), (.int .u32 0), (.int .u32 0), (.int .u32 0), (.int .u32 0), (.int .u32 0), (.int .u32 0), (.int .u32 0), (.int .u32 0), (.int .u32 0), (.int .u32 0), (.int .u32 0), (.int .u32 0), (.int .u32 0), (.int .u32 0), (.int .u32 0), (.int .u32 0), (.int .u32 0), (.int .u32 0), (.int .u32 0), (.int .u32 0), (.int .u32 0), (.int .u32 0), (.int .u32 0), (.int .u32 0), (.int .u32 0), (.int .u32 0), (.int .u32 0), (.int .u32 0), (.int .u32 0), (.int .u32 0), (.int .u32 0), (.int .u32 0), (.int .u32 0), (.int .u32 0), (.int .u32 0), (.int .u32 0), (.int .u32 0), (.int .u32 0), (.int .u32 0), (.int .u32 0), (.int .u32 0), (.int .u32 0), (.int .u32 0), (.int .u32 0), (.int .u32 0), (.int .u32 0), (.int .u32 0), (.int .u32 0), (.int .u32 0), (.int .u32 0), (.int .u32 0), (.int .u32 0), (.int .u32 0), (.int .u32 0), (.int .u32 0), (.int .u32 0), (.int .u32 0), (.int .u32 0), (.int .u32 0), (.int .u32 0), (.int .u32 0), (.int .u32 0), (.int .u32 0), (.int .u32 0), (.int .u32 0), (.int .u32 0), (.int .u32 0), (.int .u32 0), (.int .u32 0), (.int .u32 0), (.int .u32 0), (.int .u32 0), (.int .u32 0), (.int .u32 0), (.int .u32 0), (.int .u32 0), (.int .u32 0), (.int .u32 0), (.int .u32 0), (.int .u32 0), (.int .u32 0), (.int .u32 0)] 325) fun k8 M9 =>
VQ M9 k8 0 l7 256 fun fJ =>
aK (Mem.ld fJ ⟨k1, 0, none⟩) .u32 fun eO =>
aX Tryz.prog (Go.convert 9 212 (.string r1)) fJ (fun zL jl =>
az (some zL) fun jo gj dK =>
∃ WC : IT, (∃ dx, WC dx [(.int .u32 (IntKind.wrap .u32 (((Nat.bitwise bne (BitVec.ofInt IntKind.u32.bits (if IntKind.u32.signed = true then -1 else IntKind.u32.max)).toNat
 (BitVec.ofInt IntKind.u32.bits eO).toNat) : Nat) : Int))), (iV 0)] jl) ∧
∀ (gZ : Nat) (_ : Nat → Value) (jr : Int) (mP : Int) (gQ : Mem), (WC gZ [(.int .u32 jr), (iV mP)] gQ) → aQ (decide (mP < gj))
 ((0 ≤ mP) ∧
 (mP < gj) ∧
 aE jo fun kC nj =>
 aK (Mem.ld gQ ⟨kC, (nj + (Int.toNat mP)), none⟩) .u8 fun lX =>
 ((0 : Int) ≤ (IntKind.wrap .u8 (((Nat.bitwise bne (BitVec.ofInt IntKind.u8.bits (IntKind.u8.wrap jr)).toNat (BitVec.ofInt IntKind.u8.bits lX).toNat) : Nat) : Int))) ∧
 (((IntKind.wrap .u8 (((Nat.bitwise bne (BitVec.ofInt IntKind.u8.bits (IntKind.u8.wrap jr)).toNat (BitVec.ofInt IntKind.u8.bits lX).toNat) : Nat) : Int)) : Int) < 256) ∧
 aK (Mem.ld gQ ⟨k8, (0 + (Int.toNat (IntKind.wrap .u8 (((Nat.bitwise bne (BitVec.ofInt IntKind.u8.bits (IntKind.u8.wrap jr)).toNat (BitVec.ofInt IntKind.u8.bits lX).toNat) : Nat) : Int)))), none⟩) .u32 fun xC =>
 ∃ ko : Nat, (ko < gZ) ∧
 WC ko [(.int .u32 (IntKind.wrap .u32 (((Nat.bitwise bne (BitVec.ofInt IntKind.u32.bits (jr.fdiv (2 ^ min (Int.toNat 8) IntKind.u32.bits))).toNat
 (BitVec.ofInt IntKind.u32.bits xC).toNat) : Nat) : Int))), (iV (IntKind.wrap .i64 (mP + 1)))] gQ)
 (sT gQ k3 0 (.int .u32 (IntKind.wrap .u32 (((Nat.bitwise bne (BitVec.ofInt IntKind.u32.bits (if IntKind.u32.signed = true then -1 else IntKind.u32.max)).toNat
 (BitVec.ofInt IntKind.u32.bits jr).toNat) : Nat) : Int))) fun kf =>
 aK (Mem.ld kf ⟨k3, 0, none⟩) .u32 fun vT =>
 K (.agg #[(.int .u32 vT)]) kf)) Kp) Kp) :
 aa Tryz.prog 142 #[.agg #[.int .u32 nq], .string r1] M K Kp := vw [(2000000, .loop [(6, .c (.int .u32)), (16, .c (.int .i64))])] Tryz.func142 h
theorem xR {nq : Int} (h :
aW M (cl [(.int .u32 nq)] 287) fun k1 M2 =>
aK (Mem.ld M2 ⟨k1, 0, none⟩) .u32 fun n3 =>
K (.int .u32 n3) M2) :
 aa Tryz.prog 143 #[.agg #[.int .u32 nq]] M K Kp := vw [] Tryz.func143 h
end Go.Proofs
namespace Go.Proofs
open Go.AF
set_option maxRecDepth 100000
variable {M : Mem} {K : Value → Mem → Prop} {Kp : List PanicEntry → Mem → Prop}
theorem AX {lI : Option Addr} {lJ lK : Nat} {jO : Option Addr} {jP jQ : Nat} {gk : Int} {lM : Option Addr} {lN lO : Nat} {cQ : Int} {cR : Int} {cT : Int} {eJ : Int} {b2 o2 : Nat} (h :
aW M (cl [(.slice lI lJ lK), (.slice jO jP jQ), (iV gk), (.slice lM lN lO)] 39) fun k1 M2 =>
aW M2 (cl [(iV cQ), (iV cR), (iV cT), (iV eJ)] 29) fun k3 M4 =>
tP M4 k1 0 fun A5 k6 k7 A8 k9 c6 eO ur cY eX =>
bN M4 k3 0 fun gT jz fK g9 =>
tP M4 k1 0 fun Cd iM eG Mz iI kC oA HY oT ko =>
aa Tryz.prog 15 #[(.agg #[(.slice A5 k6 k7), (.slice A8 k9 c6), (iV eO), (.slice ur cY eX)]), (.agg #[(iV gT), (iV jz), (iV fK), (iV g9)]), (.pointer (some ⟨b2, o2, none⟩))] M4 (fun IG kW =>
cv (some IG) fun Db =>
((Mem.gd kW ⟨k1, 0, none⟩ 0 4) = some [(.slice Cd iM eG), (.slice Mz iI kC), (iV oA), (.slice HY oT ko)]) ∧
aW kW (cl [(.slice Cd iM eG), (.slice Mz iI kC), (iV oA), (.slice HY oT ko), (.pointer Db), (.pointer (some ⟨b2, o2, none⟩)), (.slice none 0 0), (iV 0)] 208) fun nO xw =>
K (.pointer (some ⟨nO, 0, none⟩)) xw) Kp) :
 aa Tryz.prog 43 #[.agg #[.slice lI lJ lK, .slice jO jP jQ, .int .i64 gk, .slice lM lN lO], .agg #[.int .i64 cQ, .int .i64 cR, .int .i64 cT, .int .i64 eJ], .pointer (some ⟨b2, o2, none⟩)] M K Kp := vw [(1, .bQ [0, 0, 0, 0, 14, 0, 63, 127, 255] (sy [3, 5, 1, 2] (.cE 0 (sy [4, 6, 7, 8] .done))))] Tryz.func43 h
theorem tG {b0 o0 : Nat} {x1 : Int} {p2 : Option Addr} (h :
aW M dQ fun k1 M2 =>
∃ I3 : IT, (∃ k4, I3 k4 [(iV 0)] M2) ∧
∀ (k5 : Nat) (_ : Nat → Value) (n7 : Int) (M8 : Mem), (I3 k5 [(iV n7)] M8) → aQ (decide (n7 < x1))
 (rP M8 b0 (o0 + 4) fun A9 =>
 aa Tryz.prog 22 #[(.pointer A9)] M8 (fun v10 ir =>
 aK (some v10) .i64 fun gy =>
 aQ (gy == 0)
 (aa Tryz.prog 61 #[(.func (.func 95) #[(.pointer (some ⟨b0, o0, none⟩))] #[])] ir (fun C7 jM =>
 ∃ gT jz fK g9 lF dZ : Int, (C7 = (.tuple #[(iV gT), (.agg #[(iV jz), (iV fK), (iV g9), (iV lF), (.int .u64 dZ)])])) ∧
 aW jM uh fun eG cU =>
 sT5 cU eG (iV jz) (iV fK) (iV g9) (iV lF) (.int .u64 dZ) fun pN =>
 aa Tryz.prog 96 #[(.pointer (some ⟨b0, o0, none⟩)), (.pointer p2)] pN (fun Pj kf =>
 aK (some Pj) .i64 fun vT =>
 aQ (vT != 0)
 (aa Tryz.prog 97 #[(.pointer (some ⟨b0, o0, none⟩)), (iV 6), (iV vT), (.agg #[(iV 0), (iV 0), (iV 0), (iV 0), (.int .u64 0)])] kf (fun SL nk =>
 ∃ rL KS Ek : Int, ∃ Fj : Option Addr, ∃ pg gm : Nat, ∃ HT : Option Addr, ∃ xq AD : Nat, ∃ Dh BW Di vU BZ wT : Int, (SL = (.agg #[(iV rL), (iV KS), (iV Ek), (.slice Fj pg gm), (.slice HT xq AD), (iV Dh), (iV BW), (iV Di), (iV vU), (iV BZ), (.int .u64 wT)])) ∧
 xl nk k1 (iV rL) (iV KS) (iV Ek) (.slice Fj pg gm) (.slice HT xq AD) (iV Dh) (iV BW) (iV Di) (iV vU) (iV BZ) (.int .u64 wT) fun Pz =>
 dJ Pz k1 0 fun F1 HS De A62 HW k64 Vi Ja xD IW SX To Zl Wn Wi =>
 K (.agg #[(iV F1), (iV HS), (iV De), (.slice A62 HW k64), (.slice Vi Ja xD), (iV IW), (iV SX), (iV To), (iV Zl), (iV Wn), (.int .u64 Wi)]) Pz) Kp)
 (aQ (gT == 1)
 (aa Tryz.prog 98 #[(.pointer (some ⟨b0, o0, none⟩)), (iV 4), (.pointer p2)] kf (fun v74 xH =>
 ∃ F6 zh AP : Int, ∃ MC : Option Addr, ∃ Gk Jb : Nat, ∃ A82 : Option Addr, ∃ zQ Sa : Nat, ∃ HZ ME MO Tp MT H6 : Int, (v74 = (.agg #[(iV F6), (iV zh), (iV AP), (.slice MC Gk Jb), (.slice A82 zQ Sa), (iV HZ), (iV ME), (iV MO), (iV Tp), (iV MT), (.int .u64 H6)])) ∧
 xl xH k1 (iV F6) (iV zh) (iV AP) (.slice MC Gk Jb) (.slice A82 zQ Sa) (iV HZ) (iV ME) (iV MO) (iV Tp) (iV MT) (.int .u64 H6) fun iP =>
 dJ iP k1 0 fun IJ TE TF AR sW Gr A108 Co Cp Gm xu IL Eh Qz Yk =>
 K (.agg #[(iV IJ), (iV TE), (iV TF), (.slice AR sW Gr), (.slice A108 Co Cp), (iV Gm), (iV xu), (iV IL), (iV Eh), (iV Qz), (.int .u64 Yk)]) iP) Kp)
 (aQ (gT == 2)
 (rI kf eG 0 fun n117 =>
 rI kf eG 1 fun n118 =>
 rI kf eG 2 fun Ji =>
 rI kf eG 3 fun qD =>
 rU kf eG 4 fun uL =>
 aa Tryz.prog 97 #[(.pointer (some ⟨b0, o0, none⟩)), (iV 8), (iV 0), (.agg #[(iV n117), (iV n118), (iV Ji), (iV qD), (.int .u64 uL)])] kf (fun v122 Qi =>
 ∃ zw Ct MQ : Int, ∃ Tq : Option Addr, ∃ MU Gy : Nat, ∃ TG : Option Addr, ∃ Jk xI : Nat, ∃ MY MZ Na Ty MS S6 : Int, (v122 = (.agg #[(iV zw), (iV Ct), (iV MQ), (.slice Tq MU Gy), (.slice TG Jk xI), (iV MY), (iV MZ), (iV Na), (iV Ty), (iV MS), (.int .u64 S6)])) ∧
 xl Qi k1 (iV zw) (iV Ct) (iV MQ) (.slice Tq MU Gy) (.slice TG Jk xI) (iV MY) (iV MZ) (iV Na) (iV Ty) (iV MS) (.int .u64 S6) fun AO =>
 dJ AO k1 0 fun Je PF PG WN Jf WO A156 PX Tr n159 xO X6 X7 X8 n164 =>
 K (.agg #[(iV Je), (iV PF), (iV PG), (.slice WN Jf WO), (.slice A156 PX Tr), (iV n159), (iV xO), (iV X6), (iV X7), (iV X8), (.int .u64 n164)]) AO) Kp)
 (∃ xP : Nat, (xP < k5) ∧
 I3 xP [(iV (IntKind.wrap .i64 (n7 + 1)))] kf)))) Kp) Kp)
 (aa Tryz.prog 99 #[(.pointer (some ⟨b0, o0, none⟩))] ir (fun v166 Gs =>
 aK (some v166) .i64 fun X9 =>
 aa Tryz.prog 98 #[(.pointer (some ⟨b0, o0, none⟩)), (iV X9), (.pointer p2)] Gs (fun v169 M170 =>
 ∃ Gt Tz Nb : Int, ∃ A174 : Option Addr, ∃ Tt k176 : Nat, ∃ A177 : Option Addr, ∃ Tu Qr : Nat, ∃ ML n181 S9 TA Ez MM : Int, (v169 = (.agg #[(iV Gt), (iV Tz), (iV Nb), (.slice A174 Tt k176), (.slice A177 Tu Qr), (iV ML), (iV n181), (iV S9), (iV TA), (iV Ez), (.int .u64 MM)])) ∧
 xl M170 k1 (iV Gt) (iV Tz) (iV Nb) (.slice A174 Tt k176) (.slice A177 Tu Qr) (iV ML) (iV n181) (iV S9) (iV TA) (iV Ez) (.int .u64 MM) fun M196 =>
 dJ M196 k1 0 fun Ya MN Yb A200 k201 X0 A203 k204 k205 n206 Yc Qt Qu Qv Qw =>
 K (.agg #[(iV Ya), (iV MN), (iV Yb), (.slice A200 k201 X0), (.slice A203 k204 k205), (iV n206), (iV Yc), (iV Qt), (iV Qu), (iV Qv), (.int .u64 Qw)]) M196) Kp) Kp)) Kp)
 (aa Tryz.prog 99 #[(.pointer (some ⟨b0, o0, none⟩))] M8 (fun X1 P9 =>
 aK (some X1) .i64 fun MX =>
 aa Tryz.prog 98 #[(.pointer (some ⟨b0, o0, none⟩)), (iV MX), (.pointer p2)] P9 (fun v215 Xc =>
 ∃ Qx Td Te : Int, ∃ A220 : Option Addr, ∃ k221 Tf : Nat, ∃ A223 : Option Addr, ∃ Tx Qy : Nat, ∃ TB TC TD n229 n230 n231 : Int, (v215 = (.agg #[(iV Qx), (iV Td), (iV Te), (.slice A220 k221 Tf), (.slice A223 Tx Qy), (iV TB), (iV TC), (iV TD), (iV n229), (iV n230), (.int .u64 n231)])) ∧
 xl Xc k1 (iV Qx) (iV Td) (iV Te) (.slice A220 k221 Tf) (.slice A223 Tx Qy) (iV TB) (iV TC) (iV TD) (iV n229) (iV n230) (.int .u64 n231) fun Gu =>
 dJ Gu k1 0 fun Qb Qc Qd Xm Xn Qe A249 tF X3 Qf X4 n254 n255 Ye n257 =>
 K (.agg #[(iV Qb), (iV Qc), (iV Qd), (.slice Xm Xn Qe), (.slice A249 tF X3), (iV Qf), (iV X4), (iV n254), (iV n255), (iV Ye), (.int .u64 n257)]) Gu) Kp) Kp)) :
 aa Tryz.prog 44 #[.pointer (some ⟨b0, o0, none⟩), .int .i64 x1, .pointer p2] M K Kp := vw [(2000000, .loop [(7, .c (.int .i64))])] Tryz.func44 h
theorem pG {b0 o0 : Nat} (h :
rP M b0 (o0 + 4) fun A1 =>
K (.pointer A1) M) :
 aa Tryz.prog 45 #[.pointer (some ⟨b0, o0, none⟩)] M K Kp := vw [] Tryz.func45 h
theorem zx {lI : Option Addr} {lJ lK : Nat} {jO : Option Addr} {jP jQ : Nat} {gk : Int} {lM : Option Addr} {lN lO : Nat} {cQ : Int} {cR : Int} {cT : Int} {eJ : Int} {B2 : Option Addr} {m2 c2 : Nat} {x3 : Int} {p4 : Option Addr} (h :
aW M (cl [(.slice lI lJ lK), (.slice jO jP jQ), (iV gk), (.slice lM lN lO)] 39) fun k1 M2 =>
aW M2 (cl [(iV cQ), (iV cR), (iV cT), (iV eJ)] 29) fun k3 M4 =>
aW M4 dQ fun k5 M6 =>
tP M6 k1 0 fun A7 k8 k9 vg dL eU hG jo gj dK =>
bN M6 k3 0 fun fK g9 lF dZ =>
aa Tryz.prog 16 #[(.slice B2 m2 c2)] M6 (fun Py cU =>
cv (some Py) fun HR =>
((Mem.gd cU ⟨k3, 0, none⟩ 0 4) = some [(iV fK), (iV g9), (iV lF), (iV dZ)]) ∧
((Mem.gd cU ⟨k1, 0, none⟩ 0 4) = some [(.slice A7 k8 k9), (.slice vg dL eU), (iV hG), (.slice jo gj dK)]) ∧
aa Tryz.prog 43 #[(.agg #[(.slice A7 k8 k9), (.slice vg dL eU), (iV hG), (.slice jo gj dK)]), (.agg #[(iV fK), (iV g9), (iV lF), (iV dZ)]), (.pointer HR)] cU (fun MA wU =>
cv (some MA) fun HY =>
((Mem.gd wU ⟨k3, 0, none⟩ 0 4) = some [(iV fK), (iV g9), (iV lF), (iV dZ)]) ∧
((Mem.gd wU ⟨k1, 0, none⟩ 0 4) = some [(.slice A7 k8 k9), (.slice vg dL eU), (iV hG), (.slice jo gj dK)]) ∧
aa Tryz.prog 44 #[(.pointer HY), (iV x3), (.pointer p4)] wU (fun F7 oU =>
∃ qi vT tQ : Int, ∃ Zu : Option Addr, ∃ nQ sq : Nat, ∃ Zk : Option Addr, ∃ Ga pg : Nat, ∃ Cc Ef IX PI Dh BW : Int, (F7 = (.agg #[(iV qi), (iV vT), (iV tQ), (.slice Zu nQ sq), (.slice Zk Ga pg), (iV Cc), (iV Ef), (iV IX), (iV PI), (iV Dh), (.int .u64 BW)])) ∧
((Mem.gd oU ⟨k3, 0, none⟩ 0 4) = some [(iV fK), (iV g9), (iV lF), (iV dZ)]) ∧
((Mem.gd oU ⟨k1, 0, none⟩ 0 4) = some [(.slice A7 k8 k9), (.slice vg dL eU), (iV hG), (.slice jo gj dK)]) ∧
xl oU k5 (iV qi) (iV vT) (iV tQ) (.slice Zu nQ sq) (.slice Zk Ga pg) (iV Cc) (iV Ef) (iV IX) (iV PI) (iV Dh) (.int .u64 BW) fun Ff =>
((Mem.gd Ff ⟨k3, 0, none⟩ 0 4) = some [(iV fK), (iV g9), (iV lF), (iV dZ)]) ∧
((Mem.gd Ff ⟨k1, 0, none⟩ 0 4) = some [(.slice A7 k8 k9), (.slice vg dL eU), (iV hG), (.slice jo gj dK)]) ∧
dJ Ff k5 0 fun n55 Gp KW XJ F3 KR SR PB HW n64 vL N8 RW IW SX =>
K (.agg #[(iV n55), (iV Gp), (iV KW), (.slice XJ F3 KR), (.slice SR PB HW), (iV n64), (iV vL), (iV N8), (iV RW), (iV IW), (.int .u64 SX)]) Ff) Kp) Kp) Kp) :
 aa Tryz.prog 94 #[.agg #[.slice lI lJ lK, .slice jO jP jQ, .int .i64 gk, .slice lM lN lO], .agg #[.int .i64 cQ, .int .i64 cR, .int .i64 cT, .int .i64 eJ], .slice B2 m2 c2, .int .i64 x3, .pointer p4] M K Kp := vw [(1, .bQ [0, 0, 0, 4, 15, 0, 0, 127, 255] (sy [2, 5, 6] (.cE 0 (.cE 1 (sy [3, 4, 7, 8] .done)))))] Tryz.func94 h
theorem qH {b0 o0 : Nat} (h :
rP M b0 (o0 + 4) fun A1 =>
aa Tryz.prog 54 #[(.pointer A1)] M (fun v2 M3 =>
∃ n4 n5 n6 : Int, ∃ A7 : Option Addr, ∃ k8 k9 : Nat, (v2 = (.agg #[(iV n4), (iV n5), (iV n6), (.slice A7 k8 k9)])) ∧
∃ J10 : List Value → Mem → Prop, (rP M3 b0 (o0 + 4) fun wV =>
 rS M3 b0 (o0 + 1) fun ur cY eX =>
 rI M3 b0 (o0 + 2) fun gT =>
 (rS M3 b0 (o0 + 6) fun KU dS dx =>
 aa Tryz.prog 40 #[(.pointer wV), (iV (cY : Int)), (iV gT)] M3 (fun Gg kX =>
 az (some Gg) fun xB g6 iI =>
 aa Tryz.prog 46 #[(.slice xB g6 iI)] kX (fun MA wU =>
 aK (some MA) .u32 fun lX =>
 aW wU (cl [(.int .u32 lX)] 117) fun oT oU =>
 aA 111 KU dS dx (some ⟨oT, 0, none⟩) 1 1 oU (fun IG kW =>
 az (some IG) fun Db nO nQ =>
 sT kW b0 (o0 + 6) (.slice Db nO nQ) fun pb =>
 J10 [] pb) Kp) Kp) Kp) ∧
 (aa Tryz.prog 40 #[(.pointer wV), (iV (cY : Int)), (iV gT)] M3 (fun v35 Ee =>
 az (some v35) fun Fk gm rK =>
 (rS Ee b0 (o0 + 6) fun Zh AD HQ =>
 aa Tryz.prog 46 #[(.slice Fk gm rK)] Ee (fun v43 zk =>
 aK (some v43) .u32 fun vU =>
 aW zk (cl [(.int .u32 vU)] 117) fun Fe sF =>
 aA 111 Zh AD HQ (some ⟨Fe, 0, none⟩) 1 1 sF (fun v48 zg =>
 az (some v48) fun A50 IZ um =>
 sT zg b0 (o0 + 6) (.slice A50 IZ um) fun I0 =>
 J10 [] I0) Kp) Kp) ∧
 (aa Tryz.prog 46 #[(.slice Fk gm rK)] Ee (fun Jg l8 =>
 aK (some Jg) .u32 fun Gp =>
 rS l8 b0 (o0 + 6) fun Va BY F3 =>
 aW l8 (cl [(.int .u32 Gp)] 117) fun KR Dd =>
 aA 111 Va BY F3 (some ⟨KR, 0, none⟩) 1 1 Dd (fun Pr zf =>
 az (some Pr) fun A64 k65 Ja =>
 sT zf b0 (o0 + 6) (.slice A64 k65 Ja) fun M67 =>
 J10 [] M67) Kp) Kp) ∧
 True) Kp) ∧
 True) ∧
∀ junk68 : Nat → Value, ∀ RZ : Mem, (J10 [] RZ) → K (.tuple #[]) RZ) Kp) :
 aa Tryz.prog 95 #[.pointer (some ⟨b0, o0, none⟩)] M K Kp := vw [(1, .It [0, 0, 2, 6, 14, 0, 32, 96, 224, 0, 512, 1536, 3584, 7680, 15872, 0, 32768, 98304, 229376, 491520, 1048544, 2097120, 4194272, 8388606, 16777215, 33554431, 67108863] (sy [0, 1, 2, 3, 5, 6, 7, 9, 10, 11, 12, 15, 16, 17, 18, 8, 13, 14, 19] (.fork 4 (sy [20, 21, 22, 23, 24, 25, 26] .done) (.fork 20 (.fork 4 (sy [21, 22, 23, 24, 25, 26] .done) (.fork 21 (sy [4, 22, 23, 24, 25, 26] .done) .dead)) .dead))) [])] Tryz.func95 h
theorem qI {b0 o0 : Nat} {p1 : Option Addr} (h :
aQ (Option.isNone p1)
 (K (iV 0) M)
 (rP M b0 (o0 + 5) fun A1 =>
 aa Tryz.prog 76 #[(.pointer A1)] M (fun v2 M3 =>
 az (some v2) fun A4 k5 k6 =>
 rI M3 b0 (o0 + 7) fun n7 =>
 ((0 : Int) ≤ k6) ∧
 ((k6 : Int) ≤ k6) ∧
 ((0 : Int) ≤ k5) ∧
 ((k5 : Int) ≤ k6) ∧
 ((0 : Int) ≤ (if (k5 : Int) < n7 then (k5 : Int) else n7)) ∧
 (((if (k5 : Int) < n7 then (k5 : Int) else n7) : Int) ≤ (k5 : Int)) ∧
 ∃ I8 : IT, (∃ k9, I8 k9 [(iV 0)] M3) ∧
 ∀ (c6 : Nat) (_ : Nat → Value) (gy : Int) (jl : Mem), (I8 c6 [(iV gy)] jl) → aQ (decide ((gy : Int) < ((((Int.toNat (k5 : Int)) - (Int.toNat (if (k5 : Int) < n7 then (k5 : Int) else n7))) : Nat) : Int)))
 ((0 ≤ gy) ∧
 ((gy : Int) < ((((Int.toNat (k5 : Int)) - (Int.toNat (if (k5 : Int) < n7 then (k5 : Int) else n7))) : Nat) : Int)) ∧
 aE (kx A4 (Int.toNat (if (k5 : Int) < n7 then (k5 : Int) else n7)) (Int.toNat (k6 : Int)) 2) fun eX gj =>
 rIU jl eX (gj + ((Int.toNat gy) * 2)) fun jz fK =>
 aW jl KG fun dx iN =>
 sT2 iN dx (iV jz) (.int .u64 fK) fun jG =>
 rIU jG dx 0 fun mP o6 =>
 aa Tryz.prog 140 #[(.pointer p1), (.agg #[(iV mP), (.int .u64 o6)])] jG (fun MA wU =>
 aK (some MA) .i64 fun lX =>
 aQ (lX != 0)
 (K (iV lX) wU)
 (rI wU b0 (o0 + 7) fun xC =>
 sT wU b0 (o0 + 7) (iV (IntKind.wrap .i64 (xC + 1))) fun oU =>
 ∃ nT : Nat, (nT < c6) ∧
 I8 nT [(iV (IntKind.wrap .i64 (gy + 1)))] oU)) Kp)
 (K (iV 0) jl)) Kp)) :
 aa Tryz.prog 96 #[.pointer (some ⟨b0, o0, none⟩), .pointer p1] M K Kp := vw [(2000000, .loop [(26, .c (.int .i64))])] Tryz.func96 h
theorem oG {b0 o0 : Nat} {x1 : Int} {x2 : Int} {e7 : Int} {e8 : Int} {fa : Int} {fh : Int} {x3_4 : Int} (h :
aW M (cl [(iV e7), (iV e8), (iV fa), (iV fh), (.int .u64 x3_4)] 97) fun k1 M2 =>
aW M2 dQ fun k3 M4 =>
rP M4 b0 (o0 + 4) fun A5 =>
aa Tryz.prog 18 #[(.pointer A5)] M4 (fun v6 M7 =>
cv (some v6) fun A8 =>
aa Tryz.prog 28 #[(.pointer A8)] M7 (fun v9 fJ =>
∃ eO gy : Int, (v9 = (.tuple #[(iV eO), (iV gy)])) ∧
rP fJ b0 (o0 + 4) fun Dc =>
rP fJ b0 (o0 + 4) fun jo =>
rS fJ b0 (o0 + 6) fun nS dK dS =>
IA fJ k1 0 fun g9 lF dZ jr mP =>
(True) ∧
aa Tryz.prog 35 #[(.pointer Dc)] fJ (fun Wj j6 =>
aK (some Wj) .i64 fun oA =>
((Mem.gd j6 ⟨k1, 0, none⟩ 0 5) = some [(iV g9), (iV lF), (iV dZ), (iV jr), (.int .u64 mP)]) ∧
((Mem.ld j6 ⟨b0, (o0 + 6), none⟩) = (some (.slice nS dK dS))) ∧
((Mem.ld j6 ⟨b0, (o0 + 4), none⟩) = (some (.pointer jo))) ∧
(True) ∧
aa Tryz.prog 18 #[(.pointer jo)] j6 (fun SN pN =>
cv (some SN) fun SO =>
((Mem.gd pN ⟨k1, 0, none⟩ 0 5) = some [(iV g9), (iV lF), (iV dZ), (iV jr), (.int .u64 mP)]) ∧
((Mem.ld pN ⟨b0, (o0 + 6), none⟩) = (some (.slice nS dK dS))) ∧
((Mem.ld pN ⟨b0, (o0 + 4), none⟩) = (some (.pointer jo))) ∧
(True) ∧
aa Tryz.prog 23 #[(.pointer SO)] pN (fun IG kW =>
az (some IG) fun Db nO nQ =>
((Mem.gd kW ⟨k1, 0, none⟩ 0 5) = some [(iV g9), (iV lF), (iV dZ), (iV jr), (.int .u64 mP)]) ∧
((Mem.ld kW ⟨b0, (o0 + 6), none⟩) = (some (.slice nS dK dS))) ∧
((Mem.ld kW ⟨b0, (o0 + 4), none⟩) = (some (.pointer jo))) ∧
aW kW (cl [] 117) fun sq rQ =>
aA 111 (some ⟨sq, 0, none⟩) 0 0 nS dK dS rQ (fun v36 yG =>
az (some v36) fun A38 rK xq =>
((Mem.gd yG ⟨k1, 0, none⟩ 0 5) = some [(iV g9), (iV lF), (iV dZ), (iV jr), (.int .u64 mP)]) ∧
((Mem.ld yG ⟨b0, (o0 + 6), none⟩) = (some (.slice nS dK dS))) ∧
((Mem.ld yG ⟨b0, (o0 + 4), none⟩) = (some (.pointer jo))) ∧
xl yG k3 (iV x1) (iV oA) (iV gy) (.slice Db nO nQ) (.slice A38 rK xq) (iV x2) (iV g9) (iV lF) (iV dZ) (iV jr) (.int .u64 mP) fun Pf =>
((Mem.gd Pf ⟨k1, 0, none⟩ 0 5) = some [(iV g9), (iV lF), (iV dZ), (iV jr), (.int .u64 mP)]) ∧
((Mem.ld Pf ⟨b0, (o0 + 6), none⟩) = (some (.slice nS dK dS))) ∧
((Mem.ld Pf ⟨b0, (o0 + 4), none⟩) = (some (.pointer jo))) ∧
dJ Pf k3 0 fun RV IY Ws Zr Oe AI XJ F3 KR De Pw F5 n64 vL N8 =>
K (.agg #[(iV RV), (iV IY), (iV Ws), (.slice Zr Oe AI), (.slice XJ F3 KR), (iV De), (iV Pw), (iV F5), (iV n64), (iV vL), (.int .u64 N8)]) Pf) Kp) Kp) Kp) Kp) Kp) Kp) :
 aa Tryz.prog 97 #[.pointer (some ⟨b0, o0, none⟩), .int .i64 x1, .int .i64 x2, .agg #[.int .i64 e7, .int .i64 e8, .int .i64 fa, .int .i64 fh, .int .u64 x3_4]] M K Kp := vw [(2, .bQ [0, 0, 2, 6, 14, 30, 0, 0, 128, 384, 896, 1982, 4030, 0, 0, 16384, 49152, 114688, 262078, 0, 0, 2097151, 4194303] (sy [0, 1, 2, 3, 6, 7, 8, 9, 14, 15, 16, 19, 4] (.cE 10 (.cE 17 (.cE 20 (.late 5 (.late 11 (.late 12 (sy [13, 18, 21, 22] .done)))))))))] Tryz.func97 h
theorem pH {b0 o0 : Nat} {x1 : Int} {p2 : Option Addr} (h :
aW M dQ fun k1 M2 =>
aQ (Option.isSome p2)
 (aa Tryz.prog 141 #[(.pointer p2)] M2 (fun v3 M4 =>
 aK (some v3) .i64 fun n5 =>
 aQ (n5 != 0)
 (aa Tryz.prog 97 #[(.pointer (some ⟨b0, o0, none⟩)), (iV 6), (iV n5), (.agg #[(iV 0), (iV 0), (iV 0), (iV 0), (.int .u64 0)])] M4 (fun v6 M7 =>
 ∃ n8 n9 jN : Int, ∃ wV : Option Addr, ∃ eU cY : Nat, ∃ jo : Option Addr, ∃ gj dK : Nat, ∃ fK g9 lF dZ jr mP : Int, (v6 = (.agg #[(iV n8), (iV n9), (iV jN), (.slice wV eU cY), (.slice jo gj dK), (iV fK), (iV g9), (iV lF), (iV dZ), (iV jr), (.int .u64 mP)])) ∧
 xl M7 k1 (iV n8) (iV n9) (iV jN) (.slice wV eU cY) (.slice jo gj dK) (iV fK) (iV g9) (iV lF) (iV dZ) (iV jr) (.int .u64 mP) fun xw =>
 dJ xw k1 0 fun KS Ek zj Fk gm rK Zh AD HQ BW Di vU BZ wT Cl =>
 K (.agg #[(iV KS), (iV Ek), (iV zj), (.slice Fk gm rK), (.slice Zh AD HQ), (iV BW), (iV Di), (iV vU), (iV BZ), (iV wT), (.int .u64 Cl)]) xw) Kp)
 (aa Tryz.prog 97 #[(.pointer (some ⟨b0, o0, none⟩)), (iV x1), (iV 0), (.agg #[(iV 0), (iV 0), (iV 0), (iV 0), (.int .u64 0)])] M4 (fun Mu zO =>
 ∃ Fi RV IY : Int, ∃ Zo : Option Addr, ∃ Zp Oe : Nat, ∃ Va : Option Addr, ∃ BY F3 : Nat, ∃ HS De Pw F5 n64 vL : Int, (Mu = (.agg #[(iV Fi), (iV RV), (iV IY), (.slice Zo Zp Oe), (.slice Va BY F3), (iV HS), (iV De), (iV Pw), (iV F5), (iV n64), (.int .u64 vL)])) ∧
 xl zO k1 (iV Fi) (iV RV) (iV IY) (.slice Zo Zp Oe) (.slice Va BY F3) (iV HS) (iV De) (iV Pw) (iV F5) (iV n64) (.int .u64 vL) fun Zm =>
 dJ Zm k1 0 fun zh AP n79 A80 Jb Gh A83 Sa K0 ME MO Tp MT H6 n91 =>
 K (.agg #[(iV zh), (iV AP), (iV n79), (.slice A80 Jb Gh), (.slice A83 Sa K0), (iV ME), (iV MO), (iV Tp), (iV MT), (iV H6), (.int .u64 n91)]) Zm) Kp)) Kp)
 (aa Tryz.prog 97 #[(.pointer (some ⟨b0, o0, none⟩)), (iV x1), (iV 0), (.agg #[(iV 0), (iV 0), (iV 0), (iV 0), (.int .u64 0)])] M2 (fun v92 Ew =>
 ∃ KP Fg HU : Int, ∃ Vj : Option Addr, ∃ Vk S7 : Nat, ∃ SU : Option Addr, ∃ SW I7 : Nat, ∃ TE TF Tl Tm MR zn : Int, (v92 = (.agg #[(iV KP), (iV Fg), (iV HU), (.slice Vj Vk S7), (.slice SU SW I7), (iV TE), (iV TF), (iV Tl), (iV Tm), (iV MR), (.int .u64 zn)])) ∧
 xl Ew k1 (iV KP) (iV Fg) (iV HU) (.slice Vj Vk S7) (.slice SU SW I7) (iV TE) (iV TF) (iV Tl) (iV Tm) (iV MR) (.int .u64 zn) fun zp =>
 dJ zp k1 0 fun qD uL Jd WK Es Et A126 k127 MU S4 S5 n131 n132 MY MZ =>
 K (.agg #[(iV qD), (iV uL), (iV Jd), (.slice WK Es Et), (.slice A126 k127 MU), (iV S4), (iV S5), (iV n131), (iV n132), (iV MY), (.int .u64 MZ)]) zp) Kp)) :
 aa Tryz.prog 98 #[.pointer (some ⟨b0, o0, none⟩), .int .i64 x1, .pointer p2] M K Kp := vw [] Tryz.func98 h
theorem oH {b0 o0 : Nat} (h :
rP M b0 (o0 + 4) fun A1 =>
aa Tryz.prog 22 #[(.pointer A1)] M (fun v2 M3 =>
aK (some v2) .i64 fun n4 =>
aQ (n4 == 1)
 (K (iV 1) M3)
 (aQ (n4 == 2)
 (K (iV 2) M3)
 (aQ (n4 == 3)
 (K (iV 3) M3)
 (K (iV 5) M3)))) Kp) :
 aa Tryz.prog 99 #[.pointer (some ⟨b0, o0, none⟩)] M K Kp := vw [] Tryz.func99 h
theorem pI  (h :
aW M (cl [(iV 10), (iV 0), (iV 0), (iV 0)] 27) fun k1 M2 =>
aW M2 (cl [(.slice (some ⟨k1, 0, none⟩) 1 1)] 28) fun k3 M4 =>
aW M4 xm fun k5 M6 =>
kB M6 k5 (.slice (some ⟨k3, 0, none⟩) 1 1) (.slice none 0 0) (iV 0) (.slice none 0 0) fun fJ =>
tP fJ k5 0 fun wV eU cY jo gj dK fK Ck gZ iM =>
(True) ∧
aX Tryz.prog (Go.Instr.makeSlice 31 (iV 3) (iV 3)) fJ (fun Py cU =>
az (some Py) fun HR kC nj =>
((Mem.gd cU ⟨k5, 0, none⟩ 0 4) = some [(.slice wV eU cY), (.slice jo gj dK), (iV fK), (.slice Ck gZ iM)]) ∧
(True) ∧
aa Tryz.prog 94 #[(.agg #[(.slice wV eU cY), (.slice jo gj dK), (iV fK), (.slice Ck gZ iM)]), (.agg #[(iV 1), (iV 1), (iV 2), (iV 1)]), (.slice HR kC nj), (iV 9), (.pointer none)] cU (fun SN pN =>
∃ rM qi vT : Int, ∃ Db : Option Addr, ∃ nO nQ : Nat, ∃ Ve : Option Addr, ∃ yH Ga : Nat, ∃ KM Cc Ef IX PI Dh : Int, (SN = (.agg #[(iV rM), (iV qi), (iV vT), (.slice Db nO nQ), (.slice Ve yH Ga), (iV KM), (iV Cc), (iV Ef), (iV IX), (iV PI), (.int .u64 Dh)])) ∧
((Mem.gd pN ⟨k5, 0, none⟩ 0 4) = some [(.slice wV eU cY), (.slice jo gj dK), (iV fK), (.slice Ck gZ iM)]) ∧
aW pN dQ fun nR zk =>
xl zk nR (iV rM) (iV qi) (iV vT) (.slice Db nO nQ) (.slice Ve yH Ga) (iV KM) (iV Cc) (iV Ef) (iV IX) (iV PI) (.int .u64 Dh) fun l8 =>
((Mem.gd l8 ⟨k5, 0, none⟩ 0 4) = some [(.slice wV eU cY), (.slice jo gj dK), (iV fK), (.slice Ck gZ iM)]) ∧
rI l8 nR 0 fun Gp =>
aQ (Gp == 1)
 (rI l8 nR 1 fun KW =>
 aQ (KW == 3)
 (rS l8 nR 4 fun XJ F3 KR =>
 aQ ((F3 : Int) == 3)
 (rI l8 nR 5 fun De =>
 K (.bool (De == 0)) l8)
 (K (.bool false) l8))
 (K (.bool false) l8))
 (K (.bool false) l8)) Kp) Kp) :
 aa Tryz.prog 42 #[] M K Kp := vw [(2, .bQ [0, 0, 0, 7, 0, 31] (sy [1] (.cE 0 (.late 2 (.late 3 (sy [4, 5] .done))))))] Tryz.func42 h
end Go.Proofs
namespace Go.Proofs
open Go.AF
set_option maxRecDepth 100000
theorem mh {lI : Option Addr} {lJ lK : Nat} {jO : Option Addr} {jP jQ : Nat} {gk : Int} {lM : Option Addr} {lN lO : Nat} {cQ : Int} {cR : Int} {cT : Int} {eJ : Int} {B2 : Option Addr} {m2 c2 : Nat} {x3 : Int} {M : Mem} {K : Value → Mem → Prop} {Kp : List PanicEntry → Mem → Prop} (h :
aW M (cl [(.slice lI lJ lK), (.slice jO jP jQ), (iV gk), (.slice lM lN lO)] 59) fun k1 M2 =>
aW M2 (cl [(iV cQ), (iV cR), (iV cT), (iV eJ)] 23) fun k3 M4 =>
aa Tryz.prog 42 #[] M4 (fun v5 M6 =>
dH (some v5) fun t7 =>
aQ (!t7)
 (K (.bool false) M6)
 (rS M6 k1 0 fun A8 k9 c6 =>
 rS M6 k1 1 fun wV eU cY =>
 rI M6 k1 2 fun j5 =>
 rS M6 k1 3 fun nS dK dS =>
 aa Tryz.prog 24 #[(.agg #[(.slice A8 k9 c6), (.slice wV eU cY), (iV j5), (.slice nS dK dS)])] M6 (fun AB iN =>
 ∃ Wo : Option Addr, ∃ eG g6 : Nat, ∃ HR : Option Addr, ∃ kC nj : Nat, ∃ lX : Int, ∃ Mw : Option Addr, ∃ ko nT : Nat, (AB = (.agg #[(.slice Wo eG g6), (.slice HR kC nj), (iV lX), (.slice Mw ko nT)])) ∧
 aW iN xo fun kZ KV =>
 kB KV kZ (.slice Wo eG g6) (.slice HR kC nj) (iV lX) (.slice Mw ko nT) fun rQ =>
 ((0 : Int) ≤ c2) ∧
 ((c2 : Int) ≤ c2) ∧
 ((0 : Int) ≤ (if (60 : Int) < (m2 : Int) then 60 else (m2 : Int))) ∧
 (((if (60 : Int) < (m2 : Int) then 60 else (m2 : Int)) : Int) ≤ (c2 : Int)) ∧
 ((0 : Int) ≤ 0) ∧
 ((0 : Int) ≤ (if (60 : Int) < (m2 : Int) then 60 else (m2 : Int))) ∧
 tP rQ kZ 0 fun Fj pg gm HT xq AD Dh A43 BX II =>
 bN rQ k3 0 fun BZ wT Cl MD =>
 aa Tryz.prog 25 #[(.agg #[(.slice Fj pg gm), (.slice HT xq AD), (iV Dh), (.slice A43 BX II)])] rQ (fun v50 Pf =>
 ∃ A52 : Option Addr, ∃ uo Pg : Nat, ∃ Zr : Option Addr, ∃ Oe AI : Nat, ∃ KN : Int, ∃ A59 : Option Addr, ∃ KR k61 : Nat, (v50 = (.agg #[(.slice A52 uo Pg), (.slice Zr Oe AI), (iV KN), (.slice A59 KR k61)])) ∧
 ((Mem.gd Pf ⟨k3, 0, none⟩ 0 4) = some [(iV BZ), (iV wT), (iV Cl), (iV MD)]) ∧
 aa Tryz.prog 14 #[(.agg #[(iV BZ), (iV wT), (iV Cl), (iV MD)])] Pf (fun Pr zf =>
 ∃ n64 vL N8 RW : Int, (Pr = (.agg #[(iV n64), (iV vL), (iV N8), (iV RW)])) ∧
 ((Mem.gd zf ⟨k3, 0, none⟩ 0 4) = some [(iV BZ), (iV wT), (iV Cl), (iV MD)]) ∧
 aa Tryz.prog 16 #[(.slice (kx B2 0 (Int.toNat (c2 : Int)) 1) ((Int.toNat (if (60 : Int) < (m2 : Int) then 60 else (m2 : Int))) - 0) ((Int.toNat (c2 : Int)) - 0))] zf (fun v68 RZ =>
 cv (some v68) fun A70 =>
 ((Mem.gd RZ ⟨k3, 0, none⟩ 0 4) = some [(iV BZ), (iV wT), (iV Cl), (iV MD)]) ∧
 aa Tryz.prog 43 #[(.agg #[(.slice A52 uo Pg), (.slice Zr Oe AI), (iV KN), (.slice A59 KR k61)]), (.agg #[(iV n64), (iV vL), (iV N8), (iV RW)]), (.pointer A70)] RZ (fun v71 N9 =>
 cv (some v71) fun Wz =>
 ((Mem.gd N9 ⟨k3, 0, none⟩ 0 4) = some [(iV BZ), (iV wT), (iV Cl), (iV MD)]) ∧
 aQ (Option.isNone Wz)
 (K (.bool false) N9)
 (aa Tryz.prog 44 #[(.pointer Wz), (iV (IntKind.wrap .i64 (((Nat.bitwise and (BitVec.ofInt IntKind.i64.bits x3).toNat (BitVec.ofInt IntKind.i64.bits 255).toNat) : Nat) : Int))), (.pointer none)] N9 (fun v74 xH =>
 ∃ F6 zh AP : Int, ∃ MC : Option Addr, ∃ Gk Jb : Nat, ∃ A82 : Option Addr, ∃ zQ Sa : Nat, ∃ HZ ME MO Tp MT H6 : Int, (v74 = (.agg #[(iV F6), (iV zh), (iV AP), (.slice MC Gk Jb), (.slice A82 zQ Sa), (iV HZ), (iV ME), (iV MO), (iV Tp), (iV MT), (.int .u64 H6)])) ∧
 aW xH dQ fun B5 WT =>
 xl WT B5 (iV F6) (iV zh) (iV AP) (.slice MC Gk Jb) (.slice A82 zQ Sa) (iV HZ) (iV ME) (iV MO) (iV Tp) (iV MT) (.int .u64 H6) fun Gj =>
 aa Tryz.prog 45 #[(.pointer Wz)] Gj (fun v104 Cm =>
 cv (some v104) fun A106 =>
 rS Cm B5 4 fun A107 XL Co =>
 rI Cm B5 1 fun IK =>
 aQ ((XL : Int) != IK)
 (K (.bool false) Cm)
 (rI Cm B5 1 fun Gm =>
 aa Tryz.prog 35 #[(.pointer A106)] Cm (fun v112 wg =>
 aK (some v112) .i64 fun Eh =>
 eI wg B5 1 Gm ∧
 aQ (Gm != Eh)
 (K (.bool false) wg)
 (rI wg B5 1 fun Qz =>
 aQ (decide ((Qz : Int) > (IntKind.wrap .i64 (((Nat.bitwise and (BitVec.ofInt IntKind.i64.bits x3).toNat (BitVec.ofInt IntKind.i64.bits 255).toNat) : Nat) : Int))))
 (K (.bool false) wg)
 (rI wg B5 1 fun Yk =>
 aQ (Yk == 0)
 (K (.bool true) wg)
 (rS wg kZ 1 fun Tn Qm Gx =>
 rI wg kZ 2 fun qD =>
 rS wg B5 4 fun Yl Qn Cr =>
 rI wg B5 1 fun zw =>
 ((0 : Int) ≤ (IntKind.wrap .i64 (zw - 1))) ∧
 (((IntKind.wrap .i64 (zw - 1)) : Int) < (Qn : Int)) ∧
 aE Yl fun Et Qo =>
 aK (Mem.ld wg ⟨Et, (Qo + (Int.toNat (IntKind.wrap .i64 (zw - 1)))), none⟩) .u32 fun xJ =>
 aa Tryz.prog 40 #[(.pointer A106), (iV (Qm : Int)), (iV qD)] wg (fun v128 TH =>
 az (some v128) fun TG Jk xI =>
 ((Mem.ld TH ⟨Et, (Qo + (Int.toNat (IntKind.wrap .i64 (zw - 1)))), none⟩) = (some (.int .u32 xJ))) ∧
 eI TH B5 1 zw ∧
 eS TH B5 4 Yl Qn Cr ∧
 aa Tryz.prog 46 #[(.slice TG Jk xI)] TH (fun v133 Cn =>
 aK (some v133) .u32 fun Na =>
 ((Mem.ld Cn ⟨Et, (Qo + (Int.toNat (IntKind.wrap .i64 (zw - 1)))), none⟩) = (some (.int .u32 xJ))) ∧
 eI Cn B5 1 zw ∧
 eS Cn B5 4 Yl Qn Cr ∧
 K (.bool (xJ == Na)) Cn) Kp) Kp)))) Kp)) Kp) Kp)) Kp) Kp) Kp) Kp) Kp)) Kp) :
 aa Tryz.prog 10 #[.agg #[.slice lI lJ lK, .slice jO jP jQ, .int .i64 gk, .slice lM lN lO], .agg #[.int .i64 cQ, .int .i64 cR, .int .i64 cT, .int .i64 eJ], .slice B2 m2 c2, .int .i64 x3] M K Kp := vw [(4, .bQ [0, 1, 0, 7, 0, 0, 32, 96, 240, 511, 1023, 2047] (sy [4, 5, 6, 7, 8, 0] (.cE 2 (sy [1, 3, 9, 10, 11] .done)))), (10, .bQ [0, 1, 3, 0, 8, 31, 63, 127, 255, 127, 639, 2047, 4095, 8191, 16383, 32767, 16383, 131071, 262143] (sy [0, 3, 1, 2, 4, 5, 6, 7, 9] (.cE 8 (sy [10, 11, 12, 13, 14, 16, 15, 17, 18] .done)))), (12, .bQ [0, 1, 3, 7, 15, 31, 15, 79, 207, 511, 1023, 15, 15, 4111, 12303, 15, 32783, 129039, 260111, 524287, 1048575, 2097151] (sy [0, 1, 2, 3, 4, 6, 11, 12, 15, 13, 14, 16] (.cE 5 (.cE 7 (sy [8, 9] (.cE 10 (sy [17, 18, 19, 20, 21] .done)))))))] Tryz.func10 h
end Go.Proofs
