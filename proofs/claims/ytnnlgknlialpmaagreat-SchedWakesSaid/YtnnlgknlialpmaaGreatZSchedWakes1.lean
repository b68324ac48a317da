/- A part of proofs about one program. -/
import Derived.Test.YtnnlgknlialpmaaGreatZSchedWakes0
set_option linter.unusedVariables false
namespace Go.Proofs
open Go.AF
set_option maxRecDepth 100000
theorem jC {x0 : Int} {cH : Int} {cI : Int} {cJ : Int} {fj : Int} {M : Mem} {K : Value → Mem → Prop} {Kp : List PanicEntry → Mem → Prop} (h :
bh M (cl [(iV cH), (iV cI), (iV cJ), (iV fj)] 23) fun k1 M2 =>
aa Tryz.prog 13 #[] M2 (fun v3 M4 =>
cV (some v3) fun t5 =>
aO (!t5)
 (K (.bool false) M4)
 (((12 : Int) ≠ 0) ∧
 bh M4 (cl [(iV 1), (iV 1), (iV 1), (iV 0)] 27) fun k6 M7 =>
 ∃ I8 : IT, (∃ k9, I8 k9 [(.slice (some ⟨k6, 0, none⟩) 1 1), (iV 0)] M7) ∧
 ∀ (eJ : Nat) (_ : Nat → Value) (xN : Option Addr) (dH : Nat) (iL : Nat) (jM : Int) (eZ : Mem), (I8 eJ [(.slice xN dH iL), (iV jM)] eZ) → aO (decide ((jM : Int) < (IntKind.wrap .i64 (1 + (Int.tmod (IntKind.wrap .i64 (((Nat.bitwise and (BitVec.ofInt IntKind.i64.bits x0).toNat (BitVec.ofInt IntKind.i64.bits 255).toNat) : Nat) : Int)) 12)))))
 (bh eZ (cl [(iV 11), (iV 1), (iV 3), (iV 2), (iV 3), (iV 3), (iV 3), (iV 1)] 27) fun eK qx =>
 aA 28 xN dH iL (some ⟨eK, 0, none⟩) 2 2 qx (fun Md r8 =>
 az (some Md) fun yd hG jB =>
 ∃ r6 : Nat, (r6 < eJ) ∧
 I8 r6 [(.slice yd hG jB), (iV (IntKind.wrap .i64 (jM + 1)))] r8) Kp)
 (bh eZ (cl [(iV 14), (iV 0), (iV 4), (iV 5)] 27) fun vb uN =>
 aA 28 xN dH iL (some ⟨vb, 0, none⟩) 1 1 uN (fun I2 AU =>
 az (some I2) fun Gt lH nH =>
 bh AU (cl [(iV 1), (iV 1), (iV 1), (iV 0), (iV 17), (iV 1), (iV 0), (iV 0), (iV 20), (iV 0), (iV 0), (iV 0), (iV 10), (iV 0), (iV 0), (iV 0)] 27) fun nI BQ =>
 jy BQ k1 0 fun LZ Fa wI LK =>
 aa Tryz.prog 14 #[(.agg #[(iV LZ), (iV Fa), (iV wI), (iV LK)])] BQ (fun v38 RV =>
 ∃ Jc PM Od DE : Int, (v38 = (.agg #[(iV Jc), (iV PM), (iV Od), (iV DE)])) ∧
 bh RV Gn fun qu tu =>
 DA tu qu (iV Jc) (iV PM) (iV Od) (iV DE) fun ve =>
 Wl ve qu (iV 1) (iV 1) fun U9 =>
 aW Tryz.prog (Go.Instr.makeSlice 31 (iV 1200) (iV 1200)) U9 (fun WM Gz =>
 az (some WM) fun La DR Lb =>
 ((0 : Int) ≤ 600) ∧
 ((600 : Int) < DR) ∧
 aD La fun yZ DG =>
 sT Gz yZ (DG + 600) (.int .u64 1) fun tv =>
 ∃ R8 : List Value → Mem → Prop, (rI tv qu 0 fun vf =>
 rI tv qu 1 fun yY =>
 rI tv qu 2 fun tq =>
 rI tv qu 3 fun n64 =>
 (bh tv (cl [(.slice Gt lH nH), (.slice (some ⟨nI, 0, none⟩) 4 4)] 28) fun Vh Mb =>
 (bh Mb yQ fun jQ PG =>
 aa Tryz.prog 16 #[(.slice La DR Lb)] PG (fun Tg Ae =>
 b8 (some Tg) fun PJ =>
 ((Mem.gp Ae ⟨qu, 0, none⟩ 0 4) = some [(iV vf), (iV yY), (iV tq), (iV n64)]) ∧
 aa Tryz.prog 15 #[(.agg #[(.slice (some ⟨Vh, 0, none⟩) 2 2), (.slice (some ⟨jQ, 0, none⟩) 1 1), (iV 0), (.slice none 0 0)]), (.agg #[(iV vf), (iV yY), (iV tq), (iV n64)]), (.pointer PJ)] Ae (fun TD AZ =>
 b8 (some TD) fun A74 =>
 ((Mem.gp AZ ⟨qu, 0, none⟩ 0 4) = some [(iV vf), (iV yY), (iV tq), (iV n64)]) ∧
 R8 [(.pointer A74)] AZ) Kp) Kp) ∧
 (aa Tryz.prog 16 #[(.slice La DR Lb)] Mb (fun v75 RT =>
 b8 (some v75) fun Xf =>
 ((Mem.gp RT ⟨qu, 0, none⟩ 0 4) = some [(iV vf), (iV yY), (iV tq), (iV n64)]) ∧
 bh RT yQ fun Mi M79 =>
 aa Tryz.prog 15 #[(.agg #[(.slice (some ⟨Vh, 0, none⟩) 2 2), (.slice (some ⟨Mi, 0, none⟩) 1 1), (iV 0), (.slice none 0 0)]), (.agg #[(iV vf), (iV yY), (iV tq), (iV n64)]), (.pointer Xf)] M79 (fun v80 RX =>
 b8 (some v80) fun A82 =>
 ((Mem.gp RX ⟨qu, 0, none⟩ 0 4) = some [(iV vf), (iV yY), (iV tq), (iV n64)]) ∧
 R8 [(.pointer A82)] RX) Kp) Kp) ∧
 True) ∧
 (bh tv yQ fun Mm GF =>
 (bh GF (cl [(.slice Gt lH nH), (.slice (some ⟨nI, 0, none⟩) 4 4)] 28) fun GJ Jr =>
 aa Tryz.prog 16 #[(.slice La DR Lb)] Jr (fun v87 Oi =>
 b8 (some v87) fun A89 =>
 ((Mem.gp Oi ⟨qu, 0, none⟩ 0 4) = some [(iV vf), (iV yY), (iV tq), (iV n64)]) ∧
 aa Tryz.prog 15 #[(.agg #[(.slice (some ⟨GJ, 0, none⟩) 2 2), (.slice (some ⟨Mm, 0, none⟩) 1 1), (iV 0), (.slice none 0 0)]), (.agg #[(iV vf), (iV yY), (iV tq), (iV n64)]), (.pointer A89)] Oi (fun Jo oX =>
 b8 (some Jo) fun PC =>
 ((Mem.gp oX ⟨qu, 0, none⟩ 0 4) = some [(iV vf), (iV yY), (iV tq), (iV n64)]) ∧
 R8 [(.pointer PC)] oX) Kp) Kp) ∧
 (aa Tryz.prog 16 #[(.slice La DR Lb)] GF (fun v93 M94 =>
 b8 (some v93) fun A95 =>
 ((Mem.gp M94 ⟨qu, 0, none⟩ 0 4) = some [(iV vf), (iV yY), (iV tq), (iV n64)]) ∧
 bh M94 (cl [(.slice Gt lH nH), (.slice (some ⟨nI, 0, none⟩) 4 4)] 28) fun WZ Jp =>
 aa Tryz.prog 15 #[(.agg #[(.slice (some ⟨WZ, 0, none⟩) 2 2), (.slice (some ⟨Mm, 0, none⟩) 1 1), (iV 0), (.slice none 0 0)]), (.agg #[(iV vf), (iV yY), (iV tq), (iV n64)]), (.pointer A95)] Jp (fun W0 RW =>
 b8 (some W0) fun PE =>
 ((Mem.gp RW ⟨qu, 0, none⟩ 0 4) = some [(iV vf), (iV yY), (iV tq), (iV n64)]) ∧
 R8 [(.pointer PE)] RW) Kp) Kp) ∧
 True) ∧
 (aa Tryz.prog 16 #[(.slice La DR Lb)] tv (fun Y7 TR =>
 b8 (some Y7) fun Y8 =>
 ((Mem.gp TR ⟨qu, 0, none⟩ 0 4) = some [(iV vf), (iV yY), (iV tq), (iV n64)]) ∧
 bh TR (cl [(.slice Gt lH nH), (.slice (some ⟨nI, 0, none⟩) 4 4)] 28) fun B8 GC =>
 bh GC yQ fun sD Mo =>
 aa Tryz.prog 15 #[(.agg #[(.slice (some ⟨B8, 0, none⟩) 2 2), (.slice (some ⟨sD, 0, none⟩) 1 1), (iV 0), (.slice none 0 0)]), (.agg #[(iV vf), (iV yY), (iV tq), (iV n64)]), (.pointer Y8)] Mo (fun Y9 qv =>
 b8 (some Y9) fun Za =>
 ((Mem.gp qv ⟨qu, 0, none⟩ 0 4) = some [(iV vf), (iV yY), (iV tq), (iV n64)]) ∧
 R8 [(.pointer Za)] qv) Kp) Kp) ∧
 True) ∧
 ∀ Vm : Nat → Value, ∀ yl : Option Addr, ∀ TS : Mem, (R8 [(.pointer yl)] TS) → ∃ QI : IT, (∃ PK, QI PK [(iV 0)] TS) ∧
 ∀ (GP : Nat) (_ : Nat → Value) (QJ : Int) (Am : Mem), (QI GP [(iV QJ)] Am) → aO (decide (QJ < 600))
 (aa Tryz.prog 17 #[(.pointer yl)] Am (fun Zb JO =>
 ∃ Mp TT TU : Int, ∃ TV : Option Addr, ∃ TW TX : Nat, ∃ tX : Int, (Zb = (.tuple #[(.agg #[(iV Mp), (iV TT), (iV TU), (.slice TV TW TX)]), (iV tX)])) ∧
 bh JO fq fun JP tY =>
 DA tY JP (iV Mp) (iV TT) (iV TU) (.slice TV TW TX) fun B5 =>
 aO (tX != 0)
 (K (.bool false) B5)
 (∃ yj : Nat, (yj < GP) ∧
 QI yj [(iV (IntKind.wrap .i64 (QJ + 1)))] B5)) Kp)
 (aa Tryz.prog 18 #[(.pointer yl)] Am (fun Zc B6 =>
 b8 (some Zc) fun Zd =>
 aa Tryz.prog 19 #[(.pointer Zd)] B6 (fun Ze GL =>
 az (some Ze) fun A141 Zf k143 =>
 aO ((Zf : Int) != (IntKind.wrap .i64 (1 + (Int.tmod (IntKind.wrap .i64 (((Nat.bitwise and (BitVec.ofInt IntKind.i64.bits x0).toNat (BitVec.ofInt IntKind.i64.bits 255).toNat) : Nat) : Int)) 12))))
 (K (.bool false) GL)
 (aa Tryz.prog 20 #[(.pointer yl)] GL (fun Zg TY =>
 az (some Zg) fun A146 Zh My =>
 aO ((Zh : Int) != 0)
 (K (.bool false) TY)
 (aa Tryz.prog 17 #[(.pointer yl)] TY (fun Zi Zj =>
 ∃ Mr Ms TZ : Int, ∃ T0 : Option Addr, ∃ Mt GM : Nat, ∃ Zk : Int, (Zi = (.tuple #[(.agg #[(iV Mr), (iV Ms), (iV TZ), (.slice T0 Mt GM)]), (iV Zk)])) ∧
 bh Zj fq fun D1 Zl =>
 DA Zl D1 (iV Mr) (iV Ms) (iV TZ) (.slice T0 Mt GM) fun GQ =>
 rI GQ D1 0 fun Zm =>
 aO (Zm != 1)
 (K (.bool false) GQ)
 (rS GQ D1 3 fun A165 Zn k167 =>
 aO ((Zn : Int) != (IntKind.wrap .i64 (1 + (Int.tmod (IntKind.wrap .i64 (((Nat.bitwise and (BitVec.ofInt IntKind.i64.bits x0).toNat (BitVec.ofInt IntKind.i64.bits 255).toNat) : Nat) : Int)) 12))))
 (K (.bool false) GQ)
 (rS GQ D1 3 fun QK QL QM =>
 aa Tryz.prog 20 #[(.pointer yl)] GQ (fun Zo T3 =>
 az (some Zo) fun Zp JH Zq =>
 eS T3 D1 3 QK QL QM ∧
 aa Tryz.prog 21 #[(.slice Zp JH Zq), (.slice QK QL QM)] T3 (fun Zr GN =>
 aG (some Zr) .i64 fun Zs =>
 eS GN D1 3 QK QL QM ∧
 aO (Zs != 0)
 (K (.bool false) GN)
 (∃ QN : IT, (∃ Zt, QN Zt [] GN) ∧
 ∀ (T4 : Nat) (_ : Nat → Value) (T5 : Mem), (QN T4 [] T5) → aa Tryz.prog 22 #[(.pointer yl)] T5 (fun Zu T6 =>
 aG (some Zu) .i64 fun Zv =>
 aO (Zv == 0)
 (aa Tryz.prog 17 #[(.pointer yl)] T6 (fun Zw Zx =>
 ∃ T7 T8 T9 : Int, ∃ Ua : Option Addr, ∃ MA MB : Nat, ∃ Ub : Int, (Zw = (.tuple #[(.agg #[(iV T7), (iV T8), (iV T9), (.slice Ua MA MB)]), (iV Ub)])) ∧
 bh Zx fq fun Zy Ql =>
 DA Ql Zy (iV T7) (iV T8) (iV T9) (.slice Ua MA MB) fun Uc =>
 aO (Ub != 0)
 (K (.bool false) Uc)
 (∃ Ud : Nat, (Ud < T4) ∧
 QN Ud [] Uc)) Kp)
 (aa Tryz.prog 22 #[(.pointer yl)] T6 (fun Zz B9 =>
 aG (some Zz) .i64 fun ZA =>
 aO (ZA == 3)
 (aa Tryz.prog 18 #[(.pointer yl)] B9 (fun ZB ZC =>
 b8 (some ZB) fun ZD =>
 aa Tryz.prog 23 #[(.pointer ZD)] ZC (fun ZE ZF =>
 az (some ZE) fun A211 ZG k213 =>
 K (.bool ((ZG : Int) == (IntKind.wrap .i64 (1 + (Int.tmod (IntKind.wrap .i64 (((Nat.bitwise and (BitVec.ofInt IntKind.i64.bits x0).toNat (BitVec.ofInt IntKind.i64.bits 255).toNat) : Nat) : Int)) 12))))) ZF) Kp) Kp)
 (K (.bool false) B9)) Kp)) Kp)) Kp) Kp))) Kp)) Kp)) Kp) Kp)) Kp) Kp) Kp))) Kp) :
 aa Tryz.prog 3 #[.int .i64 x0, .agg #[.int .i64 cH, .int .i64 cI, .int .i64 cJ, .int .i64 fj]] M K Kp := vw [(2000000, .loop [(5, .c .sl), (25, .c (.int .i64))]), (15, .Ga [0, 0, 3, 0, 15, 0, 0, 64, 255, 511] (sy [0, 1, 6] (.fT 5 (.fork 2 (.fork 3 (sy [4, 7, 8, 9] .done) (.fork 7 (sy [3, 4, 8, 9] .done) .dead)) (.fork 3 (.fork 2 (sy [4, 7, 8, 9] .done) (.fork 7 (sy [2, 4, 8, 9] .done) .dead)) (.fork 7 (sy [2, 3, 4, 8, 9] .done) .dead))))) [(9, .c .ptr)]), (2000002, .loop [(58, .c (.int .i64))]), (25, .bN [0, 1, 3, 7, 15, 31, 63, 15, 255, 511, 1023, 2047, 4095, 2047, 10239, 32767, 65535, 131071] (sy [0, 1, 2, 3, 4, 7, 5, 6, 8, 9, 10, 11, 13] (.fT 14 (sy [12, 15, 16, 17] .done)))), (2000004, .loop [])] Tryz.func3 h
end Go.Proofs
