/- A part of proofs about one program. -/
import Derived.Test.YtfjgcljdnhkmaaaProg
import Derived.Test.YtfjgcljdnhkmaaaZWorldSleepsStC
import Derived.Test.YtfjgcljdnhkmaaaZWorldSleepsMod
set_option linter.unusedVariables false
namespace Go.Proofs
open Go.AF
noncomputable def Cx : Ctx := ⟨Try.prog, 91⟩
theorem good : Cx.Good := by
 refine ⟨?_, by kernel_rfl⟩
 have h : (List.range 89).all (fun g => m9 Try.prog (g + 2)) = true := by kernel_rfl
 intro g hg
 have h1 : g < 91 := hg.2
 have := List.all_eq_true.1 h (g - 2) (List.mem_range.2 (by omega))
 have e : g - 2 + 2 = g := by omega
 simp only [e] at this
 exact this
def sy : List Nat → Ex → Ex
 | [], e => e
 | i :: l, e => .step i (sy l e)
abbrev aA (t : Nat) (A : Option Addr) (n c : Nat) (B : Option Addr) (m d : Nat) (M : Mem) (K : Value → Mem → Prop) (Kp : List PanicEntry → Mem → Prop) : Prop := aW Try.prog (Go.Builtin.append_ #[t, t] t #[.slice A n c, .slice B m d]) M K Kp
theorem vw {f : FuncId} {fn : Func} {args : List Value} {M : Mem} {K : Value → Mem → Prop} {Kp : List PanicEntry → Mem → Prop} (H : List (Nat × Hint)) (hf : Cx.P.funcs[f]? = some fn) {vc : Prop} (h : vc) (h1 : qb fn args.length = true := by kernel_rfl)
  (h2 : vc = ct Cx H Kp (eA fn) 0 (zw Cx.P fn K) (eV args) M := by kernel_rfl) : ae Cx.P f args.toArray M K Kp := cY (C := Cx) good H hf h1 h2 h
end Go.Proofs
namespace Go.Proofs
open Go.AF
set_option maxRecDepth 100000
variable {M : Mem} {K : Value → Mem → Prop} {Kp : List PanicEntry → Mem → Prop}
theorem ud {x0 : Int} (h :
bq M (cl [(iV (if (16 : Int) < (if (0 : Int) > x0 then 0 else x0) then 16 else (if (0 : Int) > x0 then 0 else x0))), (.slice none 0 0), (.slice none 0 0), (.slice none 0 0), (.bool false)] 89) fun k1 M2 =>
K (.pointer (some ⟨k1, 0, none⟩)) M2) :
 ae Try.prog 23 #[.int .i64 x0] M K Kp := vw [] Try.func23 h
theorem ja {b0 o0 : Nat} {cv : Int} {cw : Int} {cy : Int} (h :
bq M (cl [(iV cv), (iV cw), (iV cy)] 120) fun k1 M2 =>
rS M2 b0 (o0 + 3) fun A3 k4 k5 =>
j8 M2 k1 0 fun n6 n7 n8 =>
bq M2 (cl [(iV n6), (iV n7), (iV n8)] 120) fun k9 xp =>
aA 47 A3 k4 k5 (some ⟨k9, 0, none⟩) 1 1 xp (fun v11 s0 =>
aE (some v11) fun Ho mo mY =>
sT s0 b0 (o0 + 3) (.slice Ho mo mY) fun hJ =>
K (.tuple #[]) hJ) Kp) :
 ae Try.prog 70 #[.pointer (some ⟨b0, o0, none⟩), .agg #[.int .i64 cv, .int .i64 cw, .int .i64 cy]] M K Kp := vw [(1, .bL [0, 0, 2, 6, 14, 0, 32, 126, 255, 511, 1023] (sy [0, 1, 2, 3, 4, 5, 6, 7, 8, 9, 10] .done))] Try.func70 h
theorem jb {b0 o0 : Nat} {cv : Int} {cw : Int} {cy : Int} (h :
bq M (cl [(iV cv), (iV cw), (iV cy)] 120) fun k1 M2 =>
rS M2 b0 (o0 + 2) fun A3 k4 k5 =>
j8 M2 k1 0 fun n6 n7 n8 =>
bq M2 (cl [(iV n6), (iV n7), (iV n8)] 120) fun k9 xp =>
aA 47 A3 k4 k5 (some ⟨k9, 0, none⟩) 1 1 xp (fun v11 s0 =>
aE (some v11) fun Ho mo mY =>
sT s0 b0 (o0 + 2) (.slice Ho mo mY) fun hJ =>
K (.tuple #[]) hJ) Kp) :
 ae Try.prog 71 #[.pointer (some ⟨b0, o0, none⟩), .agg #[.int .i64 cv, .int .i64 cw, .int .i64 cy]] M K Kp := vw [(1, .bL [0, 0, 2, 6, 14, 0, 32, 126, 255, 511, 1023] (sy [0, 1, 2, 3, 4, 5, 6, 7, 8, 9, 10] .done))] Try.func71 h
theorem mq {b0 o0 : Nat} {x1 : Int} (h :
bq M gn fun k1 M2 =>
rB M2 b0 (o0 + 4) fun t3 =>
aX t3
 (sT M2 k1 0 (iV 0) fun M4 =>
 sT M4 k1 1 (iV 0) fun M5 =>
 sT M5 k1 2 (iV 0) fun M6 =>
 j8 M6 k1 0 fun n7 n8 n9 =>
 K (.tuple #[(.agg #[(iV n7), (iV n8), (iV n9)]), (.bool false), (iV 10)]) M6)
 (rS M2 b0 (o0 + 3) fun Bp dM iJ =>
 aX (decide ((dM : Int) > 0))
 (bq M2 gn fun gJ mZ =>
 rS mZ b0 (o0 + 3) fun qe fY jN =>
 ae Try.prog 86 #[(.slice qe fY jN)] mZ (fun Bq kW =>
 ∃ jx r7 xq : Int, ∃ Hq : Option Addr, ∃ r8 s9 : Nat, (Bq = (.tuple #[(.agg #[(iV jx), (iV r7), (iV xq)]), (.slice Hq r8 s9)])) ∧
 Bh kW gJ (iV jx) (iV r7) (iV xq) fun Br =>
 sT Br b0 (o0 + 3) (.slice Hq r8 s9) fun ta =>
 sT ta gJ 2 (iV x1) fun Cr =>
 j8 Cr gJ 0 fun td n32 E6 =>
 Bh Cr k1 (iV td) (iV n32) (iV E6) fun Cs =>
 j8 Cs k1 0 fun E7 E8 Hr =>
 K (.tuple #[(.agg #[(iV E7), (iV E8), (iV Hr)]), (.bool true), (iV 0)]) Cs) Kp)
 (rS M2 b0 (o0 + 1) fun MV D6 Gn =>
 rI M2 b0 o0 fun Hs =>
 aX (decide ((D6 : Int) < Hs))
 (rS M2 b0 (o0 + 1) fun N3 Ht E9 =>
 bq M2 (cl [(iV x1)] 2) fun Hu Kk =>
 aA 46 N3 Ht E9 (some ⟨Hu, 0, none⟩) 1 1 Kk (fun Kl D7 =>
 aE (some Kl) fun Km C1 vF =>
 sT D7 b0 (o0 + 1) (.slice Km C1 vF) fun Hv =>
 Bh Hv k1 (iV 0) (iV 0) (iV 0) fun Bs =>
 j8 Bs k1 0 fun Hw C2 Fa =>
 K (.tuple #[(.agg #[(iV Hw), (iV C2), (iV Fa)]), (.bool false), (iV 0)]) Bs) Kp)
 (sT M2 k1 0 (iV 0) fun Hx =>
 sT Hx k1 1 (iV 0) fun N4 =>
 sT N4 k1 2 (iV 0) fun Fb =>
 j8 Fb k1 0 fun n64 C3 Kn =>
 K (.tuple #[(.agg #[(iV n64), (iV C3), (iV Kn)]), (.bool false), (iV 6)]) Fb)))) :
 ae Try.prog 72 #[.pointer (some ⟨b0, o0, none⟩), .int .i64 x1] M K Kp := vw [(8, .bL [0, 1, 3, 7, 15, 0, 32, 96, 224, 511, 1023] (sy [0, 1, 2, 5, 6, 7, 3, 4, 8, 9, 10] .done))] Try.func72 h
theorem mu {b0 o0 : Nat} (h :
bq M iY fun k1 M2 =>
bq M2 iY fun k3 M4 =>
rS M4 b0 (o0 + 2) fun A5 k6 k7 =>
∃ J8 : List Value → Mem → Prop, (aX (decide ((k6 : Int) > 0))
 (rS M4 b0 (o0 + 2) fun A9 fm dM =>
 ae Try.prog 86 #[(.slice A9 fm dM)] M4 (fun D3 m5 =>
 ∃ rX oH z6 : Int, ∃ Bt : Option Addr, ∃ iw oe : Nat, (D3 = (.tuple #[(.agg #[(iV rX), (iV oH), (iV z6)]), (.slice Bt iw oe)])) ∧
 sT m5 k3 2 (iV rX) fun z7 =>
 sT z7 k3 (2 + 1) (iV oH) fun z8 =>
 sT z8 k3 (2 + 2) (iV z6) fun Ct =>
 sT Ct b0 (o0 + 2) (.slice Bt iw oe) fun mw =>
 sT mw k3 5 (.bool true) fun my =>
 rS my b0 (o0 + 1) fun Ko rY D8 =>
 rI my k3 (2 + 2) fun D9 =>
 bq my (cl [(iV D9)] 2) fun qf Cr =>
 aA 46 Ko rY D8 (some ⟨qf, 0, none⟩) 1 1 Cr (fun Fc m6 =>
 aE (some Fc) fun Hy z9 og =>
 sT m6 b0 (o0 + 1) (.slice Hy z9 og) fun Cs =>
 J8 [] Cs) Kp) Kp)
 (J8 [] M4)) ∧
∀ Kr : Nat → Value, ∀ iK : Mem, (J8 [] iK) → rS iK b0 (o0 + 1) fun Ea Hz D6 =>
aX (decide ((Hz : Int) > 0))
 (rS iK b0 (o0 + 1) fun Ks Fe MW =>
 ((0 : Int) ≤ 0) ∧
 ((0 : Int) < Fe) ∧
 aB Ks fun Ht E9 =>
 rI iK Ht (E9 + 0) fun C4 =>
 Kd iK k3 (iV C4) (.bool true) fun qN =>
 bq qN (cl [] 2) fun HA MX =>
 rS MX b0 (o0 + 1) fun N5 vF Eb =>
 ((0 : Int) ≤ Eb) ∧
 ((Eb : Int) ≤ Eb) ∧
 ((0 : Int) ≤ vF) ∧
 ((vF : Int) ≤ Eb) ∧
 ((0 : Int) ≤ 1) ∧
 ((1 : Int) ≤ vF) ∧
 aW Try.prog (Go.Builtin.append_ #[46, 46] 46 #[(.slice (some ⟨HA, 0, none⟩) 0 0), (.slice (mW N5 1 (Int.toNat (Eb : Int)) 1) ((Int.toNat (vF : Int)) - 1) ((Int.toNat (Eb : Int)) - 1))]) MX (fun Kt Ku =>
 aE (some Kt) fun N6 N7 N8 =>
 sT Ku b0 (o0 + 1) (.slice N6 N7 N8) fun Ff =>
 qd Ff k3 0 fun HB t62 HC n64 C3 t66 =>
 I8 Ff k1 (iV HB) (.bool t62) (iV HC) (iV n64) (iV C3) (.bool t66) fun MY =>
 qd MY k1 0 fun HD t74 HE N9 Fg t78 =>
 K (.tuple #[(.agg #[(iV HD), (.bool t74), (iV HE), (iV N9), (iV Fg), (.bool t78)]), (iV 0)]) MY) Kp)
 (rB iK b0 (o0 + 4) fun t79 =>
 aX t79
 (rI iK k3 0 fun Oa =>
 rB iK k3 1 fun t81 =>
 rI iK k3 2 fun Gp =>
 rI iK k3 3 fun Gq =>
 rI iK k3 4 fun Gr =>
 rB iK k3 5 fun t85 =>
 I8 iK k1 (iV Oa) (.bool t81) (iV Gp) (iV Gq) (iV Gr) (.bool t85) fun ue =>
 qd ue k1 0 fun Gs t93 Ob Oc Od t97 =>
 K (.tuple #[(.agg #[(iV Gs), (.bool t93), (iV Ob), (iV Oc), (iV Od), (.bool t97)]), (iV 0)]) ue)
 (rI iK k3 0 fun Oe =>
 rB iK k3 1 fun t99 =>
 rI iK k3 2 fun Kv =>
 rI iK k3 3 fun Kw =>
 rI iK k3 4 fun Kx =>
 rB iK k3 5 fun t103 =>
 I8 iK k1 (iV Oe) (.bool t99) (iV Kv) (iV Kw) (iV Kx) (.bool t103) fun HF =>
 qd HF k1 0 fun Ky t111 Kz KA KB t115 =>
 K (.tuple #[(.agg #[(iV Ky), (.bool t111), (iV Kz), (iV KA), (iV KB), (.bool t115)]), (iV 5)]) HF))) :
 ae Try.prog 74 #[.pointer (some ⟨b0, o0, none⟩)] M K Kp := vw [(3000010, .cut []), (5, .bL [0, 0, 2, 6, 14, 0, 32, 96, 224, 510, 1023, 2047, 4095] (sy [0, 1, 2, 3, 5, 6, 4, 7, 8, 9, 10, 11, 12] .done))] Try.func74 h
theorem lB {b0 o0 : Nat} (h :
rB M b0 (o0 + 4) fun t1 =>
aX t1
 (K (.tuple #[(.slice none 0 0), (.slice none 0 0), (iV 10)]) M)
 (rS M b0 (o0 + 3) fun A2 k3 k4 =>
 rS M b0 (o0 + 2) fun A5 k6 k7 =>
 sT M b0 (o0 + 4) (.bool true) fun M8 =>
 sT M8 b0 (o0 + 3) (.slice none 0 0) fun M9 =>
 sT M9 b0 (o0 + 2) (.slice none 0 0) fun xp =>
 K (.tuple #[(.slice A2 k3 k4), (.slice A5 k6 k7), (iV 0)]) xp)) :
 ae Try.prog 78 #[.pointer (some ⟨b0, o0, none⟩)] M K Kp := vw [(3, .bL [0, 1, 3, 7, 0, 16, 48, 112, 15, 511] (sy [0, 1, 2, 4, 5, 6, 3, 8, 7, 9] .done))] Try.func78 h
theorem jy {b0 o0 : Nat} (h :
rB M b0 (o0 + 4) fun t1 =>
aX t1
 (K (.bool true) M)
 (rS M b0 (o0 + 2) fun A2 k3 k4 =>
 aX (decide ((k3 : Int) > 0))
 (K (.bool true) M)
 (rS M b0 (o0 + 1) fun A5 k6 k7 =>
 K (.bool (decide ((k6 : Int) > 0))) M))) :
 ae Try.prog 84 #[.pointer (some ⟨b0, o0, none⟩)] M K Kp := vw [] Try.func84 h
theorem jz {b0 o0 : Nat} (h :
rB M b0 (o0 + 4) fun t1 =>
aX t1
 (K (.bool true) M)
 (rS M b0 (o0 + 3) fun A2 k3 k4 =>
 aX (decide ((k3 : Int) > 0))
 (K (.bool true) M)
 (rS M b0 (o0 + 1) fun A5 k6 k7 =>
 rI M b0 o0 fun n8 =>
 K (.bool (decide ((k6 : Int) < n8))) M))) :
 ae Try.prog 85 #[.pointer (some ⟨b0, o0, none⟩)] M K Kp := vw [(1, .bL [0, 1, 3, 7, 15, 31, 63, 127, 255, 511, 1023, 2047, 4095, 8191, 16383, 32767, 65535, 131071, 8191, 270335, 794623, 1843199, 4194303, 8388607, 16777215] (sy [0, 1, 2, 3, 4, 5, 6, 7, 8, 9, 10, 11, 12, 13, 14, 15, 18, 19, 20, 16, 17, 21, 22, 23, 24] .done))] Try.func85 h
theorem qO {B0 : Option Addr} {m0 c0 : Nat} (h :
bq M gn fun k1 M2 =>
((0 : Int) ≤ 0) ∧
((0 : Int) < m0) ∧
aB B0 fun k3 k4 =>
((0 : Int) ≤ c0) ∧
((c0 : Int) ≤ c0) ∧
((0 : Int) ≤ m0) ∧
((m0 : Int) ≤ c0) ∧
((0 : Int) ≤ 1) ∧
((1 : Int) ≤ m0) ∧
j8 M2 k3 (k4 + 0) fun n5 n6 n7 =>
bq M2 (cl [] 120) fun k8 M9 =>
aW Try.prog (Go.Builtin.append_ #[47, 47] 47 #[(.slice (some ⟨k8, 0, none⟩) 0 0), (.slice (mW B0 1 (Int.toNat (c0 : Int)) 3) ((Int.toNat (m0 : Int)) - 1) ((Int.toNat (c0 : Int)) - 1))]) M9 (fun v10 oh =>
aE (some v10) fun Aa gJ mo =>
((Mem.gr oh ⟨k3, (k4 + 0), none⟩ 0 3) = some [(iV n5), (iV n6), (iV n7)]) ∧
Bh oh k1 (iV n5) (iV n6) (iV n7) fun qP =>
((Mem.gr qP ⟨k3, (k4 + 0), none⟩ 0 3) = some [(iV n5), (iV n6), (iV n7)]) ∧
j8 qP k1 0 fun m7 Bu jx =>
K (.tuple #[(.agg #[(iV m7), (iV Bu), (iV jx)]), (.slice Aa gJ mo)]) qP) Kp) :
 ae Try.prog 86 #[.slice B0 m0 c0] M K Kp := vw [(1, .bL [0, 1, 3, 0, 0, 16, 56, 127, 255] (sy [0, 1, 4, 5] (.lz 2 (sy [3, 6, 7, 8] .done))))] Try.func86 h
theorem mz {b0 o0 : Nat} {x1 : Int} (h :
rS M b0 (o0 + 2) fun A1 k2 k3 =>
(ae Try.prog 90 #[(.slice A1 k2 k3), (iV x1)] M (fun v4 M5 =>
 aE (some v4) fun A6 k7 k8 =>
 rS M5 b0 (o0 + 3) fun A9 fm dM =>
 ae Try.prog 90 #[(.slice A9 fm dM), (iV x1)] M5 (fun D3 m5 =>
 aE (some D3) fun vG mY fY =>
 sT m5 b0 (o0 + 2) (.slice A6 k7 k8) fun qP =>
 sT qP b0 (o0 + 3) (.slice vG mY fY) fun uL =>
 K (.tuple #[]) uL) Kp) Kp) ∧
(rS M b0 (o0 + 3) fun C5 oI uM =>
 ae Try.prog 90 #[(.slice A1 k2 k3), (iV x1)] M (fun C6 mw =>
 aE (some C6) fun Fh s9 rY =>
 ae Try.prog 90 #[(.slice C5 oI uM), (iV x1)] mw (fun HG Br =>
 aE (some HG) fun KC pT qQ =>
 sT Br b0 (o0 + 2) (.slice Fh s9 rY) fun m6 =>
 sT m6 b0 (o0 + 3) (.slice KC pT qQ) fun xu =>
 K (.tuple #[]) xu) Kp) Kp) ∧
True) :
 ae Try.prog 89 #[.pointer (some ⟨b0, o0, none⟩), .int .i64 x1] M K Kp := vw [(0, .bL [0, 0, 0, 4, 12, 28, 0, 124, 0, 256, 768, 1792, 0, 8188, 16381, 32765, 65533, 131071, 262143, 524287] (sy [0, 1, 2, 3, 4, 6, 8, 9, 10, 12, 5] (.fork 7 (sy [11, 13, 14, 15, 16, 17, 18, 19] .done) (.fork 11 (sy [7, 13, 14, 15, 16, 17, 18, 19] .done) .dead))))] Try.func89 h
theorem oJ {B0 : Option Addr} {m0 c0 : Nat} {x1 : Int} (h :
∃ I1 : IT, (∃ k2, I1 k2 [(.slice none 0 0), (iV 0)] M) ∧
∀ (k3 : Nat) (_ : Nat → Value) (A5 : Option Addr) (k6 : Nat) (k7 : Nat) (n8 : Int) (M9 : Mem), (I1 k3 [(.slice A5 k6 k7), (iV n8)] M9) → aX (decide (n8 < m0))
 ((0 ≤ n8) ∧
 (n8 < m0) ∧
 aB B0 fun fm dM =>
 j8 M9 fm (dM + ((Int.toNat n8) * 3)) fun kj kX rX =>
 bq M9 gn fun mY hJ =>
 Bh hJ mY (iV kj) (iV kX) (iV rX) fun kW =>
 rI kW mY 0 fun jx =>
 aX (jx != x1)
 (rI kW mY 0 fun r7 =>
 rI kW mY 1 fun xq =>
 rI kW mY 2 fun Bv =>
 bq kW (cl [(iV r7), (iV xq), (iV Bv)] 120) fun r8 Bw =>
 aA 47 A5 k6 k7 (some ⟨r8, 0, none⟩) 1 1 Bw (fun HH r9 =>
 aE (some HH) fun HI qf pT =>
 ∃ qQ : Nat, (qQ < k3) ∧
 I1 qQ [(.slice HI qf pT), (iV (IntKind.wrap .i64 (n8 + 1)))] r9) Kp)
 (∃ uN : Nat, (uN < k3) ∧
 I1 uN [(.slice A5 k6 k7), (iV (IntKind.wrap .i64 (n8 + 1)))] kW))
 (K (.slice A5 k6 k7) M9)) :
 ae Try.prog 90 #[.slice B0 m0 c0, .int .i64 x1] M K Kp := vw [(2000000, .loop [(5, .c .sl), (10, .c (.int .i64))])] Try.func90 h
end Go.Proofs
namespace Go.Proofs
open Go.AF
set_option maxRecDepth 100000
set_option maxHeartbeats 1000000
attribute [local irreducible] bG dz fN dU aE fL aB bW bq aW bD aX
theorem qR : bt Try.prog 46 2 1 8 [.int .i64 0] := bt.mk' (zv := .int .i64 0) (by kernel_rfl) (by kernel_rfl) rfl (by omega)
theorem qg : bt Try.prog 47 120 3 24 [.int .i64 0, .int .i64 0, .int .i64 0] := bt.mk' (zv := .agg #[.int .i64 0, .int .i64 0, .int .i64 0]) (by kernel_rfl) (by kernel_rfl) rfl (by omega)
abbrev oK (A : Option Addr) (c : Nat) (l : List Int) : HP := dm cI 2 A c l
abbrev nB (A : Option Addr) (c : Nat) (l : List Wt) : HP := dm fk 120 A c l
abbrev eJ (c : aC) (Ab : Option Addr) (cb : Nat) (As : Option Addr) (cs : Nat) (Ar : Option Addr) (cr : Nat) : List Value :=
 [.int .i64 (c.room : Int), .slice Ab c.buf.length cb, .slice As c.snd.length cs, .slice Ar c.cQ.length cr, .bool c.closed]
def aS : qI aC := ⟨fun b c => exs fun Ab : Option Addr => exs fun cb : Nat => exs fun As : Option Addr => exs fun cs : Nat => exs fun Ar : Option Addr => exs fun cr : Nat =>
 sep [pt b (eJ c Ab cb As cs Ar cr) 89, oK Ab cb c.buf, nB As cs c.snd, nB Ar cr c.cQ]⟩
section
variable {R : Mem} {L L' : List HP} {M : Mem} {K : Value → Mem → Prop} {Kp : List PanicEntry → Mem → Prop} {b : Nat} {c : aC}
theorem eK (h : Hp R L M) [o : dI aS b L c L'] : ∃ Ab cb As cs Ar cr, Hp R (pt b (eJ c Ab cb As cs Ar cr) 89 :: oK Ab cb c.buf :: nB As cs c.snd :: nB Ar cr c.cQ :: L') M := by
 have := h.obj aS b
 simpa only [aS, Hp.iT, Hp.bC, List.cons_append, List.nil_append] using this
theorem yC {Ab As Ar : Option Addr} {cb cs cr : Nat} (h : Hp R (pt b (eJ c Ab cb As cs Ar cr) 89 :: oK Ab cb c.buf :: nB As cs c.snd :: nB Ar cr c.cQ :: L) M) : Hp R (aM aS b c :: L) M := by
 refine Hp.Bg ?_
 simp only [aS, Hp.iT, Hp.bC, List.cons_append, List.nil_append]
 exact ⟨_, _, _, _, _, _, h⟩
theorem bS {Ab As Ar : Option Addr} {nb cb ns cs nr cr room : Nat} {closed : Bool} {buf : List Int} {snd cQ : List Wt} {L1 L2 L3 L4 : List HP} (h : Hp R L M) (b : Nat)
  [p : lA b L [.int .i64 (room : Int), .slice Ab nb cb, .slice As ns cs, .slice Ar nr cr, .bool closed] 89 L1] [p1 : bN Ab L1 Int cI 2 cb buf L2] [p2 : bN As L2 Wt fk 120 cs snd L3] [p3 : bN Ar L3 Wt fk 120 cr cQ L4]
  (e1 : nb = buf.length := by first | rfl | simp) (e2 : ns = snd.length := by first | rfl | simp) (e3 : nr = cQ.length := by first | rfl | simp) : Hp R (aM aS b ⟨room, buf, snd, cQ, closed⟩ :: L4) M := by
 subst e1; subst e2; subst e3
 exact yC (h.sub (.cons p.pick (.cons p1.pick (.cons p2.pick (.cons p3.pick .refl)))))
theorem tf {room : Int} (h : Hp R L M) (k : ∀ b M', Hp R (aM aS b (.new room) :: L) M' → K (.pointer (some ⟨b, 0, none⟩)) M') :
  ae Try.prog 23 #[.int .i64 room] M K Kp := by
 refine ud ?_
 rw [Bi]
 refine aj h fun b M' h => k b M' (yC ((((h.cE fk _).cE fk _).cE cI _).sub eX))
theorem pA {B : Option Addr} {m c : Nat} {w : Wt} {r : List Wt} (h : Hp R L M) (hB : Src R L B (fk.cells (w :: r))) (hm : m = r.length + 1) (hc : m ≤ c) (hn : m ≤ 1000000000)
  (k : ∀ A' c' M', Hp R (nB A' c' r :: L) M' → K (.tuple #[.agg #[.int .i64 w.g, .int .i64 w.cs, .int .i64 w.v], .slice A' r.length c']) M') :
  ae Try.prog 86 #[.slice B m c] M K Kp := by
 refine qO ?_
 obtain ⟨b, o, rfl⟩ := hB.l7 h (by simp) (by decide)
 repeat (first|(refine aj h ?_;clear h;intro kb M h)|(refine ak h ?_;clear h;intro M h)|refine St.to h ?_|(apply Exists.intro;(repeat apply Exists.intro);refine And.intro rfl ?_)|refine aq ?_|refine af ?_|refine ai ?_)
 refine bl (hB.cons.at h (i := 0) (j := 0) rfl rfl (by omega)) ?_
 refine bl (hB.cons.at h (i := 0) (j := 1) rfl rfl (by omega)) ?_
 refine bl (hB.cons.at h (i := 0) (j := 2) rfl rfl (by omega)) ?_
 repeat (first|(refine aj h ?_;clear h;intro kb M h)|(refine ak h ?_;clear h;intro M h)|refine St.to h ?_|(apply Exists.intro;(repeat apply Exists.intro);refine And.intro rfl ?_)|refine aq ?_|refine af ?_|refine ai ?_)
 have s2 := hB.drop (m := 1) (c := c) (by simp; omega)
 simp only [Int.toNat_natCast]
 refine h.nv fk qg r s2.cons.cons (by omega) (by omega) ?_
 clear h
 intro A' c' M h
 repeat (first|(refine aj h ?_;clear h;intro kb M h)|(refine ak h ?_;clear h;intro M h)|refine St.to h ?_|(apply Exists.intro;(repeat apply Exists.intro);refine And.intro rfl ?_)|refine aq ?_|refine af ?_|refine ai ?_)
 refine ⟨hB.cons.cons.gr h (i := 0) rfl (by omega), ?_⟩
 repeat (first|(refine aj h ?_;clear h;intro kb M h)|(refine ak h ?_;clear h;intro M h)|refine St.to h ?_|(apply Exists.intro;(repeat apply Exists.intro);refine And.intro rfl ?_)|refine aq ?_|refine af ?_|refine ai ?_)
 refine ⟨hB.cons.cons.gr h (i := 0) rfl (by omega), ?_⟩
 repeat (first|(refine aj h ?_;clear h;intro kb M h)|(refine ak h ?_;clear h;intro M h)|refine St.to h ?_|(apply Exists.intro;(repeat apply Exists.intro);refine And.intro rfl ?_)|refine aq ?_|refine af ?_|refine ai ?_)
 exact k _ _ _ h.qJ
theorem sg (h : Hp R L M) [o : dI aS b L c L'] (k : K (.bool c.nx) M) : ae Try.prog 85 #[.pointer (some ⟨b, 0, none⟩)] M K Kp := by
 refine jz ?_
 have h' := eK h (b := b)
 clear h
 obtain ⟨Ab, cb, As, cs, Ar, cr, h⟩ := h'
 repeat (first|(refine aj h ?_;clear h;intro kb M h)|(refine ak h ?_;clear h;intro M h)|refine St.to h ?_|(apply Exists.intro;(repeat apply Exists.intro);refine And.intro rfl ?_)|refine aq ?_|refine af ?_|refine ai ?_)
 refine dO.2 ⟨fun hc => ?_, fun hc => ?_⟩
 ·rwa [aC.nx, hc] at k
 ·repeat (first|(refine aj h ?_;clear h;intro kb M h)|(refine ak h ?_;clear h;intro M h)|refine St.to h ?_|(apply Exists.intro;(repeat apply Exists.intro);refine And.intro rfl ?_)|refine aq ?_|refine af ?_|refine ai ?_)
  refine aG.2 ⟨fun hr => ?_, fun hr => ?_⟩
  ·have : c.cQ.isEmpty = false := by cases hc : c.cQ <;> simp_all
   rwa [aC.nx, hc, this] at k
  ·repeat (first|(refine aj h ?_;clear h;intro kb M h)|(refine ak h ?_;clear h;intro M h)|refine St.to h ?_|(apply Exists.intro;(repeat apply Exists.intro);refine And.intro rfl ?_)|refine aq ?_|refine af ?_|refine ai ?_)
   have : c.cQ.isEmpty = true := by cases hc : c.cQ <;> simp_all
   rw [aC.nx, hc, this] at k
   simpa using k
theorem si (h : Hp R L M) [o : dI aS b L c L'] (k : K (.bool c.ny) M) : ae Try.prog 84 #[.pointer (some ⟨b, 0, none⟩)] M K Kp := by
 refine jy ?_
 have h' := eK h (b := b)
 clear h
 obtain ⟨Ab, cb, As, cs, Ar, cr, h⟩ := h'
 repeat (first|(refine aj h ?_;clear h;intro kb M h)|(refine ak h ?_;clear h;intro M h)|refine St.to h ?_|(apply Exists.intro;(repeat apply Exists.intro);refine And.intro rfl ?_)|refine aq ?_|refine af ?_|refine ai ?_)
 refine dO.2 ⟨fun hc => ?_, fun hc => ?_⟩
 ·rwa [aC.ny, hc] at k
 ·repeat (first|(refine aj h ?_;clear h;intro kb M h)|(refine ak h ?_;clear h;intro M h)|refine St.to h ?_|(apply Exists.intro;(repeat apply Exists.intro);refine And.intro rfl ?_)|refine aq ?_|refine af ?_|refine ai ?_)
  refine aG.2 ⟨fun hr => ?_, fun hr => ?_⟩
  ·have : c.snd.isEmpty = false := by cases hc : c.snd <;> simp_all
   rwa [aC.ny, hc, this] at k
  ·repeat (first|(refine aj h ?_;clear h;intro kb M h)|(refine ak h ?_;clear h;intro M h)|refine St.to h ?_|(apply Exists.intro;(repeat apply Exists.intro);refine And.intro rfl ?_)|refine aq ?_|refine af ?_|refine ai ?_)
   have : c.snd.isEmpty = true := by cases hc : c.snd <;> simp_all
   rw [aC.ny, hc, this] at k
   have e : (!c.buf.isEmpty) = decide ((c.buf.length : Int) > 0) := by cases c.buf <;> simp
   rw [← e]; simpa using k
theorem kn {w : Wt} (h : Hp R L M) [o : dI aS b L c L'] (hs : c.Small 1000000000) (k : ∀ M', Hp R (aM aS b { c with snd := c.snd ++ [w] } :: L') M' → K (.tuple #[]) M') :
  ae Try.prog 71 #[.pointer (some ⟨b, 0, none⟩), .agg #[.int .i64 w.g, .int .i64 w.cs, .int .i64 w.v]] M K Kp := by
 refine jb ?_
 have h' := eK h (b := b)
 clear h
 obtain ⟨Ab, cb, As, cs, Ar, cr, h⟩ := h'
 obtain ⟨h1, h2, h3⟩ := hs
 repeat (first|(refine aj h ?_;clear h;intro kb M h)|(refine ak h ?_;clear h;intro M h)|refine St.to h ?_|(apply Exists.intro;(repeat apply Exists.intro);refine And.intro rfl ?_)|refine aq ?_|refine af ?_|refine ai ?_)
 refine h.be qg [w] rfl rfl (by simp; omega) ?_
 clear h
 intro A' c' M h
 repeat (first|(refine aj h ?_;clear h;intro kb M h)|(refine ak h ?_;clear h;intro M h)|refine St.to h ?_|(apply Exists.intro;(repeat apply Exists.intro);refine And.intro rfl ?_)|refine aq ?_|refine af ?_|refine ai ?_)
 exact k _ (bS h b).bB
theorem ko {w : Wt} (h : Hp R L M) [o : dI aS b L c L'] (hs : c.Small 1000000000) (k : ∀ M', Hp R (aM aS b { c with cQ := c.cQ ++ [w] } :: L') M' → K (.tuple #[]) M') :
  ae Try.prog 70 #[.pointer (some ⟨b, 0, none⟩), .agg #[.int .i64 w.g, .int .i64 w.cs, .int .i64 w.v]] M K Kp := by
 refine ja ?_
 have h' := eK h (b := b)
 clear h
 obtain ⟨Ab, cb, As, cs, Ar, cr, h⟩ := h'
 obtain ⟨h1, h2, h3⟩ := hs
 repeat (first|(refine aj h ?_;clear h;intro kb M h)|(refine ak h ?_;clear h;intro M h)|refine St.to h ?_|(apply Exists.intro;(repeat apply Exists.intro);refine And.intro rfl ?_)|refine aq ?_|refine af ?_|refine ai ?_)
 refine h.be qg [w] rfl rfl (by simp; omega) ?_
 clear h
 intro A' c' M h
 repeat (first|(refine aj h ?_;clear h;intro kb M h)|(refine ak h ?_;clear h;intro M h)|refine St.to h ?_|(apply Exists.intro;(repeat apply Exists.intro);refine And.intro rfl ?_)|refine aq ?_|refine af ?_|refine ai ?_)
 exact k _ (bS h b).bB
def Ec (x : Wt × Bool × Int) : Value := .tuple #[.agg #[.int .i64 x.1.g, .int .i64 x.1.cs, .int .i64 x.1.v], .bool x.2.1, .int .i64 x.2.2]
theorem xw {v : Int} (h : Hp R L M) [o : dI aS b L c L'] (hs : c.Small 1000000000) (k : ∀ M', Hp R (aM aS b (c.send v).1 :: L') M' → K (Ec (c.send v).2) M') :
  ae Try.prog 72 #[.pointer (some ⟨b, 0, none⟩), .int .i64 v] M K Kp := by
 refine mq ?_
 obtain ⟨room, buf, snd, cQ, closed⟩ := c
 obtain ⟨h1, h2, h3⟩ := hs
 have h' := eK h (b := b)
 clear h
 obtain ⟨Ab, cb, As, cs, Ar, cr, h⟩ := h'
 dsimp only [eJ] at h1 h2 h3 h
 repeat (first|(refine aj h ?_;clear h;intro kb M h)|(refine ak h ?_;clear h;intro M h)|refine St.to h ?_|(apply Exists.intro;(repeat apply Exists.intro);refine And.intro rfl ?_)|refine aq ?_|refine af ?_|refine ai ?_)
 refine dO.2 ⟨fun hc => ?_, fun hc => ?_⟩
 ·subst hc
  repeat (first|(refine aj h ?_;clear h;intro kb M h)|(refine ak h ?_;clear h;intro M h)|refine St.to h ?_|(apply Exists.intro;(repeat apply Exists.intro);refine And.intro rfl ?_)|refine aq ?_|refine af ?_|refine ai ?_)
  exact k _ (bS h b).bB
 subst hc
 repeat (first|(refine aj h ?_;clear h;intro kb M h)|(refine ak h ?_;clear h;intro M h)|refine St.to h ?_|(apply Exists.intro;(repeat apply Exists.intro);refine And.intro rfl ?_)|refine aq ?_|refine af ?_|refine ai ?_)
 refine aG.2 ⟨fun hr => ?_, fun hr => ?_⟩
 ·cases cQ with
  | nil => simp at hr
  | cons w r =>
   repeat (first|(refine aj h ?_;clear h;intro kb M h)|(refine ak h ?_;clear h;intro M h)|refine St.to h ?_|(apply Exists.intro;(repeat apply Exists.intro);refine And.intro rfl ?_)|refine aq ?_|refine af ?_|refine ai ?_)
   refine pA h (h.src (A := Ar)) rfl (h.j7 Ar) (by simpa using h3) ?_
   clear h
   intro A' c' M h
   repeat (first|(refine aj h ?_;clear h;intro kb M h)|(refine ak h ?_;clear h;intro M h)|refine St.to h ?_|(apply Exists.intro;(repeat apply Exists.intro);refine And.intro rfl ?_)|refine aq ?_|refine af ?_|refine ai ?_)
   exact k _ (bS h b).bB
 cases cQ with
 | cons w r => simp at hr
 | nil =>
 simp only [aC.send, Bool.false_eq_true, if_false] at k
 repeat (first|(refine aj h ?_;clear h;intro kb M h)|(refine ak h ?_;clear h;intro M h)|refine St.to h ?_|(apply Exists.intro;(repeat apply Exists.intro);refine And.intro rfl ?_)|refine aq ?_|refine af ?_|refine ai ?_)
 refine aG.2 ⟨fun hl => ?_, fun hl => ?_⟩
 ·rw [if_pos (by omega)] at k
  repeat (first|(refine aj h ?_;clear h;intro kb M h)|(refine ak h ?_;clear h;intro M h)|refine St.to h ?_|(apply Exists.intro;(repeat apply Exists.intro);refine And.intro rfl ?_)|refine aq ?_|refine af ?_|refine ai ?_)
  refine h.be qR [v] rfl rfl (by simp; omega) ?_
  clear h
  intro A' c' M h
  repeat (first|(refine aj h ?_;clear h;intro kb M h)|(refine ak h ?_;clear h;intro M h)|refine St.to h ?_|(apply Exists.intro;(repeat apply Exists.intro);refine And.intro rfl ?_)|refine aq ?_|refine af ?_|refine ai ?_)
  exact k _ (bS h b).bB
 ·rw [if_neg (by omega)] at k
  repeat (first|(refine aj h ?_;clear h;intro kb M h)|(refine ak h ?_;clear h;intro M h)|refine St.to h ?_|(apply Exists.intro;(repeat apply Exists.intro);refine And.intro rfl ?_)|refine aq ?_|refine af ?_|refine ai ?_)
  exact k _ (bS h b).bB
def Ed (x : Int × Bool × Wt × Bool × Int) : Value := .tuple #[.agg #[.int .i64 x.1, .bool x.2.1, .int .i64 x.2.2.1.g, .int .i64 x.2.2.1.cs, .int .i64 x.2.2.1.v, .bool x.2.2.2.1], .int .i64 x.2.2.2.2]
theorem xx (h : Hp R L M) [o : dI aS b L c L'] (hs : c.Small 1000000000) (k : ∀ M', Hp R (aM aS b c.recv.1 :: L') M' → K (Ed c.recv.2) M') :
  ae Try.prog 74 #[.pointer (some ⟨b, 0, none⟩)] M K Kp := by
 refine mu ?_
 obtain ⟨room, buf, snd, cQ, closed⟩ := c
 obtain ⟨h1, h2, h3⟩ := hs
 have h' := eK h (b := b)
 clear h
 obtain ⟨Ab, cb, As, cs, Ar, cr, h⟩ := h'
 dsimp only [eJ] at h1 h2 h3 h
 refine aj h ?_
 clear h
 intro kr M h
 refine aj h ?_
 clear h
 intro kg M h
 repeat (first|(refine aj h ?_;clear h;intro kb M h)|(refine ak h ?_;clear h;intro M h)|refine St.to h ?_|(apply Exists.intro;(repeat apply Exists.intro);refine And.intro rfl ?_)|refine aq ?_|refine af ?_|refine ai ?_)
 refine ⟨fun vs M => vs = [] ∧ ∃ Ab cb As cs, Hp R (pt kr [.int .i64 0, .bool false, .int .i64 0, .int .i64 0, .int .i64 0, .bool false] 126 ::
  pt kg [.int .i64 0, .bool false, .int .i64 (snd.headD .zero).g, .int .i64 (snd.headD .zero).cs, .int .i64 (snd.headD .zero).v, .bool (!snd.isEmpty)] 126 ::
  pt b (eJ ⟨room, aC.all ⟨room, buf, snd, cQ, closed⟩, snd.tail, cQ, closed⟩ Ab cb As cs Ar cr) 89 :: oK Ab cb (aC.all ⟨room, buf, snd, cQ, closed⟩) :: nB As cs snd.tail :: nB Ar cr cQ :: L') M, ?_, ?_⟩
 ·refine aG.2 ⟨fun hr => ?_, fun hr => ?_⟩
  ·cases snd with
   | nil => simp at hr
   | cons w r =>
    repeat (first|(refine aj h ?_;clear h;intro kb M h)|(refine ak h ?_;clear h;intro M h)|refine St.to h ?_|(apply Exists.intro;(repeat apply Exists.intro);refine And.intro rfl ?_)|refine aq ?_|refine af ?_|refine ai ?_)
    refine pA h (h.src (A := As)) rfl (h.j7 As) (by simpa using h2) ?_
    clear h
    intro A' c' M h
    repeat (first|(refine aj h ?_;clear h;intro kb M h)|(refine ak h ?_;clear h;intro M h)|refine St.to h ?_|(apply Exists.intro;(repeat apply Exists.intro);refine And.intro rfl ?_)|refine aq ?_|refine af ?_|refine ai ?_)
    refine h.be qR [w.v] rfl rfl (by simp; omega) ?_
    clear h
    intro A2 c2 M h
    repeat (first|(refine aj h ?_;clear h;intro kb M h)|(refine ak h ?_;clear h;intro M h)|refine St.to h ?_|(apply Exists.intro;(repeat apply Exists.intro);refine And.intro rfl ?_)|refine aq ?_|refine af ?_|refine ai ?_)
    exact ⟨A2, c2, A', c', h.sub eX⟩
  ·cases snd with
   | cons w r => simp at hr
   | nil => exact ⟨rfl, Ab, cb, As, cs, h.sub eX⟩
 clear h
 rintro _ M ⟨_, Ab, cb, As, cs, h⟩
 unfold aC.recv at k
 dsimp only at k
 have dW : (aC.all ⟨room, buf, snd, cQ, closed⟩).length ≤ 1000000001 := by unfold aC.all; split <;> simp <;> omega
 have CO : aC.all ⟨room, buf, snd, cQ, closed⟩ = [] → snd = [] ∧ buf = [] := by unfold aC.all; dsimp only; cases snd <;> simp
 generalize aC.all ⟨room, buf, snd, cQ, closed⟩ = all at h k dW CO
 dsimp only [eJ] at h
 repeat (first|(refine aj h ?_;clear h;intro kb M h)|(refine ak h ?_;clear h;intro M h)|refine St.to h ?_|(apply Exists.intro;(repeat apply Exists.intro);refine And.intro rfl ?_)|refine aq ?_|refine af ?_|refine ai ?_)
 refine aG.2 ⟨fun hr => ?_, fun hr => ?_⟩
 ·cases all with
  | nil => simp at hr
  | cons v l =>
   dsimp only at k
   repeat (first|(refine aj h ?_;clear h;intro kb M h)|(refine ak h ?_;clear h;intro M h)|refine St.to h ?_|(apply Exists.intro;(repeat apply Exists.intro);refine And.intro rfl ?_)|refine aq ?_|refine af ?_|refine ai ?_)
   obtain ⟨x, rfl⟩ := h.bO (A := Ab) (by simp) (by decide)
   repeat (first|(refine aj h ?_;clear h;intro kb M h)|(refine ak h ?_;clear h;intro M h)|refine St.to h ?_|(apply Exists.intro;(repeat apply Exists.intro);refine And.intro rfl ?_)|refine aq ?_|refine af ?_|refine ai ?_)
   refine bl ((h.src (A := some ⟨x, 0, none⟩)).at h (i := 0) (j := 0) rfl rfl (by omega)) ?_
   have hcap := h.j7 (some ⟨x, 0, none⟩)
   have hlen : l.length + 1 ≤ 1000000001 := by simpa using dW
   repeat (first|(refine aj h ?_;clear h;intro kb M h)|(refine ak h ?_;clear h;intro M h)|refine St.to h ?_|(apply Exists.intro;(repeat apply Exists.intro);refine And.intro rfl ?_)|refine aq ?_|refine af ?_|refine ai ?_)
   simp only [Int.toNat_natCast]
   refine h.nv cI qR l ((h.src (A := some ⟨x, 0, none⟩)).drop (m := 1) hcap) (by simp) (by omega) ?_
   clear h
   intro A' c' M h
   repeat (first|(refine aj h ?_;clear h;intro kb M h)|(refine ak h ?_;clear h;intro M h)|refine St.to h ?_|(apply Exists.intro;(repeat apply Exists.intro);refine And.intro rfl ?_)|refine aq ?_|refine af ?_|refine ai ?_)
   exact k _ (bS h b).bB
 ·cases all with
  | cons v l => simp at hr
  | nil =>
  obtain ⟨rfl, rfl⟩ := CO rfl
  repeat (first|(refine aj h ?_;clear h;intro kb M h)|(refine ak h ?_;clear h;intro M h)|refine St.to h ?_|(apply Exists.intro;(repeat apply Exists.intro);refine And.intro rfl ?_)|refine aq ?_|refine af ?_|refine ai ?_)
  refine dO.2 ⟨fun hc => ?_, fun hc => ?_⟩
  ·subst hc
   repeat (first|(refine aj h ?_;clear h;intro kb M h)|(refine ak h ?_;clear h;intro M h)|refine St.to h ?_|(apply Exists.intro;(repeat apply Exists.intro);refine And.intro rfl ?_)|refine aq ?_|refine af ?_|refine ai ?_)
   exact k _ (bS h b).bB
  ·subst hc
   repeat (first|(refine aj h ?_;clear h;intro kb M h)|(refine ak h ?_;clear h;intro M h)|refine St.to h ?_|(apply Exists.intro;(repeat apply Exists.intro);refine And.intro rfl ?_)|refine aq ?_|refine af ?_|refine ai ?_)
   exact k _ (bS h b).bB
theorem vH (h : Hp R L M) [o : dI aS b L c L']
  (k : ∀ A ca B cb M', Hp R (aM aS b c.close.1 :: nB B cb c.close.2.2.1 :: nB A ca c.close.2.1 :: L') M' → K (.tuple #[.slice A c.close.2.1.length ca, .slice B c.close.2.2.1.length cb, .int .i64 c.close.2.2.2]) M') :
  ae Try.prog 78 #[.pointer (some ⟨b, 0, none⟩)] M K Kp := by
 refine lB ?_
 obtain ⟨room, buf, snd, cQ, closed⟩ := c
 have h' := eK h (b := b)
 clear h
 obtain ⟨Ab, cb, As, cs, Ar, cr, h⟩ := h'
 dsimp only [eJ] at h
 repeat (first|(refine aj h ?_;clear h;intro kb M h)|(refine ak h ?_;clear h;intro M h)|refine St.to h ?_|(apply Exists.intro;(repeat apply Exists.intro);refine And.intro rfl ?_)|refine aq ?_|refine af ?_|refine ai ?_)
 refine dO.2 ⟨fun hc => ?_, fun hc => ?_⟩
 ·subst hc
  have h := bS ((h.cE fk 120).cE fk 120) b
  exact k none 0 none 0 _ h
 ·subst hc
  repeat (first|(refine aj h ?_;clear h;intro kb M h)|(refine ak h ?_;clear h;intro M h)|refine St.to h ?_|(apply Exists.intro;(repeat apply Exists.intro);refine And.intro rfl ?_)|refine aq ?_|refine af ?_|refine ai ?_)
  have h := (h.cE fk 120).cE fk 120
  exact k _ _ _ _ _ ((bS h b).sub eX)
theorem fC {B : Option Addr} {n cc : Nat} {g : Int} {l : List Wt} (h : Hp R L M) (hB : Src R L B (fk.cells l)) (hn : n = l.length) (hs : l.length ≤ 1000000000)
  (k : ∀ A' c' M', Hp R (nB A' c' (wo g l) :: L) M' → K (.slice A' (wo g l).length c') M') :
  ae Try.prog 90 #[.slice B n cc, .int .i64 g] M K Kp := by
 subst hn
 refine oJ ⟨fun d vs M => ∃ i A c, vs = [.slice A (wo g (l.take i)).length c, .int .i64 (i : Int)] ∧ d = l.length - i ∧ i ≤ l.length ∧ Hp R (nB A c (wo g (l.take i)) :: L) M,
  ⟨_, 0, none, 0, rfl, rfl, by omega, h.cE _ _⟩, ?_⟩
 clear h
 rintro d _ A n c' ii M ⟨i, _, _, he, hd, hi, h⟩
 simp only [List.cons.injEq, Value.slice.injEq, Value.int.injEq, and_true, true_and] at he
 obtain ⟨⟨rfl, rfl, rfl⟩, rfl⟩ := he
 refine aG.2 ⟨fun hlt => ?_, fun hge => ?_⟩
 ·obtain ⟨w, hw⟩ := aP (l := l) (i := i) (by omega)
  obtain ⟨b, o, rfl⟩ := hB.cons.l7 h (by omega) (by decide)
  have e1 : IntKind.wrap .i64 ((i : Int) + 1) = ((i + 1 : Nat) : Int) := bk (by omega)
  have hl := xn g (l.take i)
  have jA := List.length_take_le i l
  rw [e1]
  repeat (first|(refine aj h ?_;clear h;intro kb M h)|(refine ak h ?_;clear h;intro M h)|refine St.to h ?_|(apply Exists.intro;(repeat apply Exists.intro);refine And.intro rfl ?_)|refine aq ?_|refine af ?_|refine ai ?_)
  refine bl (hB.cons.at h (j := 0) hw rfl (by simp [fk])) ?_
  refine bl (hB.cons.at h (j := 1) hw rfl (by simp [fk]; omega)) ?_
  refine bl (hB.cons.at h (j := 2) hw rfl (by simp [fk]; omega)) ?_
  repeat (first|(refine aj h ?_;clear h;intro kb M h)|(refine ak h ?_;clear h;intro M h)|refine St.to h ?_|(apply Exists.intro;(repeat apply Exists.intro);refine And.intro rfl ?_)|refine aq ?_|refine af ?_|refine ai ?_)
  refine fA.2 ⟨fun hne => ?_, fun heq => ?_⟩
  ·have e2 : wo g (l.take (i + 1)) = wo g (l.take i) ++ [w] := by rw [gm hw, Bk]; simp [wo, hne]
   repeat (first|(refine aj h ?_;clear h;intro kb M h)|(refine ak h ?_;clear h;intro M h)|refine St.to h ?_|(apply Exists.intro;(repeat apply Exists.intro);refine And.intro rfl ?_)|refine aq ?_|refine af ?_|refine ai ?_)
   refine h.be qg [w] rfl rfl (by simp; omega) ?_
   clear h
   intro A' c' M h
   repeat (first|(refine aj h ?_;clear h;intro kb M h)|(refine ak h ?_;clear h;intro M h)|refine St.to h ?_|(apply Exists.intro;(repeat apply Exists.intro);refine And.intro rfl ?_)|refine aq ?_|refine af ?_|refine ai ?_)
   exact ⟨l.length - (i + 1), by omega, i + 1, A', c', by rw [e2], rfl, by omega, by rw [e2]; exact h.bB⟩
  ·have e2 : wo g (l.take (i + 1)) = wo g (l.take i) := by rw [gm hw, Bk]; simp [wo, heq]
   exact ⟨l.length - (i + 1), by omega, i + 1, A, c', by rw [e2], rfl, by omega, by rw [e2]; exact h.qJ⟩
 ·have : i = l.length := by omega
  subst this
  rw [List.take_length] at h ⊢
  exact k _ _ _ h
theorem xy {g : Int} (h : Hp R L M) [o : dI aS b L c L'] (hs : c.Small 1000000000) (k : ∀ M', Hp R (aM aS b (c.drop g) :: L') M' → K (.tuple #[]) M') :
  ae Try.prog 89 #[.pointer (some ⟨b, 0, none⟩), .int .i64 g] M K Kp := by
 refine mz ?_
 have h' := eK h (b := b)
 clear h
 obtain ⟨Ab, cb, As, cs, Ar, cr, h⟩ := h'
 obtain ⟨h1, h2, h3⟩ := hs
 repeat (first|(refine aj h ?_;clear h;intro kb M h)|(refine ak h ?_;clear h;intro M h)|refine St.to h ?_|(apply Exists.intro;(repeat apply Exists.intro);refine And.intro rfl ?_)|refine aq ?_|refine af ?_|refine ai ?_)
 refine ⟨?_, ?_, trivial⟩
 ·refine fC h (h.src (A := As)) rfl h2 ?_
  clear h
  intro A' c' M h
  repeat (first|(refine aj h ?_;clear h;intro kb M h)|(refine ak h ?_;clear h;intro M h)|refine St.to h ?_|(apply Exists.intro;(repeat apply Exists.intro);refine And.intro rfl ?_)|refine aq ?_|refine af ?_|refine ai ?_)
  refine fC h (h.src (A := Ar)) rfl h3 ?_
  clear h
  intro B' d' M h
  repeat (first|(refine aj h ?_;clear h;intro kb M h)|(refine ak h ?_;clear h;intro M h)|refine St.to h ?_|(apply Exists.intro;(repeat apply Exists.intro);refine And.intro rfl ?_)|refine aq ?_|refine af ?_|refine ai ?_)
  exact k _ (bS h b).bB
 ·repeat (first|(refine aj h ?_;clear h;intro kb M h)|(refine ak h ?_;clear h;intro M h)|refine St.to h ?_|(apply Exists.intro;(repeat apply Exists.intro);refine And.intro rfl ?_)|refine aq ?_|refine af ?_|refine ai ?_)
  refine fC h (h.src (A := As)) rfl h2 ?_
  clear h
  intro A' c' M h
  repeat (first|(refine aj h ?_;clear h;intro kb M h)|(refine ak h ?_;clear h;intro M h)|refine St.to h ?_|(apply Exists.intro;(repeat apply Exists.intro);refine And.intro rfl ?_)|refine aq ?_|refine af ?_|refine ai ?_)
  refine fC h (h.src (A := Ar)) rfl h3 ?_
  clear h
  intro B' d' M h
  repeat (first|(refine aj h ?_;clear h;intro kb M h)|(refine ak h ?_;clear h;intro M h)|refine St.to h ?_|(apply Exists.intro;(repeat apply Exists.intro);refine And.intro rfl ?_)|refine aq ?_|refine af ?_|refine ai ?_)
  exact k _ (bS h b).bB
end
end Go.Proofs
namespace Go.AF
theorem yD {α β γ : Type} {f : α → β → γ} : ∀ {l : List α} {m : List β} {i : Nat} {a : α} {b : β}, l[i]? = some a → (List.zipWith f l m).set i (f a b) = List.zipWith f l (m.set i b)
 | [], _, _, _, _, h => by simp at h
 | x :: l, [], i, a, b, h => by simp
 | x :: l, y :: m, 0, a, b, h => by simp at h; subst h; rfl
 | x :: l, y :: m, i + 1, a, b, h => by
  have := yD (f := f) (m := m) (b := b) (show l[i]? = some a from by simpa using h)
  simp [this]
theorem Bx {α β γ : Type} {f : α → β → γ} : ∀ {l : List α} {m : List β} {i : Nat} {a : α} {b : β}, l[i]? = some a → m[i]? = some b → (List.zipWith f l m)[i]? = some (f a b)
 | [], _, _, _, _, h, _ => by simp at h
 | x :: l, [], i, a, b, h, g => by simp at g
 | x :: l, y :: m, 0, a, b, h, g => by simp at h g; subst h; subst g; rfl
 | x :: l, y :: m, i + 1, a, b, h, g => by simpa using Bx (f := f) (show l[i]? = some a from by simpa using h) (show m[i]? = some b from by simpa using g)
theorem cu.HJ {P : HP} {L : List HP} : ∀ (l : List HP), cu (l ++ P :: L) P (l ++ L)
 | [] => .here
 | Q :: l => .there (cu.HJ l)
section
variable {α : Type} {r : qI α} {R : Mem} {L L' vA : List HP} {M : Mem} {bs : List Nat} {cs : List α} {b i : Nat} {c : α}
def bn (r : qI α) (bs : List Nat) (cs : List α) : HP := sep (List.zipWith (aM r) bs cs)
def pB (r : qI α) (bs : List Nat) (cs : List α) (i : Nat) : HP := sep ((List.zipWith (aM r) bs cs).eraseIdx i)
class dZ (r : qI α) (L : List HP) (bs : outParam (List Nat)) (cs : outParam (List α)) (L' : outParam (List HP)) : Prop where
 pick : cu L (bn r bs cs) L'
instance dZ.here : dZ r (bn r bs cs :: L) bs cs L := ⟨.here⟩
instance (priority := low) dZ.there {P : HP} [h : dZ r L bs cs L'] : dZ r (P :: L) bs cs (P :: L') := ⟨.there h.pick⟩
class pC (r : qI α) (L : List HP) (bs : outParam (List Nat)) (cs : outParam (List α)) (i : outParam Nat) (L' : outParam (List HP)) : Prop where
 pick : cu L (pB r bs cs i) L'
instance pC.here : pC r (pB r bs cs i :: L) bs cs i L := ⟨.here⟩
instance (priority := low) pC.there {P : HP} [h : pC r L bs cs i L'] : pC r (P :: L) bs cs i (P :: L') := ⟨.there h.pick⟩
theorem Hp.jc (h : Hp R L M) (r : qI α) {bs : List Nat} {cs : List α} [o : dZ r L bs cs L'] : Hp R (bn r bs cs :: L') M := h.pick o.pick
theorem Hp.qS (h : Hp R L M) (r : qI α) : Hp R (bn r [] [] :: L) M := Hp.bC.2 h
theorem Hp.cZ (h : Hp R L M) (r : qI α) {bs : List Nat} {cs : List α} [o : dZ r L bs cs L'] (hb : bs[i]? = some b) (hc : cs[i]? = some c) : Hp R (aM r b c :: pB r bs cs i :: L') M :=
 (h.pick o.pick).focus (Bx hb hc)
theorem Hp.dw (h : Hp R L M) (r : qI α) (b : Nat) {bs : List Nat} {cs : List α} {i : Nat} {c : α} [o : dI r b L c L'] [x : pC r L' bs cs i vA] (hb : bs[i]? = some b) (hc : i < cs.length) : Hp R (bn r bs (cs.set i c) :: vA) M := by
 have h1 : Hp R (aM r b c :: pB r bs cs i :: vA) M := (h.pick o.pick).map fun _ hs => hs.tail (fun _ => bF.pick x.pick)
 have h2 := Hp.CY (ls := List.zipWith (aM r) bs cs) h1 (by rw [List.length_zipWith]; have := (List.getElem?_eq_some_iff.1 hb).1; omega)
 rw [yD hb] at h2
 exact h2
theorem Hp.oL (h : Hp R L M) (r : qI α) (b : Nat) {bs : List Nat} {cs : List α} {i : Nat} {c : α} [o : dI r b L c L'] [x : pC r L' bs cs i vA] (hb : bs[i]? = some b) (hc : cs[i]? = some c) : Hp R (bn r bs cs :: vA) M := by
 have := h.dw r b hb (List.getElem?_eq_some_iff.1 hc).1
 obtain ⟨hi, rfl⟩ := List.getElem?_eq_some_iff.1 hc
 rwa [List.set_getElem_self] at this
theorem Hp.kY (h : Hp R L M) (r : qI α) (b : Nat) {bs : List Nat} {cs : List α} {c : α} [o : dI r b L c L'] [x : dZ r L' bs cs vA] (hl : bs.length = cs.length) : Hp R (bn r (bs ++ [b]) (cs ++ [c]) :: vA) M := by
 have h1 : Hp R (aM r b c :: bn r bs cs :: vA) M := (h.pick o.pick).map fun _ hs => hs.tail (fun _ => bF.pick x.pick)
 refine Hp.bC.2 ?_
 rw [List.zipWith_append hl, List.append_assoc]
 refine Hp.oD (P := aM r b c) ?_ (cu.HJ _)
 exact h1.map fun _ hs => hs.tail fun _ hb => bF.bC.1 hb
end
end Go.AF
namespace Go.Proofs
open Go.AF
set_option maxRecDepth 100000
variable {M : Mem} {K : Value → Mem → Prop} {Kp : List PanicEntry → Mem → Prop}
theorem oM {B0 : Option Addr} {m0 c0 : Nat} {B1 : Option Addr} {m1 c1 : Nat} (h :
∃ I1 : IT, (∃ k2, I1 k2 [(.slice none 0 0), (iV 0)] M) ∧
∀ (k3 : Nat) (_ : Nat → Value) (A5 : Option Addr) (k6 : Nat) (k7 : Nat) (n8 : Int) (M9 : Mem), (I1 k3 [(.slice A5 k6 k7), (iV n8)] M9) → aX (decide (n8 < m0))
 ((0 ≤ n8) ∧
 (n8 < m0) ∧
 aB B0 fun fm dM =>
 j8 M9 fm (dM + ((Int.toNat n8) * 3)) fun kj kX rX =>
 bq M9 nw fun mY hJ =>
 Bh hJ mY (iV kj) (iV kX) (iV rX) fun kW =>
 j8 kW mY 0 fun jx r7 xq =>
 ae Try.prog 69 #[(.agg #[(iV jx), (iV r7), (iV xq)]), (.slice B1 m1 c1)] kW (fun KD my =>
 dz (some KD) fun t25 =>
 aX t25
 (bq my (cl [(iV n8)] 3) fun rY r9 =>
 aA 25 A5 k6 k7 (some ⟨rY, 0, none⟩) 1 1 r9 (fun By ta =>
 aE (some By) fun Fi qQ uN =>
 ∃ qT : Nat, (qT < k3) ∧
 I1 qT [(.slice Fi qQ uN), (iV (IntKind.wrap .i64 (n8 + 1)))] ta) Kp)
 (∃ z9 : Nat, (z9 < k3) ∧
 I1 z9 [(.slice A5 k6 k7), (iV (IntKind.wrap .i64 (n8 + 1)))] my)) Kp)
 (K (.slice A5 k6 k7) M9)) :
 ae Try.prog 39 #[.slice B0 m0 c0, .slice B1 m1 c1] M K Kp := vw [(2000000, .loop [(5, .c .sl), (10, .c (.int .i64))])] Try.func39 h
theorem sj {B0 : Option Addr} {m0 c0 : Nat} (h :
∃ I1 : IT, (∃ k2, I1 k2 [(iV 0)] M) ∧
∀ (k3 : Nat) (_ : Nat → Value) (n5 : Int) (M6 : Mem), (I1 k3 [(iV n5)] M6) → aX (decide (n5 < m0))
 ((0 ≤ n5) ∧
 (n5 < m0) ∧
 aB B0 fun k7 k8 =>
 j8 M6 k7 (k8 + ((Int.toNat n5) * 3)) fun n9 qU uf =>
 bq M6 nw fun iJ m5 =>
 Bh m5 iJ (iV n9) (iV qU) (iV uf) fun hJ =>
 rI hJ iJ 0 fun tg =>
 aX (tg == 2)
 (K (.tuple #[(iV n5), (.bool true)]) hJ)
 (∃ iw : Nat, (iw < k3) ∧
 I1 iw [(iV (IntKind.wrap .i64 (n5 + 1)))] hJ))
 (K (.tuple #[(iV 0), (.bool false)]) M6)) :
 ae Try.prog 40 #[.slice B0 m0 c0] M K Kp := vw [(2000000, .loop [(8, .c (.int .i64))])] Try.func40 h
theorem sk {x0 : Int} {B1 : Option Addr} {m1 c1 : Nat} {B2 : Option Addr} {m2 c2 : Nat} {B3 : Option Addr} {m3 c3 : Nat} (h :
∃ I1 : IT, (∃ k2, I1 k2 [(iV 0)] M) ∧
∀ (k3 : Nat) (_ : Nat → Value) (n5 : Int) (M6 : Mem), (I1 k3 [(iV n5)] M6) → aX (decide (n5 < m1))
 ((0 ≤ n5) ∧
 (n5 < m1) ∧
 aB B1 fun k7 k8 =>
 j8 M6 k7 (k8 + ((Int.toNat n5) * 3)) fun n9 qU uf =>
 bq M6 nw fun iJ m5 =>
 Bh m5 iJ (iV n9) (iV qU) (iV uf) fun hJ =>
 rI hJ iJ 0 fun tg =>
 aX (tg == 0)
 (rI hJ iJ 1 fun m7 =>
 (0 ≤ m7) ∧
 (m7 < m3) ∧
 aB B3 fun oe oI =>
 rP hJ oe (oI + (Int.toNat m7)) fun C7 =>
 ae Try.prog 70 #[(.pointer C7), (.agg #[(iV x0), (iV n5), (iV 0)])] hJ (fun C6 mw =>
 (C6 = (.tuple #[])) ∧
 ∃ r8 : Nat, (r8 < k3) ∧
 I1 r8 [(iV (IntKind.wrap .i64 (n5 + 1)))] mw) Kp)
 (aX (tg == 1)
 (rI hJ iJ 1 fun ug =>
 (0 ≤ ug) ∧
 (ug < m3) ∧
 aB B3 fun rY D8 =>
 rP hJ rY (D8 + (Int.toNat ug)) fun HI =>
 rI hJ iJ 2 fun Ad =>
 (0 ≤ Ad) ∧
 (Ad < m2) ∧
 aB B2 fun pT qQ =>
 rI hJ pT (qQ + (Int.toNat Ad)) fun n32 =>
 ae Try.prog 71 #[(.pointer HI), (.agg #[(iV x0), (iV n5), (iV n32)])] hJ (fun KE om =>
 (KE = (.tuple #[])) ∧
 ∃ og : Nat, (og < k3) ∧
 I1 og [(iV (IntKind.wrap .i64 (n5 + 1)))] om) Kp)
 (∃ Fj : Nat, (Fj < k3) ∧
 I1 Fj [(iV (IntKind.wrap .i64 (n5 + 1)))] hJ)))
 (K (.tuple #[]) M6)) :
 ae Try.prog 41 #[.int .i64 x0, .slice B1 m1 c1, .slice B2 m2 c2, .slice B3 m3 c3] M K Kp := vw [(2000000, .loop [(12, .c (.int .i64))]), (7, .bL [0, 0, 2, 7, 15, 0, 0, 0, 0, 256, 896, 1920, 4064, 8191] (sy [0, 1, 5, 6, 7, 8, 2, 3, 4, 9, 10, 11, 12, 13] .done))] Try.func41 h
theorem nC {Bz : Int} {BA : Int} {vI : Int} {B1 : Option Addr} {m1 c1 : Nat} (h :
bq M (cl [(iV Bz), (iV BA), (iV vI)] 34) fun k1 M2 =>
rI M2 k1 0 fun n3 =>
aX (n3 == 0)
 (rI M2 k1 1 fun n4 =>
 (0 ≤ n4) ∧
 (n4 < m1) ∧
 aB B1 fun k5 k6 =>
 rP M2 k5 (k6 + (Int.toNat n4)) fun A7 =>
 ae Try.prog 84 #[(.pointer A7)] M2 (fun v8 M9 =>
 dz (some v8) fun t10 =>
 K (.bool t10) M9) Kp)
 (aX (n3 == 1)
 (rI M2 k1 1 fun uf =>
 (0 ≤ uf) ∧
 (uf < m1) ∧
 aB B1 fun iJ gJ =>
 rP M2 iJ (gJ + (Int.toNat uf)) fun vG =>
 ae Try.prog 85 #[(.pointer vG)] M2 (fun Fk hJ =>
 dz (some Fk) fun t17 =>
 K (.bool t17) hJ) Kp)
 (K (.bool false) M2))) :
 ae Try.prog 69 #[.agg #[.int .i64 Bz, .int .i64 BA, .int .i64 vI], .slice B1 m1 c1] M K Kp := vw [] Try.func69 h
theorem qV {x0 : Int} {B1 : Option Addr} {m1 c1 : Nat} (h :
∃ I1 : IT, (∃ k2, I1 k2 [(iV 0)] M) ∧
∀ (k3 : Nat) (_ : Nat → Value) (n5 : Int) (M6 : Mem), (I1 k3 [(iV n5)] M6) → aX (decide (n5 < m1))
 ((0 ≤ n5) ∧
 (n5 < m1) ∧
 aB B1 fun k7 k8 =>
 rP M6 k7 (k8 + (Int.toNat n5)) fun A9 =>
 ae Try.prog 89 #[(.pointer A9), (iV x0)] M6 (fun v10 oh =>
 (v10 = (.tuple #[])) ∧
 ∃ iJ : Nat, (iJ < k3) ∧
 I1 iJ [(iV (IntKind.wrap .i64 (n5 + 1)))] oh) Kp)
 (K (.tuple #[]) M6)) :
 ae Try.prog 88 #[.int .i64 x0, .slice B1 m1 c1] M K Kp := vw [(2000000, .loop [(8, .c (.int .i64))])] Try.func88 h
end Go.Proofs
namespace Go.Proofs
open Go.AF
set_option maxRecDepth 100000
set_option maxHeartbeats 1000000
attribute [local irreducible] bG dz fN dU aE fL aB bW bq aW bD aX
structure kZ where
 way : Int
 ch : Int
 bL : Int
 deriving DecidableEq
def qW : gY kZ := ⟨3, fun w => [.int .i64 w.way, .int .i64 w.ch, .int .i64 w.bL], fun _ => rfl, fun w v hv => by
 simp only [List.mem_cons, List.not_mem_nil, or_false] at hv; obtain rfl | rfl | rfl := hv <;> rfl⟩
def kZ.Ok (n : Nat) (c : kZ) : Prop := 0 ≤ c.way ∧ c.way ≤ 2 ∧ (c.way ≠ 2 → 0 ≤ c.ch ∧ c.ch < n ∧ 0 ≤ c.bL ∧ c.bL < 8)
instance (n : Nat) (c : kZ) : Decidable (c.Ok n) := by unfold kZ.Ok; infer_instance
def b7 (cs : List aC) (k : Int) : aC := cs.getD k.toNat ⟨0, [], [], [], false⟩
def can (cs : List aC) (c : kZ) : Bool := if c.way = 0 then (b7 cs c.ch).ny else if c.way = 1 then (b7 cs c.ch).nx else false
def BB (cases : List kZ) (cs : List aC) (j : Nat) : Bool := match cases[j]? with
 | some c => can cs c
 | none => false
def uh (cases : List kZ) (cs : List aC) (i : Nat) : List Int := ((List.range i).filter (BB cases cs)).map Int.ofNat
def enabled (cases : List kZ) (cs : List aC) : List Int := uh cases cs cases.length
theorem BC (cases : List kZ) (cs : List aC) (i : Nat) : (uh cases cs i).length ≤ i := by
 unfold uh; rw [List.length_map]; exact Nat.le_trans (List.length_filter_le ..) (by simp)
theorem th {cases : List kZ} {cs : List aC} {i : Nat} {c : kZ} (h : cases[i]? = some c) : uh cases cs (i + 1) = uh cases cs i ++ (if can cs c then [(i : Int)] else []) := by
 unfold uh
 rw [List.range_succ, List.filter_append, List.map_append]
 simp only [List.filter_cons, BB, h, List.filter_nil]
 split <;> simp_all
def els (cases : List kZ) : Option Nat := cases.findIdx? (fun c => c.way == 2)
def fZ (g : Int) (dg : List Int) (i : Nat) (c : kZ) (cs : List aC) : List aC :=
 if c.way = 0 then cs.set c.ch.toNat { b7 cs c.ch with cQ := (b7 cs c.ch).cQ ++ [⟨g, i, 0⟩] }
 else if c.way = 1 then cs.set c.ch.toNat { b7 cs c.ch with snd := (b7 cs c.ch).snd ++ [⟨g, i, dg.getD c.bL.toNat 0⟩] } else cs
def cz (g : Int) (dg : List Int) (cases : List kZ) (cs : List aC) : Nat → List aC
 | 0 => cs
 | i + 1 => match cases[i]? with
  | some c => fZ g dg i c (cz g dg cases cs i)
  | none => cz g dg cases cs i
theorem vJ (g : Int) (dg : List Int) (i : Nat) (c : kZ) (cs : List aC) : (fZ g dg i c cs).length = cs.length := by
 unfold fZ; split
 ·simp
 ·split <;> simp
theorem gE (g : Int) (dg : List Int) (cases : List kZ) (cs : List aC) : ∀ i, (cz g dg cases cs i).length = cs.length
 | 0 => rfl
 | i + 1 => by
  unfold cz; split
  ·rw [vJ, gE _ _ _ _ i]
  ·exact gE _ _ _ _ i
theorem mem_set {α : Type} {l : List α} {i : Nat} {x y : α} (h : y ∈ l.set i x) : y ∈ l ∨ y = x := by
 rcases List.mem_or_eq_of_mem_set h with h | h
 ·exact .inl h
 ·exact .inr h
theorem nD {cs : List aC} {k : Int} (h0 : 0 ≤ k) (h : k < cs.length) : b7 cs k ∈ cs := by
 unfold b7; rw [List.getD_eq_getElem?_getD, List.getElem?_eq_getElem (by omega)]; exact List.getElem_mem _
theorem so {g : Int} {dg : List Int} {i : Nat} {c : kZ} {cs : List aC} {N : Nat} (hs : ∀ x ∈ cs, x.Small N) (hc : c.Ok cs.length) : ∀ x ∈ fZ g dg i c cs, x.Small (N + 1) := by
 obtain ⟨_, _, kk⟩ := hc
 intro x hm
 unfold fZ at hm
 split at hm
 ·rename_i hw
  have hx := hs _ (nD (kk (by omega)).1 (kk (by omega)).2.1)
  rcases mem_set hm with h | rfl
  ·exact (hs x h).mono (by omega)
  ·exact hx.wr _
 split at hm
 ·rename_i hw
  have hx := hs _ (nD (kk (by omega)).1 (kk (by omega)).2.1)
  rcases mem_set hm with h | rfl
  ·exact (hs x h).mono (by omega)
  ·exact hx.ws _
 ·exact (hs x hm).mono (by omega)
theorem jd {g : Int} {dg : List Int} {cases : List kZ} {cs : List aC} {N : Nat} (hs : ∀ x ∈ cs, x.Small N) (hok : ∀ c ∈ cases, c.Ok cs.length) : ∀ i, ∀ x ∈ cz g dg cases cs i, x.Small (N + i)
 | 0 => hs
 | i + 1 => by
  unfold cz; split
  ·rename_i c hc
   exact so (jd hs hok i) (by rw [gE]; exact hok c (List.mem_of_getElem? hc))
  ·exact fun x hx => (jd hs hok i x hx).mono (by omega)
section
variable {R : Mem} {L L' : List HP} {M : Mem} {K : Value → Mem → Prop} {Kp : List PanicEntry → Mem → Prop} {bs : List Nat} {cs : List aC}
theorem uj : bt Try.prog 25 3 1 8 [.int .i64 0] := bt.mk' (zv := .int .i64 0) (by kernel_rfl) (by kernel_rfl) rfl (by omega)
theorem BD {cases : List kZ} {i : Nat} {c : kZ} (hc : cases[i]? = some c) (hw : c.way = 2) (hp : ∀ j c, j < i → cases[j]? = some c → c.way ≠ 2) : els cases = some i := by
 obtain ⟨hi, e⟩ := List.getElem?_eq_some_iff.1 hc
 refine List.findIdx?_eq_some_iff_getElem.2 ⟨hi, by rw [e]; simpa using hw, fun j hj => ?_⟩
 have := hp j _ hj (List.getElem?_eq_getElem (by omega))
 simpa using this
theorem BE {cases : List kZ} (hp : ∀ j c, j < cases.length → cases[j]? = some c → c.way ≠ 2) : els cases = none := by
 refine List.findIdx?_eq_none_iff.2 fun c hc => ?_
 obtain ⟨j, hj, e⟩ := List.getElem_of_mem hc
 have := hp j c hj (by rw [← e]; exact List.getElem?_eq_getElem hj)
 simpa using this
theorem xz {B : Option Addr} {m cc : Nat} {cases : List kZ} (h : Hp R L M) (hB : Src R L B (qW.cells cases)) (hm : m = cases.length) (hb : cases.length ≤ 1000000000)
  (k : ∀ M', Hp R L M' → K (.tuple #[.int .i64 (match els cases with | some i => (i : Int) | none => 0), .bool (els cases).isSome]) M') :
  ae Try.prog 40 #[.slice B m cc] M K Kp := by
 subst hm
 refine sj ⟨fun d ws M => ∃ i : Nat, ws = [.int .i64 (i : Int)] ∧ d = cases.length - i ∧ i ≤ cases.length ∧ (∀ j c, j < i → cases[j]? = some c → c.way ≠ 2) ∧ Hp R L M, ⟨_, 0, rfl, rfl, by omega, fun j c hj => by omega, h⟩, ?_⟩
 clear h
 rintro d _ ii M ⟨i, he, hd, hi, hp, h⟩
 simp only [List.cons.injEq, Value.int.injEq, and_true, true_and] at he
 subst he
 refine aG.2 ⟨fun hlt => ?_, fun hge => ?_⟩
 ·obtain ⟨c, hc⟩ := aP (l := cases) (i := i) (by omega)
  obtain ⟨b, o, rfl⟩ := hB.l7 h (by omega) (by decide)
  repeat (first|(refine aj h ?_;clear h;intro kb M h)|(refine ak h ?_;clear h;intro M h)|refine St.to h ?_|(apply Exists.intro;(repeat apply Exists.intro);refine And.intro rfl ?_)|refine aq ?_|refine af ?_|refine ai ?_)
  simp only [Int.toNat_natCast]
  refine bl (hB.at h (i := i) (j := 0) hc rfl rfl) ?_
  refine bl (hB.at h (i := i) (j := 1) hc rfl rfl) ?_
  refine bl (hB.at h (i := i) (j := 2) hc rfl rfl) ?_
  repeat (first|(refine aj h ?_;clear h;intro kb M h)|(refine ak h ?_;clear h;intro M h)|refine St.to h ?_|(apply Exists.intro;(repeat apply Exists.intro);refine And.intro rfl ?_)|refine aq ?_|refine af ?_|refine ai ?_)
  refine cL.2 ⟨fun e => ?_, fun e => ?_⟩
  ·have := BD hc e hp
   rw [this] at k
   exact k _ h.qJ
  ·rw [bk (by omega)]
   refine ⟨cases.length - (i + 1), by omega, i + 1, rfl, rfl, by omega, fun j c' hj zD => ?_, h.qJ⟩
   rcases Nat.lt_or_ge j i with fM | fM
   ·exact hp j c' fM zD
   ·obtain rfl : j = i := by omega
    rw [hc] at zD; cases zD; exact e
 ·obtain rfl : i = cases.length := by omega
  rw [BE hp] at k
  exact k _ h
theorem zE {c : kZ} {B : Option Addr} {m cc : Nat} (h : Hp R L M) [o : dZ aS L bs cs L'] (hB : Src R L' B (gZ.cells bs)) (hm : m = bs.length) (hl : bs.length = cs.length) (hc : c.way ≠ 2 → 0 ≤ c.ch ∧ c.ch < cs.length) (xA : 0 ≤ c.way ∧ c.way ≤ 2)
  (k : ∀ M', Hp R (bn aS bs cs :: L') M' → K (.bool (can cs c)) M') : ae Try.prog 69 #[.agg #[.int .i64 c.way, .int .i64 c.ch, .int .i64 c.bL], .slice B m cc] M K Kp := by
 subst hm
 replace h := h.jc aS
 obtain ⟨way, ch, bL⟩ := c
 dsimp only at *
 by_cases I9 : way = 2
 ·subst I9
  refine nC ?_
  repeat (first|(refine aj h ?_;clear h;intro kb M h)|(refine ak h ?_;clear h;intro M h)|refine St.to h ?_|(apply Exists.intro;(repeat apply Exists.intro);refine And.intro rfl ?_)|refine aq ?_|refine af ?_|refine ai ?_)
  exact k _ h.qJ
 replace hc := hc I9
 obtain ⟨q, rfl⟩ := Int.eq_ofNat_of_zero_le hc.1
 obtain ⟨x, hx⟩ := aP (l := cs) (i := q) (by omega)
 obtain ⟨b, hb⟩ := aP (l := bs) (i := q) (by omega)
 have KF : b7 cs (q : Int) = x := by simp [b7, hx]
 obtain ⟨b0, o0, rfl⟩ := hB.cons.l7 h (by omega) (by decide)
 simp only [can, KF] at k
 refine nC ?_
 repeat (first|(refine aj h ?_;clear h;intro kb M h)|(refine ak h ?_;clear h;intro M h)|refine St.to h ?_|(apply Exists.intro;(repeat apply Exists.intro);refine And.intro rfl ?_)|refine aq ?_|refine af ?_|refine ai ?_)
 refine cL.2 ⟨fun e => ?_, fun e => ?_⟩
 ·rw [if_pos e] at k
  repeat (first|(refine aj h ?_;clear h;intro kb M h)|(refine ak h ?_;clear h;intro M h)|refine St.to h ?_|(apply Exists.intro;(repeat apply Exists.intro);refine And.intro rfl ?_)|refine aq ?_|refine af ?_|refine ai ?_)
  refine vz (hB.cons.cons.at h (i := q) (j := 0) hb rfl (by simp [gZ])) ?_
  replace h := h.cZ aS hb hx
  refine si h ?_
  repeat (first|(refine aj h ?_;clear h;intro kb M h)|(refine ak h ?_;clear h;intro M h)|refine St.to h ?_|(apply Exists.intro;(repeat apply Exists.intro);refine And.intro rfl ?_)|refine aq ?_|refine af ?_|refine ai ?_)
  exact k _ (h.oL aS b hb hx).bB
 rw [if_neg e] at k
 refine cL.2 ⟨fun e => ?_, fun e => ?_⟩
 ·rw [if_pos e] at k
  repeat (first|(refine aj h ?_;clear h;intro kb M h)|(refine ak h ?_;clear h;intro M h)|refine St.to h ?_|(apply Exists.intro;(repeat apply Exists.intro);refine And.intro rfl ?_)|refine aq ?_|refine af ?_|refine ai ?_)
  refine vz (hB.cons.cons.at h (i := q) (j := 0) hb rfl (by simp [gZ])) ?_
  replace h := h.cZ aS hb hx
  refine sg h ?_
  repeat (first|(refine aj h ?_;clear h;intro kb M h)|(refine ak h ?_;clear h;intro M h)|refine St.to h ?_|(apply Exists.intro;(repeat apply Exists.intro);refine And.intro rfl ?_)|refine aq ?_|refine af ?_|refine ai ?_)
  exact k _ (h.oL aS b hb hx).bB
 ·rw [if_neg e] at k
  exact k _ h.qJ
theorem sq {B A : Option Addr} {m cc n ca : Nat} {cases : List kZ} (h : Hp R L M) [o : dZ aS L bs cs L'] (hB : Src R L' B (qW.cells cases)) (hA : Src R L' A (gZ.cells bs)) (hm : m = cases.length) (hn : n = bs.length)
  (hb : cases.length ≤ 1000000000) (hl : bs.length = cs.length) (hok : ∀ c ∈ cases, c.Ok cs.length)
  (k : ∀ A' c' M', Hp R (dm cI 3 A' c' (enabled cases cs) :: bn aS bs cs :: L') M' → K (.slice A' (enabled cases cs).length c') M') :
  ae Try.prog 39 #[.slice B m cc, .slice A n ca] M K Kp := by
 subst hm
 replace h := h.jc aS
 refine oM ⟨fun d ws M => ∃ (i : Nat) (X : Option Addr) (cx : Nat), ws = [.slice X (uh cases cs i).length cx, .int .i64 (i : Int)] ∧ d = cases.length - i ∧ i ≤ cases.length ∧ Hp R (dm cI 3 X cx (uh cases cs i) :: bn aS bs cs :: L') M, ⟨_, 0, none, 0, rfl, rfl, by omega, h.cE cI _⟩, ?_⟩
 clear h
 rintro d _ X n1 cx ii M ⟨i, _, _, he, hd, hi, h⟩
 simp only [List.cons.injEq, Value.int.injEq, Value.slice.injEq, and_true, true_and] at he
 obtain ⟨⟨rfl, rfl, rfl⟩, rfl⟩ := he
 refine aG.2 ⟨fun hlt => ?_, fun hge => ?_⟩
 ·obtain ⟨c, hc⟩ := aP (l := cases) (i := i) (by omega)
  obtain ⟨b, o, rfl⟩ := hB.cons.cons.l7 h (by omega) (by decide)
  repeat (first|(refine aj h ?_;clear h;intro kb M h)|(refine ak h ?_;clear h;intro M h)|refine St.to h ?_|(apply Exists.intro;(repeat apply Exists.intro);refine And.intro rfl ?_)|refine aq ?_|refine af ?_|refine ai ?_)
  simp only [Int.toNat_natCast]
  refine bl (hB.cons.cons.at h (i := i) (j := 0) hc rfl rfl) ?_
  refine bl (hB.cons.cons.at h (i := i) (j := 1) hc rfl rfl) ?_
  refine bl (hB.cons.cons.at h (i := i) (j := 2) hc rfl rfl) ?_
  repeat (first|(refine aj h ?_;clear h;intro kb M h)|(refine ak h ?_;clear h;intro M h)|refine St.to h ?_|(apply Exists.intro;(repeat apply Exists.intro);refine And.intro rfl ?_)|refine aq ?_|refine af ?_|refine ai ?_)
  have Of := hok c (List.mem_of_getElem? hc)
  obtain ⟨w1, w2, k1⟩ := Of
  refine zE (c := c) h hA.cons.cons hn hl (fun e => ⟨(k1 e).1, (k1 e).2.1⟩) ⟨w1, w2⟩ ?_
  clear h
  intro M h
  repeat (first|(refine aj h ?_;clear h;intro kb M h)|(refine ak h ?_;clear h;intro M h)|refine St.to h ?_|(apply Exists.intro;(repeat apply Exists.intro);refine And.intro rfl ?_)|refine aq ?_|refine af ?_|refine ai ?_)
  have hlen := BC cases cs i
  refine dO.2 ⟨fun hb => ?_, fun hb => ?_⟩
  ·have e := th (cs := cs) hc
   rw [if_pos hb] at e
   repeat (first|(refine aj h ?_;clear h;intro kb M h)|(refine ak h ?_;clear h;intro M h)|refine St.to h ?_|(apply Exists.intro;(repeat apply Exists.intro);refine And.intro rfl ?_)|refine aq ?_|refine af ?_|refine ai ?_)
   refine h.be uj [(i : Int)] rfl rfl (by simp; omega) ?_
   clear h
   intro A' c' M h
   repeat (first|(refine aj h ?_;clear h;intro kb M h)|(refine ak h ?_;clear h;intro M h)|refine St.to h ?_|(apply Exists.intro;(repeat apply Exists.intro);refine And.intro rfl ?_)|refine aq ?_|refine af ?_|refine ai ?_)
   rw [bk (by omega)]
   rw [← e] at h
   refine ⟨cases.length - (i + 1), by omega, i + 1, A', c', ?_, rfl, by omega, h.bB⟩
   rw [e]
  ·have e := th (cs := cs) hc
   rw [if_neg (by simp [hb]), List.append_nil] at e
   rw [bk (by omega)]
   refine ⟨cases.length - (i + 1), by omega, i + 1, X, cx, by rw [e], rfl, by omega, ?_⟩
   rw [e]; exact h.sub eX
 ·obtain rfl : i = cases.length := by omega
  exact k _ _ _ h
theorem vK {g : Int} {A : Option Addr} {n ca : Nat} (h : Hp R L M) [o : dZ aS L bs cs L'] (hA : Src R L' A (gZ.cells bs)) (hn : n = bs.length) (hb : bs.length ≤ 1000000000) (hl : bs.length = cs.length) (hs : ∀ c ∈ cs, c.Small 1000000000)
  (k : ∀ M', Hp R (bn aS bs (cs.map (·.drop g)) :: L') M' → K (.tuple #[]) M') :
  ae Try.prog 88 #[.int .i64 g, .slice A n ca] M K Kp := by
 subst hn
 replace h := h.jc aS
 refine qV ⟨fun d ws M => ∃ (i : Nat), ws = [.int .i64 (i : Int)] ∧ d = bs.length - i ∧ i ≤ bs.length ∧ Hp R (bn aS bs ((cs.take i).map (·.drop g) ++ cs.drop i) :: L') M, ⟨_, 0, rfl, rfl, by omega, h⟩, ?_⟩
 clear h
 rintro d _ ii M ⟨i, he, hd, hi, h⟩
 simp only [List.cons.injEq, Value.int.injEq, and_true, true_and] at he
 subst he
 refine aG.2 ⟨fun hlt => ?_, fun hge => ?_⟩
 ·obtain ⟨c, hc⟩ := aP (l := cs) (i := i) (by omega)
  obtain ⟨b, pO⟩ := aP (l := bs) (i := i) (by omega)
  obtain ⟨b0, o0, rfl⟩ := hA.cons.l7 h (by omega) (by decide)
  have MZ : ((cs.take i).map (·.drop g) ++ cs.drop i)[i]? = some c := by
   rw [List.getElem?_append_right (by simp; omega)]; simp [List.length_take, Nat.min_eq_left (show i ≤ cs.length by omega), hc]
  repeat (first|(refine aj h ?_;clear h;intro kb M h)|(refine ak h ?_;clear h;intro M h)|refine St.to h ?_|(apply Exists.intro;(repeat apply Exists.intro);refine And.intro rfl ?_)|refine aq ?_|refine af ?_|refine ai ?_)
  refine vz (hA.cons.at h (i := i) (j := 0) pO rfl (by simp [gZ])) ?_
  replace h := h.cZ aS pO MZ
  refine xy h (hs c (List.mem_of_getElem? hc)) ?_
  clear h
  intro M h
  repeat (first|(refine aj h ?_;clear h;intro kb M h)|(refine ak h ?_;clear h;intro M h)|refine St.to h ?_|(apply Exists.intro;(repeat apply Exists.intro);refine And.intro rfl ?_)|refine aq ?_|refine af ?_|refine ai ?_)
  rw [bk (by omega)]
  refine ⟨bs.length - (i + 1), by omega, i + 1, rfl, rfl, by omega, ?_⟩
  have := (h.dw aS b pO (by simp; omega)).bB (T := L')
  rw [List.set_append_right _ _ (by simp; omega)] at this
  rw [gm hc, List.map_append, List.append_assoc]
  have e : (cs.drop i).set (i - ((cs.take i).map (·.drop g)).length) (c.drop g) = [c.drop g] ++ cs.drop (i + 1) := by
   rw [show i - ((cs.take i).map (·.drop g)).length = 0 from by simp; omega]
   obtain ⟨hi', e'⟩ := List.getElem?_eq_some_iff.1 hc
   rw [List.drop_eq_getElem_cons hi']; rfl
  rw [e] at this
  exact this
 ·obtain rfl : i = bs.length := by omega
  rw [hl, List.take_length, List.drop_length, List.append_nil] at h
  exact k _ h
theorem xB {g : Int} {B A D : Option Addr} {m cc n ca r cr : Nat} {cases : List kZ} {dg : List Int} (h : Hp R L M) [o : dZ aS L bs cs L'] (hB : Src R L' B (qW.cells cases)) (hA : Src R L' A (gZ.cells bs)) (hD : Src R L' D (cI.cells dg))
  (hm : m = cases.length) (hn : n = bs.length) (hr : r = 8) (Qq : dg.length = 8) (hb : cases.length ≤ 1000000) (hl : bs.length = cs.length) (hok : ∀ c ∈ cases, c.Ok cs.length) (hs : ∀ c ∈ cs, c.Small 1000000)
  (k : ∀ M', Hp R (bn aS bs (cz g dg cases cs cases.length) :: L') M' → K (.tuple #[]) M') :
  ae Try.prog 41 #[.int .i64 g, .slice B m cc, .slice D r cr, .slice A n ca] M K Kp := by
 subst hm
 subst hn
 subst hr
 replace h := h.jc aS
 refine sk ⟨fun d ws M => ∃ (i : Nat), ws = [.int .i64 (i : Int)] ∧ d = cases.length - i ∧ i ≤ cases.length ∧ Hp R (bn aS bs (cz g dg cases cs i) :: L') M, ⟨_, 0, rfl, rfl, by omega, h⟩, ?_⟩
 clear h
 rintro d _ ii M ⟨i, he, hd, hi, h⟩
 simp only [List.cons.injEq, Value.int.injEq, and_true, true_and] at he
 subst he
 refine aG.2 ⟨fun hlt => ?_, fun hge => ?_⟩
 ·obtain ⟨c, hc⟩ := aP (l := cases) (i := i) (by omega)
  obtain ⟨w1, w2, kk⟩ := hok c (List.mem_of_getElem? hc)
  obtain ⟨b, o, rfl⟩ := hB.cons.l7 h (by omega) (by decide)
  by_cases I9 : c.way = 2
  ·have e : cz g dg cases cs (i + 1) = cz g dg cases cs i := by
    rw [cz, hc]; dsimp only; unfold fZ; rw [if_neg (by omega), if_neg (by omega)]
   repeat (first|(refine aj h ?_;clear h;intro kb M h)|(refine ak h ?_;clear h;intro M h)|refine St.to h ?_|(apply Exists.intro;(repeat apply Exists.intro);refine And.intro rfl ?_)|refine aq ?_|refine af ?_|refine ai ?_)
   simp only [Int.toNat_natCast]
   refine bl (hB.cons.at h (i := i) (j := 0) hc rfl rfl) ?_
   refine bl (hB.cons.at h (i := i) (j := 1) hc rfl rfl) ?_
   refine bl (hB.cons.at h (i := i) (j := 2) hc rfl rfl) ?_
   repeat (first|(refine aj h ?_;clear h;intro kb M h)|(refine ak h ?_;clear h;intro M h)|refine St.to h ?_|(apply Exists.intro;(repeat apply Exists.intro);refine And.intro rfl ?_)|refine aq ?_|refine af ?_|refine ai ?_)
   refine cL.2 ⟨fun e => by omega, fun _ => ?_⟩
   refine cL.2 ⟨fun e => by omega, fun _ => ?_⟩
   rw [bk (by omega)]
   refine ⟨cases.length - (i + 1), by omega, i + 1, rfl, rfl, by omega, ?_⟩
   rw [e]
   exact h.qJ
  obtain ⟨k1, k2, k3, k4⟩ := kk I9
  obtain ⟨b2, o2, rfl⟩ := hA.cons.l7 h (by omega) (by decide)
  obtain ⟨b3, o3, rfl⟩ := hD.cons.l7 h (by omega) (by decide)
  have hlen := gE g dg cases cs i
  have yE := jd (g := g) (dg := dg) hs hok i
  have e : cz g dg cases cs (i + 1) = fZ g dg i c (cz g dg cases cs i) := by rw [cz, hc]
  generalize hw : cz g dg cases cs i = ws at h hlen yE e
  obtain ⟨way, ch, bL⟩ := c
  dsimp only at k1 k2 k3 k4
  obtain ⟨q, rfl⟩ := Int.eq_ofNat_of_zero_le k1
  obtain ⟨q2, rfl⟩ := Int.eq_ofNat_of_zero_le k3
  obtain ⟨b1, pO⟩ := aP (l := bs) (i := q) (by omega)
  obtain ⟨x, hx⟩ := aP (l := ws) (i := q) (by omega)
  obtain ⟨v, hv⟩ := aP (l := dg) (i := q2) (by omega)
  have KF : b7 ws (q : Int) = x := by simp [b7, hx]
  have Og : dg.getD q2 0 = v := by simp [hv]
  have hxs := yE x (List.mem_of_getElem? hx)
  simp only [fZ, KF, Int.toNat_natCast, Og] at e
  repeat (first|(refine aj h ?_;clear h;intro kb M h)|(refine ak h ?_;clear h;intro M h)|refine St.to h ?_|(apply Exists.intro;(repeat apply Exists.intro);refine And.intro rfl ?_)|refine aq ?_|refine af ?_|refine ai ?_)
  simp only [Int.toNat_natCast]
  refine bl (hB.cons.at h (i := i) (j := 0) hc rfl rfl) ?_
  refine bl (hB.cons.at h (i := i) (j := 1) hc rfl rfl) ?_
  refine bl (hB.cons.at h (i := i) (j := 2) hc rfl rfl) ?_
  dsimp only
  repeat (first|(refine aj h ?_;clear h;intro kb M h)|(refine ak h ?_;clear h;intro M h)|refine St.to h ?_|(apply Exists.intro;(repeat apply Exists.intro);refine And.intro rfl ?_)|refine aq ?_|refine af ?_|refine ai ?_)
  refine cL.2 ⟨fun hw => ?_, fun hw => ?_⟩
  ·rw [if_pos hw] at e
   repeat (first|(refine aj h ?_;clear h;intro kb M h)|(refine ak h ?_;clear h;intro M h)|refine St.to h ?_|(apply Exists.intro;(repeat apply Exists.intro);refine And.intro rfl ?_)|refine aq ?_|refine af ?_|refine ai ?_)
   refine vz (hA.cons.cons.at h (i := q) (j := 0) pO rfl (by simp [gZ])) ?_
   have I3 := pO
   replace h := h.pick (.there .here)
   replace h := h.cZ aS pO hx
   refine ko (w := ⟨g, i, 0⟩) h (hxs.mono (by omega)) ?_
   clear h
   intro M h
   repeat (first|(refine aj h ?_;clear h;intro kb M h)|(refine ak h ?_;clear h;intro M h)|refine St.to h ?_|(apply Exists.intro;(repeat apply Exists.intro);refine And.intro rfl ?_)|refine aq ?_|refine af ?_|refine ai ?_)
   rw [bk (by omega)]
   refine ⟨cases.length - (i + 1), by omega, i + 1, rfl, rfl, by omega, ?_⟩
   rw [e]
   exact (h.dw aS b1 pO (by omega)).bB
  rw [if_neg hw] at e
  refine cL.2 ⟨fun hw => ?_, fun hw => ?_⟩
  ·rw [if_pos hw] at e
   repeat (first|(refine aj h ?_;clear h;intro kb M h)|(refine ak h ?_;clear h;intro M h)|refine St.to h ?_|(apply Exists.intro;(repeat apply Exists.intro);refine And.intro rfl ?_)|refine aq ?_|refine af ?_|refine ai ?_)
   refine vz (hA.cons.cons.at h (i := q) (j := 0) pO rfl (by simp [gZ])) ?_
   repeat (first|(refine aj h ?_;clear h;intro kb M h)|(refine ak h ?_;clear h;intro M h)|refine St.to h ?_|(apply Exists.intro;(repeat apply Exists.intro);refine And.intro rfl ?_)|refine aq ?_|refine af ?_|refine ai ?_)
   refine bl (hD.cons.cons.at h (i := q2) (j := 0) hv rfl (by simp [cI])) ?_
   replace h := h.pick (.there .here)
   replace h := h.cZ aS pO hx
   refine kn (w := ⟨g, i, v⟩) h (hxs.mono (by omega)) ?_
   clear h
   intro M h
   repeat (first|(refine aj h ?_;clear h;intro kb M h)|(refine ak h ?_;clear h;intro M h)|refine St.to h ?_|(apply Exists.intro;(repeat apply Exists.intro);refine And.intro rfl ?_)|refine aq ?_|refine af ?_|refine ai ?_)
   rw [bk (by omega)]
   refine ⟨cases.length - (i + 1), by omega, i + 1, rfl, rfl, by omega, ?_⟩
   rw [e]
   exact (h.dw aS b1 pO (by omega)).bB
  ·rw [if_neg hw] at e
   rw [bk (by omega)]
   refine ⟨cases.length - (i + 1), by omega, i + 1, rfl, rfl, by omega, ?_⟩
   rw [e]
   exact h.qJ
 ·obtain rfl : i = cases.length := by omega
  exact k _ h
end
end Go.Proofs
namespace Go.Proofs
open Go.AF
structure cn where
 op : Int
 a : Int
 b : Int
 c : Int
 deriving DecidableEq
def cn.zero : cn := ⟨0, 0, 0, 0⟩
def zF : gY cn := ⟨4, fun x => [.int .i64 x.op, .int .i64 x.a, .int .i64 x.b, .int .i64 x.c], fun _ => rfl, fun w v hv => by
 simp only [List.mem_cons, List.not_mem_nil, or_false] at hv; obtain rfl | rfl | rfl | rfl := hv <;> rfl⟩
structure cB where
 fn : Int
 pc : Int
 r : List Int
 lC : Int
 deriving DecidableEq
def cB.bL (f : cB) (q : Int) : Int := f.r.getD q.toNat 0
def cB.set (f : cB) (q v : Int) : cB := { f with r := (List.range 8).map fun i => if i = q.toNat then v else f.r.getD i 0 }
def cB.next (f : cB) : cB := { f with pc := f.pc + 1 }
def cB.begin (fn v : Int) : cB := ⟨fn, 0, [v, 0, 0, 0, 0, 0, 0, 0], 0⟩
def HK (f : cB) : List Value := [.int .i64 f.fn, .int .i64 f.pc, .int .i64 (f.r.getD 0 0), .int .i64 (f.r.getD 1 0), .int .i64 (f.r.getD 2 0), .int .i64 (f.r.getD 3 0), .int .i64 (f.r.getD 4 0), .int .i64 (f.r.getD 5 0), .int .i64 (f.r.getD 6 0), .int .i64 (f.r.getD 7 0), .int .i64 f.lC]
def gd : gY cB := ⟨11, HK, fun _ => rfl, fun w v hv => by
 simp only [HK, List.mem_cons, List.not_mem_nil, or_false] at hv
 obtain rfl | rfl | rfl | rfl | rfl | rfl | rfl | rfl | rfl | rfl | rfl := hv <;> rfl⟩
theorem HL {q : Int} (h0 : 0 ≤ q) (h8 : q < 8) : q = 0 ∨ q = 1 ∨ q = 2 ∨ q = 3 ∨ q = 4 ∨ q = 5 ∨ q = 6 ∨ q = 7 := by omega
theorem Fl {f : cB} {q : Int} (h0 : 0 ≤ q) (h8 : q < 8) : (gd.f f)[2 + q.toNat]? = some (.int .i64 (f.bL q)) := by
 obtain rfl | rfl | rfl | rfl | rfl | rfl | rfl | rfl := HL h0 h8 <;> rfl
theorem C8 {f : cB} {q v : Int} (h0 : 0 ≤ q) (h8 : q < 8) : (gd.f f).set (2 + q.toNat) (.int .i64 v) = gd.f (f.set q v) := by
 obtain rfl | rfl | rfl | rfl | rfl | rfl | rfl | rfl := HL h0 h8 <;> rfl
theorem Fm {f : cB} {v : Int} : (gd.f f).set 1 (.int .i64 v) = gd.f { f with pc := v } := rfl
def cB.pure (f : cB) (x : cn) : cB :=
 if x.op = 0 then f
 else if x.op = 1 then f.set x.a x.b
 else if x.op = 2 then f.set x.a (f.bL x.b)
 else if x.op = 3 then f.set x.a (IntKind.wrap .i64 (f.bL x.b + f.bL x.c))
 else if x.op = 4 then f.set x.a (IntKind.wrap .i64 (f.bL x.b - f.bL x.c))
 else if x.op = 5 then f.set x.a (IntKind.wrap .i64 (f.bL x.b * f.bL x.c))
 else if x.op = 6 then f.set x.a (if f.bL x.b < f.bL x.c then 1 else 0)
 else if x.op = 7 then { f with pc := x.a }
 else if f.bL x.a ≠ 0 then { f with pc := x.b } else f
def aQ (q : Int) : Prop := 0 ≤ q ∧ q < 8
instance (q : Int) : Decidable (aQ q) := by unfold aQ; infer_instance
def cn.eZ (x : cn) : Prop :=
 (x.op ∈ [1, 8] → aQ x.a) ∧ (x.op = 2 → aQ x.a ∧ aQ x.b) ∧ (x.op ∈ [3, 4, 5, 6] → aQ x.a ∧ aQ x.b ∧ aQ x.c)
instance (x : cn) : Decidable x.eZ := by unfold cn.eZ; infer_instance
structure eB where
 st : Int
 fs : List cB
 wt : cn
 deriving DecidableEq
structure Lk where
 owner : Int
 waits : List Int
 deriving DecidableEq
structure ay where
 t : Int
 seq : Int
 id : Int
 deriving DecidableEq
def kq : gY ay := ⟨3, fun x => [.int .u64 x.t, .int .u64 x.seq, .int .i64 x.id], fun _ => rfl, fun w v hv => by
 simp only [List.mem_cons, List.not_mem_nil, or_false] at hv; obtain rfl | rfl | rfl := hv <;> rfl⟩
structure cR where
 funcs : List (List cn)
 mA : List Int
 aH : Int
 cases : List kZ
structure Wd where
 gs : List eB
 clock : Int
 au : List aC
 aH : List Lk
 hl : List ay
 fO : Int
 out : List Int
 end_ : Int
 code : Int
 ready : List Int
 deriving DecidableEq
def aa (x : Wd) (g : Int) : eB := x.gs.getD g.toNat ⟨0, [], .zero⟩
def Wd.aJ (x : Wd) (g : Int) (y : eB) : Wd := { x with gs := x.gs.set g.toNat y }
def eB.top (y : eB) : cB := y.fs.getD (y.fs.length - 1) ⟨0, 0, [], 0⟩
def eB.bj (y : eB) (f : cB) : eB := { y with fs := y.fs.set (y.fs.length - 1) f }
def Wd.aN (x : Wd) (g q v : Int) : Wd := x.aJ g ((aa x g).bj ((aa x g).top.set q v))
def Wd.bX (x : Wd) (g : Int) : Wd := { x.aJ g { aa x g with st := 1 } with ready := x.ready ++ [g] }
def Wd.block (x : Wd) (g : Int) (i : cn) : Wd := x.aJ g { aa x g with st := 2, wt := i }
def Wd.leave (x : Wd) (g : Int) : Wd := { x with au := x.au.map fun c => c.drop g }
def Wd.dJ (x : Wd) (g k : Int) : Wd := (x.aN g (aa x g).wt.c k).leave g
def ku (p : cR) (k : Int) : kZ := p.cases.getD k.toNat ⟨0, 0, 0⟩
def Wd.received (p : cR) (x : Wd) (v : Wt) (some : Int) : Wd :=
 let i := (aa x v.g).wt
 (if i.op = 16 then ((x.aN v.g (ku p (i.a + v.cs)).bL v.v).dJ v.g v.cs)
  else (x.aN v.g i.b v.v).aN v.g i.c some).bX v.g
def Wd.sent (x : Wd) (v : Wt) : Wd := (if (aa x v.g).wt.op = 16 then x.dJ v.g v.cs else x).bX v.g
inductive Out (α : Type) where
 | on (a : α)
 | cT (code : Int) (x : Wd)
 | e7 (l : List PanicEntry) (x : Wd)
def Wd.bx (x : Wd) (k : Int) (c : aC) : Wd := { x with au := x.au.set k.toNat c }
def Wd.put (p : cR) (x : Wd) (k v : Int) : Out (Wd × Bool) :=
 let s := (b7 x.au k).send v
 if s.2.2.2 = 10 then .cT (-1) (x.bx k s.1)
 else .on ((if s.2.2.1 then (x.bx k s.1).received p s.2.1 1 else x.bx k s.1), s.2.2.2 == 0)
def Wd.get (x : Wd) (k : Int) : Wd × Int × Int × Bool :=
 let s := (b7 x.au k).recv
 let y := if s.2.2.2.2.1 then (x.bx k s.1).sent s.2.2.2.1 else x.bx k s.1
 if s.2.2.1 then (y, s.2.1, 1, true) else (y, 0, 0, s.2.2.2.2.2 == 0)
def aI (x : Wd) (g : Int) : Prop := 0 ≤ g ∧ g < x.gs.length ∧ 0 < (aa x g).fs.length ∧ (aa x g).fs.length ≤ 1000
instance (x : Wd) (g : Int) : Decidable (aI x g) := by unfold aI; infer_instance
def kx (p : cR) (x : Wd) (v : Wt) : Prop := aI x v.g ∧
 if (aa x v.g).wt.op = 16 then 0 ≤ (aa x v.g).wt.a + v.cs ∧ (aa x v.g).wt.a + v.cs < p.cases.length ∧ p.cases.length ≤ 1000 ∧ aQ (ku p ((aa x v.g).wt.a + v.cs)).bL ∧ aQ (aa x v.g).wt.c
 else aQ (aa x v.g).wt.b ∧ aQ (aa x v.g).wt.c
instance (p : cR) (x : Wd) (v : Wt) : Decidable (kx p x v) := by unfold kx; infer_instance
def pD (x : Wd) (v : Wt) : Prop := aI x v.g ∧ ((aa x v.g).wt.op = 16 → aQ (aa x v.g).wt.c)
instance (x : Wd) (v : Wt) : Decidable (pD x v) := by unfold pD; infer_instance
def Wd.Sm (x : Wd) : Prop := (∀ c ∈ x.au, c.Small 1000000) ∧ x.au.length ≤ 1000 ∧ x.gs.length ≤ 1000 ∧ x.ready.length ≤ 1000000 ∧ x.out.length ≤ 1000000 ∧ (∀ l ∈ x.aH, l.waits.length ≤ 1000000) ∧ x.aH.length ≤ 1000 ∧ x.hl.length ≤ 1000000
instance (x : Wd) : Decidable x.Sm := by unfold Wd.Sm; infer_instance
theorem cq {x : Wd} {g : Int} {y : eB} (h0 : 0 ≤ g) (hg : g < x.gs.length) : aa (x.aJ g y) g = y := by
 have : g.toNat < x.gs.length := by omega
 simp [aa, Wd.aJ, this]
end Go.Proofs
namespace Go.Proofs
open Go.AF
set_option maxRecDepth 100000
variable {M : Mem} {K : Value → Mem → Prop} {Kp : List PanicEntry → Mem → Prop}
theorem mB {B0 : Option Addr} {m0 c0 : Nat} (h :
aX ((m0 : Int) == 0)
 (K (.pointer none) M)
 (((0 : Int) ≤ (IntKind.wrap .i64 ((m0 : Int) - 1))) ∧
 (((IntKind.wrap .i64 ((m0 : Int) - 1)) : Int) < (m0 : Int)) ∧
 aB B0 fun k1 k2 =>
 K (.pointer (some ⟨k1, (k2 + ((Int.toNat (IntKind.wrap .i64 ((m0 : Int) - 1))) * 11)), none⟩)) M)) :
 ae Try.prog 11 #[.slice B0 m0 c0] M K Kp := vw [] Try.func11 h
theorem jB {b0 o0 : Nat} {x1 : Int} (h :
aX (decide ((x1 : Int) < 0))
 (K (.int .i64 0) M)
 (aE (Mem.ld M ⟨b0, (o0 + 4), none⟩) fun A1 k2 k3 =>
 aX (decide ((x1 : Int) ≥ ((k2 : Nat) : Int)))
  (K (.int .i64 0) M)
  (aE (Mem.ld M ⟨b0, (o0 + 4), none⟩) fun A4 k5 k6 =>
  ((0 : Int) ≤ x1) ∧
  ((x1 : Int) < ((k5 : Nat) : Int)) ∧
  aB A4 fun k7 k8 =>
  dU (Mem.ld M ⟨k7, (k8 + (Int.toNat x1)), none⟩) fun A9 =>
  aB A9 fun fm dM =>
  bG (Mem.ld M ⟨fm, dM, none⟩) .i64 fun kj =>
  K (.int .i64 kj) M))) :
 ae Try.prog 13 ([.pointer (some ⟨b0, o0, none⟩), .int .i64 x1] : List Value).toArray M K Kp :=
 cY (C := Cx) good [] Try.func13 (by kernel_rfl) (by kernel_rfl) h
theorem mC {b0 o0 : Nat} (h :
rI M b0 (o0 + 11) fun n1 =>
rI M b0 (o0 + 12) fun n2 =>
K (.tuple #[(iV n1), (iV n2)]) M) :
 ae Try.prog 16 #[.pointer (some ⟨b0, o0, none⟩)] M K Kp := vw [(1, .bL [0, 1, 3, 7, 0, 16, 48, 112, 15, 511] (sy [0, 1, 2, 4, 5, 6, 3, 8, 7, 9] .done))] Try.func16 h
theorem lD {b0 o0 : Nat} (h :
bG (Mem.ld M ⟨b0, (o0 + 11), none⟩) .i64 fun n1 =>
aX (n1 != 0)
 (K (.slice none 0 0) M)
 (bG (Mem.ld M ⟨b0, (o0 + 5), none⟩) .u64 fun n2 =>
 bW M ⟨b0, (o0 + 5), none⟩ (.int .u64 (IntKind.wrap .u64 (n2 + 1))) fun M3 =>
 bW M3 ⟨b0, (o0 + 13), none⟩ (.slice none 0 0) fun M4 =>
 bG (Mem.ld M4 ⟨b0, (o0 + 5), none⟩) .u64 fun n5 =>
 ae Try.prog 28 #[(.pointer (some ⟨b0, (o0 + 8), none⟩)), (.int .u64 n5)] M4 (fun v6 M7 =>
 aE (some v6) fun A8 k9 fm =>
 ∃ KG : Nat → List Value → Mem → Prop, (∃ iJ : Nat, KG iJ [(.int .i64 0)] M7) ∧
 ∀ gJ : Nat, ∀ KH : Nat → Value, ∀ oH : Int, ∀ hJ : Mem, (KG gJ [(.int .i64 oH)] hJ) → aX (decide ((oH : Int) < ((k9 : Nat) : Int)))
  (((0 : Int) ≤ oH) ∧
  ((oH : Int) < ((k9 : Nat) : Int)) ∧
  aB A8 fun jN iw =>
  bG (Mem.ld hJ ⟨jN, (iw + ((Int.toNat oH) * 3)), none⟩) .u64 fun Bu =>
  bG (Mem.ld hJ ⟨jN, ((iw + ((Int.toNat oH) * 3)) + 1), none⟩) .u64 fun jx =>
  bG (Mem.ld hJ ⟨jN, ((iw + ((Int.toNat oH) * 3)) + 2), none⟩) .i64 fun r7 =>
  bq hJ (.cells #[(.int .u64 0), (.int .u64 0), (.int .i64 0)] 86 (0, 0)) fun iL mw =>
  bW mw ⟨iL, 0, none⟩ (.int .u64 Bu) fun my =>
  bW my ⟨iL, (0 + 1), none⟩ (.int .u64 jx) fun Bw =>
  bW Bw ⟨iL, (0 + 2), none⟩ (.int .i64 r7) fun xC =>
  bG (Mem.ld xC ⟨iL, (0 + 2), none⟩) .i64 fun C9 =>
  ae Try.prog 29 #[(.pointer (some ⟨b0, o0, none⟩)), (.int .i64 C9)] xC (fun By ta =>
  (By = (.tuple #[])) ∧
  ∃ pT : Nat, (pT < gJ) ∧
  KG pT [(.int .i64 (IntKind.wrap .i64 (oH + 1)))] ta) Kp)
  (aE (Mem.ld hJ ⟨b0, (o0 + 13), none⟩) fun KI uN qT =>
  K (.slice KI uN qT) hJ)) Kp)) :
 ae Try.prog 18 ([.pointer (some ⟨b0, o0, none⟩)] : List Value).toArray M K Kp :=
 cY (C := Cx) good [(5, .bL [0, 1, 3, 0, 8, 24, 56, 127, 255, 0] (.step 0 (.step 1 (.step 2 (.step 3 (.step 4 (.step 5 (.step 9 (.step 6 (.step 7 (.step 8 .done))))))))))), (2000000, .loop [(29, .c (.int .i64))])] Try.func18 (by kernel_rfl) (by kernel_rfl) h
theorem mD {b0 o0 : Nat} (h :
bq M (cl [] 2) fun k1 M2 =>
rS M2 b0 (o0 + 10) fun A3 k4 k5 =>
aA 46 (some ⟨k1, 0, none⟩) 0 0 A3 k4 k5 M2 (fun v6 M7 =>
aE (some v6) fun A8 k9 fm =>
K (.slice A8 k9 fm) M7) Kp) :
 ae Try.prog 19 #[.pointer (some ⟨b0, o0, none⟩)] M K Kp := vw [] Try.func19 h
theorem iy {b0 o0 : Nat} (h :
ae Try.prog 30 #[(.pointer (some ⟨b0, (o0 + 8), none⟩))] M (fun v1 M2 =>
aE (some v1) fun A3 k4 k5 =>
K (.slice A3 k4 k5) M2) Kp) :
 ae Try.prog 20 #[.pointer (some ⟨b0, o0, none⟩)] M K Kp := vw [] Try.func20 h
theorem qX {x0 : Int} {x1 : Int} (h :
bq M (cl [(iV x0), (iV 0), (iV x1), (iV 0), (iV 0), (iV 0), (iV 0), (iV 0), (iV 0), (iV 0), (iV 0)] 53) fun k1 M2 =>
K (.slice (some ⟨k1, 0, none⟩) 1 1) M2) :
 ae Try.prog 22 #[.int .i64 x0, .int .i64 x1] M K Kp := vw [] Try.func22 h
theorem uk  (h :
bq M (cl [(iV (-1)), (.slice none 0 0)] 91) fun k1 M2 =>
K (.pointer (some ⟨k1, 0, none⟩)) M2) :
 ae Try.prog 24 #[] M K Kp := vw [] Try.func24 h
theorem nE {b0 o0 : Nat} {x1 : Int} (h :
∃ I1 : Nat → List Value → Mem → Prop, (∃ k2 : Nat, I1 k2 [(.slice none 0 0)] M) ∧
∀ k3 : Nat, ∀ Ee : Nat → Value, ∀ A5 : Option Addr, ∀ k6 : Nat, ∀ k7 : Nat, ∀ M8 : Mem, (I1 k3 [(.slice A5 k6 k7)] M8) → aE (Mem.ld M8 ⟨b0, o0, none⟩) fun A9 fm dM =>
aX (decide ((((fm : Nat) : Int) : Int) > 0))
 (aE (Mem.ld M8 ⟨b0, o0, none⟩) fun Aa gJ mo =>
 ((0 : Int) ≤ 0) ∧
 ((0 : Int) < ((gJ : Nat) : Int)) ∧
 aB Aa fun mY fY =>
 bG (Mem.ld M8 ⟨mY, (fY + 0), none⟩) .u64 fun tg =>
 aX (decide ((tg : Int) ≤ x1))
  (ae Try.prog 36 #[(.pointer (some ⟨b0, o0, none⟩)), (.int .i64 0)] M8 (fun Bq kW =>
  ∃ jx : Int, ∃ r7 : Int, ∃ xq : Int, (Bq = (.agg #[(.int .u64 jx), (.int .u64 r7), (.int .i64 xq)])) ∧
  bq kW (.cells #[(.int .u64 jx), (.int .u64 r7), (.int .i64 xq)] 86 (0, 0)) fun jC my =>
  aW Try.prog (Go.Builtin.append_ #[62, 62] 62 #[(.slice A5 k6 k7), (.slice (some ⟨jC, 0, none⟩) 1 1)]) my (fun HM xC =>
  aE (some HM) fun Fo tj qf =>
  ∃ pT : Nat, (pT < k3) ∧
  I1 pT [(.slice Fo tj qf)] xC) Kp) Kp)
  (K (.slice A5 k6 k7) M8))
 (K (.slice A5 k6 k7) M8)) :
 ae Try.prog 28 ([.pointer (some ⟨b0, o0, none⟩), .int .u64 x1] : List Value).toArray M K Kp :=
 cY (C := Cx) good [(2000000, .loop [(5, .c .sl)])] Try.func28 (by kernel_rfl) (by kernel_rfl) h
theorem lE {b0 o0 : Nat} {x1 : Int} (h :
rS M b0 (o0 + 4) fun A1 k2 k3 =>
((0 : Int) ≤ x1) ∧
((x1 : Int) < k2) ∧
aB A1 fun k4 k5 =>
rP M k4 (k5 + (Int.toNat x1)) fun A6 =>
aB A6 fun k7 k8 =>
sT M k7 k8 (iV 1) fun M9 =>
rS M9 b0 (o0 + 13) fun Bp dM iJ =>
bq M9 (cl [(iV x1)] 3) fun gJ mZ =>
aA 25 Bp dM iJ (some ⟨gJ, 0, none⟩) 1 1 mZ (fun Fk hJ =>
aE (some Fk) fun Bt iw oe =>
sT hJ b0 (o0 + 13) (.slice Bt iw oe) fun z7 =>
K (.tuple #[]) z7) Kp) :
 ae Try.prog 29 #[.pointer (some ⟨b0, o0, none⟩), .int .i64 x1] M K Kp := vw [] Try.func29 h
theorem nF {b0 o0 : Nat} (h :
bq M (.cells #[] 86 (0, 0)) fun k1 M2 =>
aE (Mem.ld M2 ⟨b0, o0, none⟩) fun A3 k4 k5 =>
aW Try.prog (Go.Builtin.append_ #[62, 62] 62 #[(.slice (some ⟨k1, 0, none⟩) 0 0), (.slice A3 k4 k5)]) M2 (fun v6 M7 =>
aE (some v6) fun A8 k9 fm =>
bq M7 (.cells #[(.slice none 0 0), (.int .u64 0)] 74 (0, 0)) fun dM s0 =>
bW s0 ⟨dM, 0, none⟩ (.slice A8 k9 fm) fun m5 =>
bW m5 ⟨dM, (0 + 1), none⟩ (.int .u64 0) fun mZ =>
∃ KJ : Nat → List Value → Mem → Prop, (∃ fY : Nat, KJ fY [(.slice none 0 0)] mZ) ∧
∀ jN : Nat, ∀ KK : Nat → Value, ∀ C5 : Option Addr, ∀ oI : Nat, ∀ uM : Nat, ∀ Ct : Mem, (KJ jN [(.slice C5 oI uM)] Ct) → aE (Mem.ld Ct ⟨dM, 0, none⟩) fun Hq r8 s9 =>
aX (decide ((((r8 : Nat) : Int) : Int) > 0))
 (ae Try.prog 36 #[(.pointer (some ⟨dM, 0, none⟩)), (.int .i64 0)] Ct (fun HH r9 =>
 ∃ D9 : Int, ∃ Ad : Int, ∃ xD : Int, (HH = (.agg #[(.int .u64 D9), (.int .u64 Ad), (.int .i64 xD)])) ∧
 bq r9 (.cells #[(.int .u64 D9), (.int .u64 Ad), (.int .i64 xD)] 86 (0, 0)) fun qQ m6 =>
 aW Try.prog (Go.Builtin.append_ #[62, 62] 62 #[(.slice C5 oI uM), (.slice (some ⟨qQ, 0, none⟩) 1 1)]) m6 (fun KE om =>
 aE (some KE) fun KL Fj Gt =>
 ∃ g6 : Nat, (g6 < jN) ∧
 KJ g6 [(.slice KL Fj Gt)] om) Kp) Kp)
 (K (.slice C5 oI uM) Ct)) Kp) :
 ae Try.prog 30 ([.pointer (some ⟨b0, o0, none⟩)] : List Value).toArray M K Kp :=
 cY (C := Cx) good [(2000000, .loop [(4, .c .sl)])] Try.func30 (by kernel_rfl) (by kernel_rfl) h
theorem lF {b0 o0 : Nat} {cv : Int} {cw : Int} {cy : Int} {ej : Int} (h :
bq M (cl [(iV cv), (iV cw), (iV cy), (iV ej)] 31) fun k1 M2 =>
rI M2 k1 0 fun n3 =>
ae Try.prog 37 #[] M2 (fun v4 M5 =>
eI M5 k1 0 n3 ∧
aW Try.prog (Go.Instr.lookup 104 v4 (iV n3) true) M5 (fun v6 M7 =>
∃ v8 : Value, ∃ t9 : Bool, (v6 = (.tuple #[v8, (.bool t9)])) ∧
eI M7 k1 0 n3 ∧
aX t9
 (rI M7 b0 (o0 + 1) fun qU =>
 sT M7 b0 (o0 + 1) (iV (IntKind.wrap .i64 (qU + 1))) fun oh =>
 j9 oh k1 0 fun kj kX rX oH =>
 lY Cx v8 [(.pointer (some ⟨b0, o0, none⟩)), (.agg #[(iV kj), (iV kX), (iV rX), (iV oH)])] oh (fun Fp qP =>
 (Fp = (.tuple #[])) ∧
 K (.bool t9) qP) Kp)
 (K (.bool t9) M7)) Kp) Kp) :
 ae Try.prog 32 #[.pointer (some ⟨b0, o0, none⟩), .agg #[.int .i64 cv, .int .i64 cw, .int .i64 cy, .int .i64 ej]] M K Kp := vw [(1, .bL [0, 0, 2, 7, 15, 31, 31, 63, 255] (sy [1] (.lz 2 (sy [0, 3, 4, 5, 6, 7, 8] .done))))] Try.func32 h
theorem jD {b0 o0 : Nat} {x1 : Int} {b2 o2 : Nat} {c5 : Int} {c6 : Int} {c7 : Int} {c8 : Int} (h :
bq M (cl [(iV c5), (iV c6), (iV c7), (iV c8)] 31) fun k1 M2 =>
j9 M2 k1 0 fun n3 n4 n5 n6 =>
ae Try.prog 38 #[(.pointer (some ⟨b0, o0, none⟩)), (.agg #[(iV n3), (iV n4), (iV n5), (iV n6)])] M2 (fun v7 M8 =>
aE (some v7) fun A9 fm dM =>
rS M8 b0 (o0 + 6) fun Aa gJ mo =>
ae Try.prog 39 #[(.slice A9 fm dM), (.slice Aa gJ mo)] M8 (fun Fk hJ =>
aE (some Fk) fun Bt iw oe =>
aX ((iw : Int) == 0)
 (rI hJ b2 (o2 + 1) fun jx =>
 sT hJ b2 (o2 + 1) (iV (IntKind.wrap .i64 (jx + 1))) fun z8 =>
 ae Try.prog 40 #[(.slice A9 fm dM)] z8 (fun C6 mw =>
 ∃ Ae : Int, ∃ t25 : Bool, (C6 = (.tuple #[(iV Ae), (.bool t25)])) ∧
 aX t25
 (rI mw k1 3 fun zG =>
 (0 ≤ zG) ∧
 (zG < 8) ∧
 sT mw b2 ((o2 + 2) + (Int.toNat zG)) (iV Ae) fun r9 =>
 K (.tuple #[]) r9)
 (((0 : Int) ≤ 8) ∧
 ((8 : Int) ≤ 8) ∧
 ((0 : Int) ≤ 8) ∧
 ((8 : Int) ≤ 8) ∧
 ((0 : Int) ≤ 0) ∧
 ((0 : Int) ≤ 8) ∧
 rS mw b0 (o0 + 6) fun HI qf pT =>
 ae Try.prog 41 #[(iV x1), (.slice A9 fm dM), (.slice (mW (some ⟨b2, (o2 + 2), none⟩) 0 8 1) 8 8), (.slice HI qf pT)] mw (fun Fc m6 =>
 (Fc = (.tuple #[])) ∧
 j9 m6 k1 0 fun E6 KM Cu Fq =>
 ae Try.prog 42 #[(.pointer (some ⟨b0, o0, none⟩)), (iV x1), (.agg #[(iV E6), (iV KM), (iV Cu), (iV Fq)])] m6 (fun KN iK =>
 (KN = (.tuple #[])) ∧
 K (.tuple #[]) iK) Kp) Kp)) Kp)
 (fL (Mem.ld hJ ⟨b0, (o0 + 14), none⟩) fun Oh =>
 lY Cx Oh [(iV 3), (iV (iw : Int))] hJ (fun HN BF =>
 bG (some HN) .i64 fun KO =>
 (0 ≤ KO) ∧
 (KO < iw) ∧
 aB Bt fun Fe MW =>
 rI BF Fe (MW + (Int.toNat KO)) fun BG =>
 rI BF b2 (o2 + 1) fun Fs =>
 sT BF b2 (o2 + 1) (iV (IntKind.wrap .i64 (Fs + 1))) fun Ja =>
 (0 ≤ BG) ∧
 (BG < fm) ∧
 aB A9 fun Jb HO =>
 j8 Ja Jb (HO + ((Int.toNat BG) * 3)) fun KP HQ KQ =>
 bq Ja nw fun vF Hv =>
 Bh Hv vF (iV KP) (iV HQ) (iV KQ) fun Bs =>
 rI Bs vF 0 fun Hw =>
 aX (Hw == 1)
 (rI Bs vF 1 fun C2 =>
 rI Bs vF 2 fun Fa =>
 (0 ≤ Fa) ∧
 (Fa < 8) ∧
 rI Bs b2 ((o2 + 2) + (Int.toNat Fa)) fun HB =>
 ae Try.prog 43 #[(.pointer (some ⟨b0, o0, none⟩)), (iV C2), (iV HB)] Bs (fun Oi Fb =>
 dz (some Oi) fun t64 =>
 rI Fb k1 3 fun C3 =>
 (0 ≤ C3) ∧
 (C3 < 8) ∧
 sT Fb b2 ((o2 + 2) + (Int.toNat C3)) (iV BG) fun Gu =>
 K (.tuple #[]) Gu) Kp)
 (rI Bs vF 1 fun KR =>
 rI Bs vF 2 fun Da =>
 ae Try.prog 44 #[(.pointer (some ⟨b0, o0, none⟩)), (iV KR)] Bs (fun KS Ft =>
 ∃ Jc KT : Int, ∃ t73 : Bool, (KS = (.tuple #[(iV Jc), (iV KT), (.bool t73)])) ∧
 eI Ft vF 2 Da ∧
 (0 ≤ Da) ∧
 (Da < 8) ∧
 sT Ft b2 ((o2 + 2) + (Int.toNat Da)) (iV Jc) fun BH =>
 eI BH vF 2 Da ∧
 rI BH k1 3 fun HE =>
 (0 ≤ HE) ∧
 (HE < 8) ∧
 sT BH b2 ((o2 + 2) + (Int.toNat HE)) (iV BG) fun KU =>
 K (.tuple #[]) KU) Kp)) Kp)) Kp) Kp) :
 ae Try.prog 33 #[.pointer (some ⟨b0, o0, none⟩), .int .i64 x1, .pointer (some ⟨b2, o2, none⟩), .agg #[.int .i64 c5, .int .i64 c6, .int .i64 c7, .int .i64 c8]] M K Kp := vw [(7, .bL [0, 0, 2, 0, 1, 17, 63, 127] (sy [0, 1, 3, 4, 5, 2, 6, 7] .done)), (8, .bL [0, 0, 0, 4, 12, 28, 0, 64, 192, 448, 1023] (sy [0, 1, 2, 3, 4, 5, 6, 7, 8, 9, 10] .done)), (14, .bL [0, 0, 2, 0, 0, 16, 8, 72, 248, 504, 1023] (sy [0, 1, 3, 4, 6, 7, 2, 5, 8, 9, 10] .done)), (15, .bL [0, 0, 2, 0, 0, 16, 56, 120, 248, 248, 248, 1, 2049, 6655, 14847] (sy [0, 1, 3, 4, 11, 12, 5] (.lz 2 (sy [6, 7, 8, 9, 10, 13, 14] .done)))), (16, .bL [0, 0, 2, 0, 1, 17, 63, 127] (sy [0, 1, 3, 4, 5, 2, 6, 7] .done))] Try.func33 h
theorem lG {b0 o0 : Nat} {x1 : Int} {b2 o2 : Nat} {c5 : Int} {c6 : Int} {c7 : Int} {c8 : Int} (h :
bq M (cl [(iV c5), (iV c6), (iV c7), (iV c8)] 31) fun k1 M2 =>
fL (Mem.ld M2 ⟨b0, (o0 + 14), none⟩) fun v3 =>
rI M2 k1 2 fun n4 =>
lY Cx v3 [(iV 4), (iV n4)] M2 (fun v5 M6 =>
bG (some v5) .i64 fun n7 =>
rI M6 b2 (o2 + 1) fun n8 =>
sT M6 b2 (o2 + 1) (iV (IntKind.wrap .i64 (n8 + 1))) fun M9 =>
rI M9 k1 1 fun qU =>
(0 ≤ qU) ∧
(qU < 8) ∧
sT M9 b2 ((o2 + 2) + (Int.toNat qU)) (iV n7) fun oh =>
K (.tuple #[]) oh) Kp) :
 ae Try.prog 34 #[.pointer (some ⟨b0, o0, none⟩), .int .i64 x1, .pointer (some ⟨b2, o2, none⟩), .agg #[.int .i64 c5, .int .i64 c6, .int .i64 c7, .int .i64 c8]] M K Kp := vw [(1, .bL [0, 1, 3, 7, 0, 16, 63, 127] (sy [0, 1, 2, 4, 3, 5, 6, 7] .done)), (3, .bL [0, 0, 2, 0, 1, 17, 63, 127] (sy [0, 1, 3, 4, 5, 2, 6, 7] .done))] Try.func34 h
theorem qY  (h :
bq M (.map #[] 0) fun k1 M2 =>
bD Try.prog (Go.Instr.mapUpdate 97 (.map (some k1)) (iV 9) (.func (.func 45) #[] #[])) M2 (fun M3 =>
bD Try.prog (Go.Instr.mapUpdate 97 (.map (some k1)) (iV 10) (.func (.func 46) #[] #[])) M3 (fun M4 =>
bD Try.prog (Go.Instr.mapUpdate 97 (.map (some k1)) (iV 11) (.func (.func 47) #[] #[])) M4 (fun M5 =>
bD Try.prog (Go.Instr.mapUpdate 97 (.map (some k1)) (iV 12) (.func (.func 48) #[] #[])) M5 (fun M6 =>
bD Try.prog (Go.Instr.mapUpdate 97 (.map (some k1)) (iV 13) (.func (.func 49) #[] #[])) M6 (fun M7 =>
bD Try.prog (Go.Instr.mapUpdate 97 (.map (some k1)) (iV 14) (.func (.func 50) #[] #[])) M7 (fun M8 =>
bD Try.prog (Go.Instr.mapUpdate 97 (.map (some k1)) (iV 15) (.func (.func 51) #[] #[])) M8 (fun M9 =>
bD Try.prog (Go.Instr.mapUpdate 97 (.map (some k1)) (iV 17) (.func (.func 52) #[] #[])) M9 (fun xp =>
bD Try.prog (Go.Instr.mapUpdate 97 (.map (some k1)) (iV 18) (.func (.func 53) #[] #[])) xp (fun oh =>
bD Try.prog (Go.Instr.mapUpdate 97 (.map (some k1)) (iV 19) (.func (.func 54) #[] #[])) oh (fun s0 =>
bD Try.prog (Go.Instr.mapUpdate 97 (.map (some k1)) (iV 20) (.func (.func 55) #[] #[])) s0 (fun m5 =>
bD Try.prog (Go.Instr.mapUpdate 97 (.map (some k1)) (iV 22) (.func (.func 56) #[] #[])) m5 (fun mZ =>
K (.map (some k1)) mZ) Kp) Kp) Kp) Kp) Kp) Kp) Kp) Kp) Kp) Kp) Kp) Kp) :
 ae Try.prog 35 #[] M K Kp := vw [] Try.func35 h
theorem lH {b0 o0 : Nat} {x1 : Int} (h :
bq M (.cells #[(.int .u64 0), (.int .u64 0), (.int .i64 0)] 86 (0, 0)) fun k1 M2 =>
aE (Mem.ld M2 ⟨b0, o0, none⟩) fun A3 k4 k5 =>
((0 : Int) ≤ x1) ∧
((x1 : Int) < ((k4 : Nat) : Int)) ∧
aB A3 fun k6 k7 =>
bG (Mem.ld M2 ⟨k6, (k7 + ((Int.toNat x1) * 3)), none⟩) .u64 fun n8 =>
bG (Mem.ld M2 ⟨k6, ((k7 + ((Int.toNat x1) * 3)) + 1), none⟩) .u64 fun n9 =>
bG (Mem.ld M2 ⟨k6, ((k7 + ((Int.toNat x1) * 3)) + 2), none⟩) .i64 fun qU =>
bq M2 (.cells #[(.int .u64 0), (.int .u64 0), (.int .i64 0)] 86 (0, 0)) fun dM s0 =>
bW s0 ⟨dM, 0, none⟩ (.int .u64 n8) fun m5 =>
bW m5 ⟨dM, (0 + 1), none⟩ (.int .u64 n9) fun mZ =>
bW mZ ⟨dM, (0 + 2), none⟩ (.int .i64 qU) fun BI =>
aE (Mem.ld BI ⟨b0, o0, none⟩) fun Na jN iw =>
ae Try.prog 57 #[(.pointer (some ⟨b0, o0, none⟩)), (.int .i64 x1), (.int .i64 (IntKind.wrap .i64 (((jN : Nat) : Int) - 1)))] BI (fun KV z7 =>
(KV = (.tuple #[])) ∧
aE (Mem.ld z7 ⟨b0, o0, none⟩) fun C7 iL jC =>
((0 : Int) ≤ ((jC : Nat) : Int)) ∧
((((jC : Nat) : Int) : Int) ≤ ((jC : Nat) : Int)) ∧
((0 : Int) ≤ (IntKind.wrap .i64 (((jN : Nat) : Int) - 1))) ∧
(((IntKind.wrap .i64 (((jN : Nat) : Int) - 1)) : Int) ≤ ((jC : Nat) : Int)) ∧
((0 : Int) ≤ 0) ∧
((0 : Int) ≤ (IntKind.wrap .i64 (((jN : Nat) : Int) - 1))) ∧
bW z7 ⟨b0, o0, none⟩ (.slice (mW C7 0 (Int.toNat ((jC : Nat) : Int)) 3) ((Int.toNat (IntKind.wrap .i64 (((jN : Nat) : Int) - 1))) - 0) ((Int.toNat ((jC : Nat) : Int)) - 0)) fun my =>
aX (decide ((x1 : Int) < (IntKind.wrap .i64 (((jN : Nat) : Int) - 1))))
 (ae Try.prog 58 #[(.pointer (some ⟨b0, o0, none⟩)), (.int .i64 x1)] my (fun HM xC =>
 (HM = (.tuple #[])) ∧
 ae Try.prog 59 #[(.pointer (some ⟨b0, o0, none⟩)), (.int .i64 x1)] xC (fun HG Br =>
 (HG = (.tuple #[])) ∧
 bG (Mem.ld Br ⟨dM, 0, none⟩) .u64 fun Ad =>
 bG (Mem.ld Br ⟨dM, (0 + 1), none⟩) .u64 fun xD =>
 bG (Mem.ld Br ⟨dM, (0 + 2), none⟩) .i64 fun td =>
 bW Br ⟨k1, 0, none⟩ (.int .u64 Ad) fun m6 =>
 bW m6 ⟨k1, (0 + 1), none⟩ (.int .u64 xD) fun xu =>
 bW xu ⟨k1, (0 + 2), none⟩ (.int .i64 td) fun om =>
 bG (Mem.ld om ⟨k1, 0, none⟩) .u64 fun Cu =>
 bG (Mem.ld om ⟨k1, (0 + 1), none⟩) .u64 fun Fq =>
 bG (Mem.ld om ⟨k1, (0 + 2), none⟩) .i64 fun E7 =>
 K (.agg #[(.int .u64 Cu), (.int .u64 Fq), (.int .i64 E7)]) om) Kp) Kp)
 (bG (Mem.ld my ⟨dM, 0, none⟩) .u64 fun E8 =>
 bG (Mem.ld my ⟨dM, (0 + 1), none⟩) .u64 fun Hr =>
 bG (Mem.ld my ⟨dM, (0 + 2), none⟩) .i64 fun Oj =>
 bW my ⟨k1, 0, none⟩ (.int .u64 E8) fun BF =>
 bW BF ⟨k1, (0 + 1), none⟩ (.int .u64 Hr) fun KW =>
 bW KW ⟨k1, (0 + 2), none⟩ (.int .i64 Oj) fun tp =>
 bG (Mem.ld tp ⟨k1, 0, none⟩) .u64 fun xE =>
 bG (Mem.ld tp ⟨k1, (0 + 1), none⟩) .u64 fun BG =>
 bG (Mem.ld tp ⟨k1, (0 + 2), none⟩) .i64 fun Fs =>
 K (.agg #[(.int .u64 xE), (.int .u64 BG), (.int .i64 Fs)]) tp)) Kp) :
 ae Try.prog 36 ([.pointer (some ⟨b0, o0, none⟩), .int .i64 x1] : List Value).toArray M K Kp :=
 cY (C := Cx) good [] Try.func36 (by kernel_rfl) (by kernel_rfl) h
theorem qZ  (h :
bq M (.map #[] 0) fun k1 M2 =>
bD Try.prog (Go.Instr.mapUpdate 104 (.map (some k1)) (iV 0) (.func (.func 60) #[] #[])) M2 (fun M3 =>
bD Try.prog (Go.Instr.mapUpdate 104 (.map (some k1)) (iV 1) (.func (.func 61) #[] #[])) M3 (fun M4 =>
bD Try.prog (Go.Instr.mapUpdate 104 (.map (some k1)) (iV 2) (.func (.func 62) #[] #[])) M4 (fun M5 =>
bD Try.prog (Go.Instr.mapUpdate 104 (.map (some k1)) (iV 3) (.func (.func 63) #[] #[])) M5 (fun M6 =>
bD Try.prog (Go.Instr.mapUpdate 104 (.map (some k1)) (iV 4) (.func (.func 64) #[] #[])) M6 (fun M7 =>
bD Try.prog (Go.Instr.mapUpdate 104 (.map (some k1)) (iV 5) (.func (.func 65) #[] #[])) M7 (fun M8 =>
bD Try.prog (Go.Instr.mapUpdate 104 (.map (some k1)) (iV 6) (.func (.func 66) #[] #[])) M8 (fun M9 =>
bD Try.prog (Go.Instr.mapUpdate 104 (.map (some k1)) (iV 7) (.func (.func 67) #[] #[])) M9 (fun xp =>
bD Try.prog (Go.Instr.mapUpdate 104 (.map (some k1)) (iV 8) (.func (.func 68) #[] #[])) xp (fun oh =>
K (.map (some k1)) oh) Kp) Kp) Kp) Kp) Kp) Kp) Kp) Kp) Kp) :
 ae Try.prog 37 #[] M K Kp := vw [] Try.func37 h
theorem kz {b0 o0 : Nat} {cv : Int} {cw : Int} {cy : Int} {ej : Int} (h :
bq M (cl [(iV cv), (iV cw), (iV cy), (iV ej)] 31) fun k1 M2 =>
rS M2 b0 (o0 + 3) fun A3 k4 k5 =>
rI M2 k1 1 fun n6 =>
rI M2 k1 1 fun n7 =>
rI M2 k1 2 fun n8 =>
((0 : Int) ≤ k5) ∧
((k5 : Int) ≤ k5) ∧
((0 : Int) ≤ (IntKind.wrap .i64 (n7 + n8))) ∧
(((IntKind.wrap .i64 (n7 + n8)) : Int) ≤ (k5 : Int)) ∧
(0 ≤ n6) ∧
((n6 : Int) ≤ (IntKind.wrap .i64 (n7 + n8))) ∧
K (.slice (mW A3 (Int.toNat n6) (Int.toNat (k5 : Int)) 3) ((Int.toNat (IntKind.wrap .i64 (n7 + n8))) - (Int.toNat n6)) ((Int.toNat (k5 : Int)) - (Int.toNat n6))) M2) :
 ae Try.prog 38 #[.pointer (some ⟨b0, o0, none⟩), .agg #[.int .i64 cv, .int .i64 cw, .int .i64 cy, .int .i64 ej]] M K Kp := vw [(1, .bL [0, 1, 3, 7, 15, 0, 32, 0, 128, 0, 512, 1920, 4095, 8191] (sy [0, 1, 2, 3, 5, 7, 9, 4, 6, 8, 10, 11, 12, 13] .done))] Try.func38 h
theorem kA {b0 o0 : Nat} {x1 : Int} {HR : Int} {HS : Int} {HT : Int} {HU : Int} (h :
bq M (cl [(iV HR), (iV HS), (iV HT), (iV HU)] 31) fun k1 M2 =>
rS M2 b0 (o0 + 4) fun A3 k4 k5 =>
((0 : Int) ≤ x1) ∧
((x1 : Int) < k4) ∧
aB A3 fun k6 k7 =>
rP M2 k6 (k7 + (Int.toNat x1)) fun A8 =>
rS M2 b0 (o0 + 4) fun A9 fm dM =>
((0 : Int) ≤ x1) ∧
((x1 : Int) < fm) ∧
aB A9 fun iJ gJ =>
rP M2 iJ (gJ + (Int.toNat x1)) fun vG =>
aB A8 fun mY fY =>
j9 M2 k1 0 fun tg m7 Bu jx =>
sT M2 mY fY (iV 2) fun z8 =>
((Mem.gr z8 ⟨k1, 0, none⟩ 0 4) = some [(iV tg), (iV m7), (iV Bu), (iV jx)]) ∧
aB vG fun iL jC =>
sT z8 iL (jC + 2) (iV tg) fun my =>
sT my iL ((jC + 2) + 1) (iV m7) fun Bw =>
sT Bw iL ((jC + 2) + 2) (iV Bu) fun xC =>
sT xC iL ((jC + 2) + 3) (iV jx) fun r9 =>
((Mem.gr r9 ⟨k1, 0, none⟩ 0 4) = some [(iV tg), (iV m7), (iV Bu), (iV jx)]) ∧
K (.tuple #[]) r9) :
 ae Try.prog 42 #[.pointer (some ⟨b0, o0, none⟩), .int .i64 x1, .agg #[.int .i64 HR, .int .i64 HS, .int .i64 HT, .int .i64 HU]] M K Kp := vw [(1, .bL [0, 1, 3, 7, 0, 31, 63, 0, 128, 384, 896, 0, 3968, 8064, 0, 16383, 49151, 114687, 262143, 524287, 1048575] (sy [0, 1, 2, 4, 7, 8, 9, 11, 3, 5, 6, 10, 12, 13, 15, 16] (.lz 14 (sy [17, 18, 19, 20] .done))))] Try.func42 h
theorem mE {b0 o0 : Nat} {x1 : Int} {x2 : Int} (h :
rS M b0 (o0 + 6) fun A1 k2 k3 =>
((0 : Int) ≤ x1) ∧
((x1 : Int) < k2) ∧
aB A1 fun k4 k5 =>
rP M k4 (k5 + (Int.toNat x1)) fun A6 =>
ae Try.prog 72 #[(.pointer A6), (iV x2)] M (fun v7 M8 =>
∃ n9 qU uf : Int, ∃ t12 : Bool, ∃ kX : Int, (v7 = (.tuple #[(.agg #[(iV n9), (iV qU), (iV uf)]), (.bool t12), (iV kX)])) ∧
bq M8 gn fun mo BI =>
Bh BI mo (iV n9) (iV qU) (iV uf) fun uL =>
aX (kX == 10)
 (Kp [{ v := (.iface 92 (iV (-1))), recovered := false }] uL)
 (aX t12
 (rI uL mo 0 fun Bu =>
 rI uL mo 1 fun jx =>
 rI uL mo 2 fun r7 =>
 ae Try.prog 73 #[(.pointer (some ⟨b0, o0, none⟩)), (.agg #[(iV Bu), (iV jx), (iV r7)]), (iV 1)] uL (fun C6 mw =>
 (C6 = (.tuple #[])) ∧
 K (.bool (kX == 0)) mw) Kp)
 (K (.bool (kX == 0)) uL))) Kp) :
 ae Try.prog 43 #[.pointer (some ⟨b0, o0, none⟩), .int .i64 x1, .int .i64 x2] M K Kp := vw [] Try.func43 h
theorem mF {b0 o0 : Nat} {x1 : Int} (h :
rS M b0 (o0 + 6) fun A1 k2 k3 =>
((0 : Int) ≤ x1) ∧
((x1 : Int) < k2) ∧
aB A1 fun k4 k5 =>
rP M k4 (k5 + (Int.toNat x1)) fun A6 =>
ae Try.prog 74 #[(.pointer A6)] M (fun v7 M8 =>
∃ n9 : Int, ∃ t10 : Bool, ∃ uf kj kX : Int, ∃ t14 : Bool, ∃ oH : Int, (v7 = (.tuple #[(.agg #[(iV n9), (.bool t10), (iV uf), (iV kj), (iV kX), (.bool t14)]), (iV oH)])) ∧
bq M8 iY fun fY qP =>
I8 qP fY (iV n9) (.bool t10) (iV uf) (iV kj) (iV kX) (.bool t14) fun mw =>
rB mw fY 5 fun t24 =>
aX t24
 (rI mw fY 2 fun ug =>
 rI mw fY (2 + 1) fun zG =>
 rI mw fY (2 + 2) fun C9 =>
 ae Try.prog 75 #[(.pointer (some ⟨b0, o0, none⟩)), (.agg #[(iV ug), (iV zG), (iV C9)])] mw (fun By ta =>
 (By = (.tuple #[])) ∧
 rB ta fY 1 fun t30 =>
 aX t30
 (rI ta fY 0 fun td =>
 K (.tuple #[(iV td), (iV 1), (.bool true)]) ta)
 (K (.tuple #[(iV 0), (iV 0), (.bool (oH == 0))]) ta)) Kp)
 (rB mw fY 1 fun t32 =>
 aX t32
 (rI mw fY 0 fun E6 =>
 K (.tuple #[(iV E6), (iV 1), (.bool true)]) mw)
 (K (.tuple #[(iV 0), (iV 0), (.bool (oH == 0))]) mw))) Kp) :
 ae Try.prog 44 #[.pointer (some ⟨b0, o0, none⟩), .int .i64 x1] M K Kp := vw [] Try.func44 h
theorem lI {b0 o0 : Nat} {x1 : Int} {b2 o2 : Nat} {c5 : Int} {c6 : Int} {c7 : Int} {c8 : Int} (h :
bq M (cl [(iV c5), (iV c6), (iV c7), (iV c8)] 31) fun k1 M2 =>
rS M2 b0 (o0 + 4) fun A3 k4 k5 =>
((0 : Int) ≤ x1) ∧
((x1 : Int) < k4) ∧
aB A3 fun k6 k7 =>
rP M2 k6 (k7 + (Int.toNat x1)) fun A8 =>
aB A8 fun k9 fm =>
rS M2 k9 (fm + 1) fun Ef iJ gJ =>
rI M2 k1 1 fun rX =>
rI M2 k1 2 fun oH =>
(0 ≤ oH) ∧
(oH < 8) ∧
rI M2 b2 ((o2 + 2) + (Int.toNat oH)) fun z6 =>
rI M2 k1 3 fun tg =>
ae Try.prog 76 #[(.slice Ef iJ gJ), (iV rX), (iV z6), (iV tg)] M2 (fun Bq kW =>
∃ Nb : Option Addr, ∃ uM iL : Nat, ∃ t23 : Bool, (Bq = (.tuple #[(.slice Nb uM iL), (.bool t23)])) ∧
aX (!t23)
 (Kp [{ v := (.iface 92 (iV (-4))), recovered := false }] kW)
 (rS kW b0 (o0 + 4) fun Fh s9 rY =>
 ((0 : Int) ≤ x1) ∧
 ((x1 : Int) < s9) ∧
 aB Fh fun D8 tj =>
 rP kW D8 (tj + (Int.toNat x1)) fun KC =>
 aB KC fun pT qQ =>
 sT kW pT (qQ + 1) (.slice Nb uM iL) fun m6 =>
 K (.tuple #[]) m6)) Kp) :
 ae Try.prog 45 #[.pointer (some ⟨b0, o0, none⟩), .int .i64 x1, .pointer (some ⟨b2, o2, none⟩), .agg #[.int .i64 c5, .int .i64 c6, .int .i64 c7, .int .i64 c8]] M K Kp := vw [(1, .bL [0, 1, 3, 7, 0, 31, 63, 127, 255, 511, 0, 1024, 0, 0, 8192, 4096, 36864, 126976, 258048, 0, 524288, 2097151, 4194303, 8388607, 8388607, 16777215, 67108863] (sy [0, 1, 2, 4, 10, 12, 13, 15, 16, 19, 3, 5, 6, 7, 8, 9, 11, 14, 17, 18, 20, 21, 22, 23, 24, 25, 26] .done))] Try.func45 h
theorem lJ {b0 o0 : Nat} {x1 : Int} {b2 o2 : Nat} {c5 : Int} {c6 : Int} {c7 : Int} {c8 : Int} (h :
bq M (cl [(iV c5), (iV c6), (iV c7), (iV c8)] 31) fun k1 M2 =>
rS M2 b0 (o0 + 4) fun A3 k4 k5 =>
((0 : Int) ≤ x1) ∧
((x1 : Int) < k4) ∧
aB A3 fun k6 k7 =>
rP M2 k6 (k7 + (Int.toNat x1)) fun A8 =>
aB A8 fun k9 fm =>
rS M2 k9 (fm + 1) fun Ef iJ gJ =>
rI M2 k1 1 fun rX =>
(0 ≤ rX) ∧
(rX < 8) ∧
rI M2 b2 ((o2 + 2) + (Int.toNat rX)) fun oH =>
ae Try.prog 77 #[(.slice Ef iJ gJ), (iV oH)] M2 (fun Fp qP =>
∃ Jd : Option Addr, ∃ oe oI : Nat, ∃ t21 : Bool, (Fp = (.tuple #[(.slice Jd oe oI), (.bool t21)])) ∧
aX t21
 (rS qP b0 (o0 + 4) fun HV jC r8 =>
 ((0 : Int) ≤ x1) ∧
 ((x1 : Int) < jC) ∧
 aB HV fun s9 rY =>
 rP qP s9 (rY + (Int.toNat x1)) fun Fo =>
 aB Fo fun tj qf =>
 sT qP tj (qf + 1) (.slice Jd oe oI) fun Cr =>
 K (.tuple #[]) Cr)
 (rS qP b0 (o0 + 4) fun KI uN qT =>
 ((0 : Int) ≤ x1) ∧
 ((x1 : Int) < uN) ∧
 aB KI fun z9 og =>
 rP qP z9 (og + (Int.toNat x1)) fun KX =>
 aB KX fun Gt g6 =>
 sT qP Gt g6 (iV 4) fun Je =>
 aX (x1 == 0)
 (sT Je b0 (o0 + 11) (iV 1) fun HW =>
 K (.tuple #[]) HW)
 (K (.tuple #[]) Je))) Kp) :
 ae Try.prog 46 #[.pointer (some ⟨b0, o0, none⟩), .int .i64 x1, .pointer (some ⟨b2, o2, none⟩), .agg #[.int .i64 c5, .int .i64 c6, .int .i64 c7, .int .i64 c8]] M K Kp := vw [(1, .bL [0, 1, 3, 7, 0, 31, 63, 127, 255, 511, 0, 0, 2048, 1024, 9216, 31744, 64512, 131071, 262143, 524287, 524287, 1048575, 4194303] (sy [0, 1, 2, 4, 10, 11, 13, 14, 3, 5, 6, 7, 8, 9, 12, 15, 16, 17, 18, 19, 20, 21, 22] .done))] Try.func46 h
theorem kB {b0 o0 : Nat} {x1 : Int} {b2 o2 : Nat} {c5 : Int} {c6 : Int} {c7 : Int} {c8 : Int} (h :
bq M (cl [(iV c5), (iV c6), (iV c7), (iV c8)] 31) fun k1 M2 =>
rS M2 b0 (o0 + 4) fun A3 k4 k5 =>
aX (decide ((k4 : Int) ≥ 100))
 (Kp [{ v := (.iface 92 (iV (-5))), recovered := false }] M2)
 (rS M2 b0 (o0 + 4) fun A6 k7 k8 =>
 ∃ J9 : List Value → Mem → Prop, (rI M2 k1 1 fun qU =>
 rI M2 k1 2 fun uf =>
 (0 ≤ uf) ∧
 (uf < 8) ∧
 rI M2 b2 ((o2 + 2) + (Int.toNat uf)) fun kj =>
 (rS M2 b0 (o0 + 4) fun Ho mo mY =>
 ae Try.prog 22 #[(iV qU), (iV kj)] M2 (fun Fp qP =>
 aE (some Fp) fun Jd oe oI =>
 bq qP (cl [(iV 0), (.slice Jd oe oI), (iV 0), (iV 0), (iV 0), (iV 0)] 68) fun uM Ct =>
 bq Ct (cl [(.pointer (some ⟨uM, 0, none⟩))] 65) fun jC my =>
 aA 69 Ho mo mY (some ⟨jC, 0, none⟩) 1 1 my (fun HM xC =>
 aE (some HM) fun Fo tj qf =>
 sT xC b0 (o0 + 4) (.slice Fo tj qf) fun Cr =>
 J9 [] Cr) Kp) Kp) ∧
 (ae Try.prog 22 #[(iV qU), (iV kj)] M2 (fun Fc m6 =>
 aE (some Fc) fun Hy z9 og =>
 rS m6 b0 (o0 + 4) fun KX Gt g6 =>
 bq m6 (cl [(iV 0), (.slice Hy z9 og), (iV 0), (iV 0), (iV 0), (iV 0)] 68) fun zH HW =>
 bq HW (cl [(.pointer (some ⟨zH, 0, none⟩))] 65) fun D6 KW =>
 aA 69 KX Gt g6 (some ⟨D6, 0, none⟩) 1 1 KW (fun Ol KY =>
 aE (some Ol) fun Om E9 Hu =>
 sT KY b0 (o0 + 4) (.slice Om E9 Hu) fun Kk =>
 J9 [] Kk) Kp) Kp) ∧
 True) ∧
 ∀ KZ : Nat → Value, ∀ D7 : Mem, (J9 [] D7) → ae Try.prog 29 #[(.pointer (some ⟨b0, o0, none⟩)), (iV (k7 : Int))] D7 (fun K0 HX =>
 (K0 = (.tuple #[])) ∧
 rI HX k1 3 fun HY =>
 (0 ≤ HY) ∧
 (HY < 8) ∧
 sT HX b2 ((o2 + 2) + (Int.toNat HY)) (iV (k7 : Int)) fun Hv =>
 K (.tuple #[]) Hv) Kp)) :
 ae Try.prog 47 #[.pointer (some ⟨b0, o0, none⟩), .int .i64 x1, .pointer (some ⟨b2, o2, none⟩), .agg #[.int .i64 c5, .int .i64 c6, .int .i64 c7, .int .i64 c8]] M K Kp := vw [(4, .CP [0, 0, 2, 6, 14, 0, 32, 0, 0, 256, 128, 1152, 3968, 8064, 16352, 32736, 65504, 131040, 262142, 524287, 1048575, 2097151] (sy [0, 1, 2, 3, 5, 7, 8, 10, 11, 6, 9, 12, 13] (.fork 4 (sy [14, 15, 16, 17, 18, 19, 20, 21] .done) (.fork 14 (sy [15, 4, 16, 17, 18, 19, 20, 21] .done) .dead))) []), (6, .bL [0, 0, 2, 0, 1, 17, 63, 127] (sy [0, 1, 3, 4, 5, 2, 6, 7] .done))] Try.func47 h
theorem kC {b0 o0 : Nat} {x1 : Int} {b2 o2 : Nat} {c5 : Int} {c6 : Int} {c7 : Int} {c8 : Int} (h :
bq M (cl [(iV c5), (iV c6), (iV c7), (iV c8)] 31) fun k1 M2 =>
K (.tuple #[]) M2) :
 ae Try.prog 48 #[.pointer (some ⟨b0, o0, none⟩), .int .i64 x1, .pointer (some ⟨b2, o2, none⟩), .agg #[.int .i64 c5, .int .i64 c6, .int .i64 c7, .int .i64 c8]] M K Kp := vw [] Try.func48 h
theorem lK {b0 o0 : Nat} {x1 : Int} {b2 o2 : Nat} {c5 : Int} {c6 : Int} {c7 : Int} {c8 : Int} (h :
bq M (cl [(iV c5), (iV c6), (iV c7), (iV c8)] 31) fun k1 M2 =>
rI M2 k1 1 fun n3 =>
rI M2 k1 2 fun n4 =>
(0 ≤ n4) ∧
(n4 < 8) ∧
rI M2 b2 ((o2 + 2) + (Int.toNat n4)) fun n5 =>
ae Try.prog 43 #[(.pointer (some ⟨b0, o0, none⟩)), (iV n3), (iV n5)] M2 (fun v6 M7 =>
dz (some v6) fun t8 =>
aX (!t8)
 (rS M7 b0 (o0 + 6) fun A9 fm dM =>
 rI M7 k1 1 fun kj =>
 (0 ≤ kj) ∧
 (kj < fm) ∧
 aB A9 fun gJ mo =>
 rP M7 gJ (mo + (Int.toNat kj)) fun qe =>
 rI M7 k1 2 fun z6 =>
 (0 ≤ z6) ∧
 (z6 < 8) ∧
 rI M7 b2 ((o2 + 2) + (Int.toNat z6)) fun tg =>
 ae Try.prog 71 #[(.pointer qe), (.agg #[(iV x1), (iV 0), (iV tg)])] M7 (fun Bq kW =>
 (Bq = (.tuple #[])) ∧
 j9 kW k1 0 fun jx r7 xq Bv =>
 ae Try.prog 42 #[(.pointer (some ⟨b0, o0, none⟩)), (iV x1), (.agg #[(iV jx), (iV r7), (iV xq), (iV Bv)])] kW (fun On Bw =>
 (On = (.tuple #[])) ∧
 K (.tuple #[]) Bw) Kp) Kp)
 (K (.tuple #[]) M7)) Kp) :
 ae Try.prog 49 #[.pointer (some ⟨b0, o0, none⟩), .int .i64 x1, .pointer (some ⟨b2, o2, none⟩), .agg #[.int .i64 c5, .int .i64 c6, .int .i64 c7, .int .i64 c8]] M K Kp := vw [(1, .bL [0, 0, 2, 0, 0, 16, 8, 72, 248, 504, 1023, 2047] (sy [0, 1, 3, 4, 6, 7, 2, 5, 8, 9, 10, 11] .done)), (2, .bL [0, 1, 3, 7, 0, 16, 63, 127, 0, 0, 0, 1024, 512, 4608, 15872, 32256, 65280, 131071] (sy [0, 1, 2, 4, 8, 9, 10, 12, 13, 3, 5, 6, 7, 11, 14, 15, 16, 17] .done))] Try.func49 h
theorem lM {b0 o0 : Nat} {x1 : Int} {b2 o2 : Nat} {c5 : Int} {c6 : Int} {c7 : Int} {c8 : Int} (h :
bq M (cl [(iV c5), (iV c6), (iV c7), (iV c8)] 31) fun k1 M2 =>
rI M2 k1 1 fun n3 =>
ae Try.prog 44 #[(.pointer (some ⟨b0, o0, none⟩)), (iV n3)] M2 (fun v4 M5 =>
∃ n6 n7 : Int, ∃ t8 : Bool, (v4 = (.tuple #[(iV n6), (iV n7), (.bool t8)])) ∧
aX (!t8)
 (rS M5 b0 (o0 + 6) fun A9 fm dM =>
 rI M5 k1 1 fun kj =>
 (0 ≤ kj) ∧
 (kj < fm) ∧
 aB A9 fun gJ mo =>
 rP M5 gJ (mo + (Int.toNat kj)) fun qe =>
 ae Try.prog 70 #[(.pointer qe), (.agg #[(iV x1), (iV 0), (iV 0)])] M5 (fun Fp qP =>
 (Fp = (.tuple #[])) ∧
 j9 qP k1 0 fun m7 Bu jx r7 =>
 ae Try.prog 42 #[(.pointer (some ⟨b0, o0, none⟩)), (iV x1), (.agg #[(iV m7), (iV Bu), (iV jx), (iV r7)])] qP (fun C6 mw =>
 (C6 = (.tuple #[])) ∧
 K (.tuple #[]) mw) Kp) Kp)
 (rI M5 k1 2 fun Ae =>
 (0 ≤ Ae) ∧
 (Ae < 8) ∧
 rI M5 k1 3 fun ug =>
 sT M5 b2 ((o2 + 2) + (Int.toNat Ae)) (iV n6) fun xC =>
 eI xC k1 3 ug ∧
 (0 ≤ ug) ∧
 (ug < 8) ∧
 sT xC b2 ((o2 + 2) + (Int.toNat ug)) (iV n7) fun r9 =>
 eI r9 k1 3 ug ∧
 K (.tuple #[]) r9)) Kp) :
 ae Try.prog 50 #[.pointer (some ⟨b0, o0, none⟩), .int .i64 x1, .pointer (some ⟨b2, o2, none⟩), .agg #[.int .i64 c5, .int .i64 c6, .int .i64 c7, .int .i64 c8]] M K Kp := vw [(3, .bL [0, 1, 3, 7, 0, 16, 63, 127, 0, 256, 1023] (sy [0, 1, 2, 4, 8, 9, 3, 5, 6, 7, 10] .done)), (5, .bL [0, 0, 2, 0, 0, 16, 0, 0, 1, 257, 839, 1863, 8, 4104, 16383, 32767] (sy [0, 1, 3, 4, 6, 7, 8, 9, 12, 13, 2, 10] (.lz 5 (sy [11, 14, 15] .done))))] Try.func50 h
theorem lN {b0 o0 : Nat} {x1 : Int} {b2 o2 : Nat} {c5 : Int} {c6 : Int} {c7 : Int} {c8 : Int} (h :
bq M (cl [(iV c5), (iV c6), (iV c7), (iV c8)] 31) fun k1 M2 =>
rS M2 b0 (o0 + 6) fun A3 k4 k5 =>
rI M2 k1 1 fun n6 =>
(0 ≤ n6) ∧
(n6 < k4) ∧
aB A3 fun k7 k8 =>
rP M2 k7 (k8 + (Int.toNat n6)) fun A9 =>
ae Try.prog 78 #[(.pointer A9)] M2 (fun v10 oh =>
∃ Aa : Option Addr, ∃ gJ mo : Nat, ∃ qe : Option Addr, ∃ fY jN : Nat, ∃ m7 : Int, (v10 = (.tuple #[(.slice Aa gJ mo), (.slice qe fY jN), (iV m7)])) ∧
aX (m7 != 0)
 (Kp [{ v := (.iface 92 (iV (-2))), recovered := false }] oh)
 (aX (decide ((fY : Int) > 0))
 (Kp [{ v := (.iface 92 (iV (-1))), recovered := false }] oh)
 (∃ Jf : IT, (∃ oI, Jf oI [(iV 0)] oh) ∧
 ∀ (uM : Nat) (_ : Nat → Value) (Bv : Int) (my : Mem), (Jf uM [(iV Bv)] my) → aX (decide (Bv < gJ))
 ((0 ≤ Bv) ∧
 (Bv < gJ) ∧
 aB Aa fun s9 rY =>
 j8 my s9 (rY + ((Int.toNat Bv) * 3)) fun C9 D9 Ad =>
 bq my gn fun pT K2 =>
 Bh K2 pT (iV C9) (iV D9) (iV Ad) fun om =>
 rS om b0 (o0 + 4) fun KL Fj Gt =>
 rI om pT 0 fun E8 =>
 (0 ≤ E8) ∧
 (E8 < Fj) ∧
 aB KL fun zH Hz =>
 rP om zH (Hz + (Int.toNat E8)) fun Oo =>
 aB Oo fun Gn Fe =>
 rI om Gn Fe fun xE =>
 aX (xE == 2)
 (sT om pT 2 (iV 0) fun Gv =>
 j8 Gv pT 0 fun Fs C4 K3 =>
 ae Try.prog 73 #[(.pointer (some ⟨b0, o0, none⟩)), (.agg #[(iV Fs), (iV C4), (iV K3)]), (iV 0)] Gv (fun Kl D7 =>
 (Kl = (.tuple #[])) ∧
 ∃ Jg : Nat, (Jg < uM) ∧
 Jf Jg [(iV (IntKind.wrap .i64 (Bv + 1)))] D7) Kp)
 (∃ C1 : Nat, (C1 < uM) ∧
 Jf C1 [(iV (IntKind.wrap .i64 (Bv + 1)))] om))
 (K (.tuple #[]) my)))) Kp) :
 ae Try.prog 51 #[.pointer (some ⟨b0, o0, none⟩), .int .i64 x1, .pointer (some ⟨b2, o2, none⟩), .agg #[.int .i64 c5, .int .i64 c6, .int .i64 c7, .int .i64 c8]] M K Kp := vw [(1, .bL [0, 1, 3, 7, 0, 16, 63, 127, 255, 511, 1023, 1023, 1023, 2047, 12287, 32767] (sy [0, 1, 2, 4, 3, 5, 6, 7, 8, 9, 10, 11, 12, 13, 14, 15] .done)), (2000001, .loop [(37, .c (.int .i64))]), (9, .bL [0, 1, 3, 7, 0, 16, 63, 127, 255, 511, 1023, 2047] (sy [0, 1, 2, 4, 3, 5, 6, 7, 8, 9, 10, 11] .done))] Try.func51 h
theorem kD {b0 o0 : Nat} {x1 : Int} {b2 o2 : Nat} {c5 : Int} {c6 : Int} {c7 : Int} {c8 : Int} (h :
bq M (cl [(iV c5), (iV c6), (iV c7), (iV c8)] 31) fun k1 M2 =>
rI M2 k1 1 fun n3 =>
(0 ≤ n3) ∧
(n3 < 8) ∧
rI M2 b2 ((o2 + 2) + (Int.toNat n3)) fun n4 =>
aX (decide (((if (1048576 : Int) < n4 then 1048576 else n4) : Int) > 0))
 (rU M2 b0 (o0 + 5) fun n5 =>
 ae Try.prog 79 #[(.pointer (some ⟨b0, (o0 + 8), none⟩)), (.int .u64 (IntKind.wrap .u64 (n5 + (IntKind.wrap .u64 (if (1048576 : Int) < n4 then 1048576 else n4))))), (iV x1)] M2 (fun v6 M7 =>
 bG (some v6) .u64 fun n8 =>
 rS M7 b0 (o0 + 4) fun A9 fm dM =>
 ((0 : Int) ≤ x1) ∧
 ((x1 : Int) < fm) ∧
 aB A9 fun iJ gJ =>
 rP M7 iJ (gJ + (Int.toNat x1)) fun vG =>
 aB vG fun mY fY =>
 sT M7 mY fY (iV 3) fun qP =>
 K (.tuple #[]) qP) Kp)
 (K (.tuple #[]) M2)) :
 ae Try.prog 52 #[.pointer (some ⟨b0, o0, none⟩), .int .i64 x1, .pointer (some ⟨b2, o2, none⟩), .agg #[.int .i64 c5, .int .i64 c6, .int .i64 c7, .int .i64 c8]] M K Kp := vw [(1, .bL [0, 0, 2, 1, 9, 31, 63, 127, 255] (sy [0, 1, 3, 4, 2, 5, 6, 7, 8] .done)), (3, .bL [0, 1, 3, 0, 8, 24, 56, 0, 128, 504, 0, 2047] (sy [0, 1, 2, 3, 4, 5, 7, 8, 10, 6, 9, 11] .done))] Try.func52 h
theorem lO {b0 o0 : Nat} {x1 : Int} {b2 o2 : Nat} {c5 : Int} {c6 : Int} {c7 : Int} {c8 : Int} (h :
bq M (cl [(iV c5), (iV c6), (iV c7), (iV c8)] 31) fun k1 M2 =>
rS M2 b0 (o0 + 7) fun A3 k4 k5 =>
rI M2 k1 1 fun n6 =>
(0 ≤ n6) ∧
(n6 < k4) ∧
aB A3 fun k7 k8 =>
rP M2 k7 (k8 + (Int.toNat n6)) fun A9 =>
ae Try.prog 80 #[(.pointer A9), (iV x1)] M2 (fun v10 oh =>
dz (some v10) fun t12 =>
aX (!t12)
 (rI oh k1 0 fun kX =>
 rI oh k1 1 fun rX =>
 rI oh k1 2 fun oH =>
 rI oh k1 3 fun z6 =>
 ae Try.prog 42 #[(.pointer (some ⟨b0, o0, none⟩)), (iV x1), (.agg #[(iV kX), (iV rX), (iV oH), (iV z6)])] oh (fun Oq uL =>
 (Oq = (.tuple #[])) ∧
 K (.tuple #[]) uL) Kp)
 (K (.tuple #[]) oh)) Kp) :
 ae Try.prog 53 #[.pointer (some ⟨b0, o0, none⟩), .int .i64 x1, .pointer (some ⟨b2, o2, none⟩), .agg #[.int .i64 c5, .int .i64 c6, .int .i64 c7, .int .i64 c8]] M K Kp := vw [(1, .bL [0, 1, 3, 7, 0, 16, 63, 127, 0, 511, 1023] (sy [0, 1, 2, 4, 8, 3, 5, 6, 7, 9, 10] .done))] Try.func53 h
theorem jE {b0 o0 : Nat} {x1 : Int} {b2 o2 : Nat} {c5 : Int} {c6 : Int} {c7 : Int} {c8 : Int} (h :
bq M (cl [(iV c5), (iV c6), (iV c7), (iV c8)] 31) fun k1 M2 =>
rS M2 b0 (o0 + 7) fun A3 k4 k5 =>
rI M2 k1 1 fun n6 =>
(0 ≤ n6) ∧
(n6 < k4) ∧
aB A3 fun k7 k8 =>
rP M2 k7 (k8 + (Int.toNat n6)) fun A9 =>
ae Try.prog 81 #[(.pointer A9), (iV x1)] M2 (fun v10 oh =>
∃ kj kX : Int, (v10 = (.tuple #[(iV kj), (iV kX)])) ∧
aX (kX != 0)
 (Kp [{ v := (.iface 92 (iV (-3))), recovered := false }] oh)
 (aX (kj != (-1))
 (ae Try.prog 29 #[(.pointer (some ⟨b0, o0, none⟩)), (iV kj)] oh (fun K4 BI =>
 (K4 = (.tuple #[])) ∧
 K (.tuple #[]) BI) Kp)
 (K (.tuple #[]) oh))) Kp) :
 ae Try.prog 54 #[.pointer (some ⟨b0, o0, none⟩), .int .i64 x1, .pointer (some ⟨b2, o2, none⟩), .agg #[.int .i64 c5, .int .i64 c6, .int .i64 c7, .int .i64 c8]] M K Kp := vw [(1, .bL [0, 1, 3, 7, 0, 16, 63, 127, 0, 511, 1023, 2047, 2047, 4095, 16383] (sy [0, 1, 2, 4, 8, 3, 5, 6, 7, 9, 10, 11, 12, 13, 14] .done))] Try.func54 h
theorem lP {b0 o0 : Nat} {x1 : Int} {b2 o2 : Nat} {c5 : Int} {c6 : Int} {c7 : Int} {c8 : Int} (h :
bq M (cl [(iV c5), (iV c6), (iV c7), (iV c8)] 31) fun k1 M2 =>
rS M2 b0 (o0 + 10) fun A3 k4 k5 =>
aX (decide ((k4 : Int) ≥ 1000))
 (Kp [{ v := (.iface 92 (iV (-6))), recovered := false }] M2)
 (rS M2 b0 (o0 + 10) fun A6 k7 k8 =>
 rI M2 k1 1 fun n9 =>
 (0 ≤ n9) ∧
 (n9 < 8) ∧
 rI M2 b2 ((o2 + 2) + (Int.toNat n9)) fun qU =>
 bq M2 (cl [(iV qU)] 2) fun dM s0 =>
 aA 46 A6 k7 k8 (some ⟨dM, 0, none⟩) 1 1 s0 (fun Cq mZ =>
 aE (some Cq) fun qe fY jN =>
 sT mZ b0 (o0 + 10) (.slice qe fY jN) fun uL =>
 K (.tuple #[]) uL) Kp)) :
 ae Try.prog 55 #[.pointer (some ⟨b0, o0, none⟩), .int .i64 x1, .pointer (some ⟨b2, o2, none⟩), .agg #[.int .i64 c5, .int .i64 c6, .int .i64 c7, .int .i64 c8]] M K Kp := vw [(3, .bL [0, 0, 2, 6, 14, 0, 0, 64, 32, 288, 992, 2016, 4064, 8190, 16383, 32767, 65535] (sy [0, 1, 2, 3, 5, 6, 8, 9, 4, 7, 10, 11, 12, 13, 14, 15, 16] .done))] Try.func55 h
theorem lQ {b0 o0 : Nat} {x1 : Int} {b2 o2 : Nat} {c5 : Int} {c6 : Int} {c7 : Int} {c8 : Int} (h :
bq M (cl [(iV c5), (iV c6), (iV c7), (iV c8)] 31) fun k1 M2 =>
rI M2 k1 1 fun n3 =>
Kp [{ v := (.iface 92 (iV n3)), recovered := false }] M2) :
 ae Try.prog 56 #[.pointer (some ⟨b0, o0, none⟩), .int .i64 x1, .pointer (some ⟨b2, o2, none⟩), .agg #[.int .i64 c5, .int .i64 c6, .int .i64 c7, .int .i64 c8]] M K Kp := vw [] Try.func56 h
theorem nG {b0 o0 : Nat} {x1 : Int} {x2 : Int} (h :
aE (Mem.ld M ⟨b0, o0, none⟩) fun A1 k2 k3 =>
aE (Mem.ld M ⟨b0, o0, none⟩) fun A4 k5 k6 =>
aE (Mem.ld M ⟨b0, o0, none⟩) fun A7 k8 k9 =>
((0 : Int) ≤ x2) ∧
((x2 : Int) < ((k8 : Nat) : Int)) ∧
aB A7 fun fm dM =>
bG (Mem.ld M ⟨fm, (dM + ((Int.toNat x2) * 3)), none⟩) .u64 fun kj =>
bG (Mem.ld M ⟨fm, ((dM + ((Int.toNat x2) * 3)) + 1), none⟩) .u64 fun kX =>
bG (Mem.ld M ⟨fm, ((dM + ((Int.toNat x2) * 3)) + 2), none⟩) .i64 fun rX =>
aE (Mem.ld M ⟨b0, o0, none⟩) fun qe fY jN =>
((0 : Int) ≤ x1) ∧
((x1 : Int) < ((fY : Nat) : Int)) ∧
aB qe fun iw oe =>
bG (Mem.ld M ⟨iw, (oe + ((Int.toNat x1) * 3)), none⟩) .u64 fun jx =>
bG (Mem.ld M ⟨iw, ((oe + ((Int.toNat x1) * 3)) + 1), none⟩) .u64 fun r7 =>
bG (Mem.ld M ⟨iw, ((oe + ((Int.toNat x1) * 3)) + 2), none⟩) .i64 fun xq =>
((0 : Int) ≤ x1) ∧
((x1 : Int) < ((k2 : Nat) : Int)) ∧
aB A1 fun jC r8 =>
bW M ⟨jC, (r8 + ((Int.toNat x1) * 3)), none⟩ (.int .u64 kj) fun Bw =>
bW Bw ⟨jC, ((r8 + ((Int.toNat x1) * 3)) + 1), none⟩ (.int .u64 kX) fun xC =>
bW xC ⟨jC, ((r8 + ((Int.toNat x1) * 3)) + 2), none⟩ (.int .i64 rX) fun r9 =>
((0 : Int) ≤ x2) ∧
((x2 : Int) < ((k5 : Nat) : Int)) ∧
aB A4 fun tj qf =>
bW r9 ⟨tj, (qf + ((Int.toNat x2) * 3)), none⟩ (.int .u64 jx) fun Cr =>
bW Cr ⟨tj, ((qf + ((Int.toNat x2) * 3)) + 1), none⟩ (.int .u64 r7) fun K2 =>
bW K2 ⟨tj, ((qf + ((Int.toNat x2) * 3)) + 2), none⟩ (.int .i64 xq) fun m6 =>
K (.tuple #[]) m6) :
 ae Try.prog 57 ([.pointer (some ⟨b0, o0, none⟩), .int .i64 x1, .int .i64 x2] : List Value).toArray M K Kp :=
 cY (C := Cx) good [(0, .bL [0, 1, 3, 7, 0, 0, 32, 96, 224, 0, 0, 1024, 3072, 7168, 0, 31744, 64512, 0, 131072, 393216, 917504, 0, 4063232, 8257536, 16776703, 33553919, 67108863, 134217727] (.step 0 (.step 1 (.step 2 (.step 4 (.step 5 (.step 6 (.step 7 (.step 9 (.step 10 (.step 11 (.step 12 (.step 14 (.step 17 (.step 18 (.step 19 (.step 21 (.step 3 (.step 8 (.step 13 (.step 15 (.step 16 (.step 20 (.step 22 (.step 23 (.step 24 (.step 25 (.step 26 (.step 27 .done)))))))))))))))))))))))))))))] Try.func57 (by kernel_rfl) (by kernel_rfl) h
theorem nH {b0 o0 : Nat} {x1 : Int} (h :
ae Try.prog 82 #[(.pointer (some ⟨b0, o0, none⟩)), (iV x1)] M (fun v1 M2 =>
bG (some v1) .i64 fun n3 =>
∃ I4 : IT, (∃ k5, I4 k5 [(iV x1), (iV n3)] M2) ∧
∀ (k6 : Nat) (_ : Nat → Value) (n8 : Int) (n9 : Int) (xp : Mem), (I4 k6 [(iV n8), (iV n9)] xp) → aX (n9 != n8)
 (ae Try.prog 57 #[(.pointer (some ⟨b0, o0, none⟩)), (iV n8), (iV n9)] xp (fun v11 s0 =>
 (v11 = (.tuple #[])) ∧
 ae Try.prog 82 #[(.pointer (some ⟨b0, o0, none⟩)), (iV n9)] s0 (fun Cq mZ =>
 bG (some Cq) .i64 fun oH =>
 ∃ fY : Nat, (fY < k6) ∧
 I4 fY [(iV n9), (iV oH)] mZ) Kp) Kp)
 (K (.tuple #[]) xp)) Kp) :
 ae Try.prog 58 #[.pointer (some ⟨b0, o0, none⟩), .int .i64 x1] M K Kp := vw [(2000000, .loop [(1, .c (.int .i64)), (4, .c (.int .i64))])] Try.func58 h
theorem pU {b0 o0 : Nat} {x1 : Int} (h :
∃ I1 : Nat → List Value → Mem → Prop, (∃ k2 : Nat, I1 k2 [(.int .i64 x1)] M) ∧
∀ k3 : Nat, ∀ Ee : Nat → Value, ∀ n5 : Int, ∀ M6 : Mem, (I1 k3 [(.int .i64 n5)] M6) → aX (decide ((n5 : Int) > 0))
 (((4 : Int) ≠ 0) ∧
 aE (Mem.ld M6 ⟨b0, o0, none⟩) fun A7 k8 k9 =>
 ((0 : Int) ≤ n5) ∧
 ((n5 : Int) < ((k8 : Nat) : Int)) ∧
 aB A7 fun fm dM =>
 bG (Mem.ld M6 ⟨fm, (dM + ((Int.toNat n5) * 3)), none⟩) .u64 fun kj =>
 bG (Mem.ld M6 ⟨fm, ((dM + ((Int.toNat n5) * 3)) + 1), none⟩) .u64 fun kX =>
 bG (Mem.ld M6 ⟨fm, ((dM + ((Int.toNat n5) * 3)) + 2), none⟩) .i64 fun rX =>
 aE (Mem.ld M6 ⟨b0, o0, none⟩) fun qe fY jN =>
 ((0 : Int) ≤ (IntKind.wrap .i64 (Int.tdiv (IntKind.wrap .i64 (n5 - 1)) 4))) ∧
 (((IntKind.wrap .i64 (Int.tdiv (IntKind.wrap .i64 (n5 - 1)) 4)) : Int) < ((fY : Nat) : Int)) ∧
 aB qe fun iw oe =>
 bG (Mem.ld M6 ⟨iw, (oe + ((Int.toNat (IntKind.wrap .i64 (Int.tdiv (IntKind.wrap .i64 (n5 - 1)) 4))) * 3)), none⟩) .u64 fun jx =>
 bG (Mem.ld M6 ⟨iw, ((oe + ((Int.toNat (IntKind.wrap .i64 (Int.tdiv (IntKind.wrap .i64 (n5 - 1)) 4))) * 3)) + 1), none⟩) .u64 fun r7 =>
 bG (Mem.ld M6 ⟨iw, ((oe + ((Int.toNat (IntKind.wrap .i64 (Int.tdiv (IntKind.wrap .i64 (n5 - 1)) 4))) * 3)) + 2), none⟩) .i64 fun xq =>
 ae Try.prog 83 #[(.agg #[(.int .u64 kj), (.int .u64 kX), (.int .i64 rX)]), (.agg #[(.int .u64 jx), (.int .u64 r7), (.int .i64 xq)])] M6 (fun KD my =>
 dz (some KD) fun t25 =>
 aX t25
  (((4 : Int) ≠ 0) ∧
  ae Try.prog 57 #[(.pointer (some ⟨b0, o0, none⟩)), (.int .i64 n5), (.int .i64 (IntKind.wrap .i64 (Int.tdiv (IntKind.wrap .i64 (n5 - 1)) 4)))] my (fun HH r9 =>
  (HH = (.tuple #[])) ∧
  ((4 : Int) ≠ 0) ∧
  ∃ tj : Nat, (tj < k3) ∧
  I1 tj [(.int .i64 (IntKind.wrap .i64 (Int.tdiv (IntKind.wrap .i64 (n5 - 1)) 4)))] r9) Kp)
  (K (.tuple #[]) my)) Kp)
 (K (.tuple #[]) M6)) :
 ae Try.prog 59 ([.pointer (some ⟨b0, o0, none⟩), .int .i64 x1] : List Value).toArray M K Kp :=
 cY (C := Cx) good [(2000000, .loop [(1, .c (.int .i64))]), (0, .bL [0, 1, 3, 7, 15, 31, 63, 7, 255, 511, 7, 1031, 3079, 7175, 7, 16391, 49159, 130055, 261127, 524287, 1048575] (.step 0 (.step 1 (.step 2 (.step 3 (.step 4 (.step 5 (.step 7 (.step 10 (.step 11 (.step 12 (.step 14 (.step 15 (.step 16 (.step 6 (.step 8 (.step 9 (.step 13 (.step 17 (.step 18 (.step 19 (.step 20 .done))))))))))))))))))))))] Try.func59 (by kernel_rfl) (by kernel_rfl) h
theorem mG {b0 o0 : Nat} {cv : Int} {cw : Int} {cy : Int} {ej : Int} (h :
bq M (cl [(iV cv), (iV cw), (iV cy), (iV ej)] 31) fun k1 M2 =>
K (.tuple #[]) M2) :
 ae Try.prog 60 #[.pointer (some ⟨b0, o0, none⟩), .agg #[.int .i64 cv, .int .i64 cw, .int .i64 cy, .int .i64 ej]] M K Kp := vw [] Try.func60 h
theorem iz {b0 o0 : Nat} {cv : Int} {cw : Int} {cy : Int} {ej : Int} (h :
bq M (cl [(iV cv), (iV cw), (iV cy), (iV ej)] 31) fun k1 M2 =>
rI M2 k1 1 fun n3 =>
rI M2 k1 2 fun n4 =>
(0 ≤ n3) ∧
(n3 < 8) ∧
sT M2 b0 ((o0 + 2) + (Int.toNat n3)) (iV n4) fun M5 =>
K (.tuple #[]) M5) :
 ae Try.prog 61 #[.pointer (some ⟨b0, o0, none⟩), .agg #[.int .i64 cv, .int .i64 cw, .int .i64 cy, .int .i64 ej]] M K Kp := vw [(1, .bL [0, 0, 2, 0, 8, 1, 33, 127, 255] (sy [0, 1, 3, 5, 6, 2, 4, 7, 8] .done))] Try.func61 h
theorem lR {b0 o0 : Nat} {cv : Int} {cw : Int} {cy : Int} {ej : Int} (h :
bq M (cl [(iV cv), (iV cw), (iV cy), (iV ej)] 31) fun k1 M2 =>
rI M2 k1 1 fun n3 =>
rI M2 k1 2 fun n4 =>
(0 ≤ n4) ∧
(n4 < 8) ∧
rI M2 b0 ((o0 + 2) + (Int.toNat n4)) fun n5 =>
(0 ≤ n3) ∧
(n3 < 8) ∧
sT M2 b0 ((o0 + 2) + (Int.toNat n3)) (iV n5) fun M6 =>
K (.tuple #[]) M6) :
 ae Try.prog 62 #[.pointer (some ⟨b0, o0, none⟩), .agg #[.int .i64 cv, .int .i64 cw, .int .i64 cy, .int .i64 ej]] M K Kp := vw [(1, .bL [0, 0, 2, 0, 0, 16, 8, 72, 248, 504, 1, 1025, 4095, 8191] (sy [0, 1, 3, 4, 6, 7, 10, 11, 2, 5, 8, 9, 12, 13] .done))] Try.func62 h
theorem mH {b0 o0 : Nat} {cv : Int} {cw : Int} {cy : Int} {ej : Int} (h :
bq M (cl [(iV cv), (iV cw), (iV cy), (iV ej)] 31) fun k1 M2 =>
rI M2 k1 1 fun n3 =>
rI M2 k1 2 fun n4 =>
(0 ≤ n4) ∧
(n4 < 8) ∧
rI M2 b0 ((o0 + 2) + (Int.toNat n4)) fun n5 =>
rI M2 k1 3 fun n6 =>
(0 ≤ n6) ∧
(n6 < 8) ∧
rI M2 b0 ((o0 + 2) + (Int.toNat n6)) fun n7 =>
(0 ≤ n3) ∧
(n3 < 8) ∧
sT M2 b0 ((o0 + 2) + (Int.toNat n3)) (iV (IntKind.wrap .i64 (n5 + n7))) fun M8 =>
K (.tuple #[]) M8) :
 ae Try.prog 63 #[.pointer (some ⟨b0, o0, none⟩), .agg #[.int .i64 cv, .int .i64 cw, .int .i64 cy, .int .i64 ej]] M K Kp := vw [(1, .bL [0, 0, 2, 0, 0, 16, 8, 72, 248, 504, 0, 0, 2048, 1024, 9216, 31744, 64512, 131064, 1, 262145, 1048575, 2097151] (sy [0, 1, 3, 4, 6, 7, 10, 11, 13, 14, 18, 19, 2, 5, 8, 9, 12, 15, 16, 17, 20, 21] .done))] Try.func63 h
theorem mI {b0 o0 : Nat} {cv : Int} {cw : Int} {cy : Int} {ej : Int} (h :
bq M (cl [(iV cv), (iV cw), (iV cy), (iV ej)] 31) fun k1 M2 =>
rI M2 k1 1 fun n3 =>
rI M2 k1 2 fun n4 =>
(0 ≤ n4) ∧
(n4 < 8) ∧
rI M2 b0 ((o0 + 2) + (Int.toNat n4)) fun n5 =>
rI M2 k1 3 fun n6 =>
(0 ≤ n6) ∧
(n6 < 8) ∧
rI M2 b0 ((o0 + 2) + (Int.toNat n6)) fun n7 =>
(0 ≤ n3) ∧
(n3 < 8) ∧
sT M2 b0 ((o0 + 2) + (Int.toNat n3)) (iV (IntKind.wrap .i64 (n5 - n7))) fun M8 =>
K (.tuple #[]) M8) :
 ae Try.prog 64 #[.pointer (some ⟨b0, o0, none⟩), .agg #[.int .i64 cv, .int .i64 cw, .int .i64 cy, .int .i64 ej]] M K Kp := vw [(1, .bL [0, 0, 2, 0, 0, 16, 8, 72, 248, 504, 0, 0, 2048, 1024, 9216, 31744, 64512, 131064, 1, 262145, 1048575, 2097151] (sy [0, 1, 3, 4, 6, 7, 10, 11, 13, 14, 18, 19, 2, 5, 8, 9, 12, 15, 16, 17, 20, 21] .done))] Try.func64 h
theorem mJ {b0 o0 : Nat} {cv : Int} {cw : Int} {cy : Int} {ej : Int} (h :
bq M (cl [(iV cv), (iV cw), (iV cy), (iV ej)] 31) fun k1 M2 =>
rI M2 k1 1 fun n3 =>
rI M2 k1 2 fun n4 =>
(0 ≤ n4) ∧
(n4 < 8) ∧
rI M2 b0 ((o0 + 2) + (Int.toNat n4)) fun n5 =>
rI M2 k1 3 fun n6 =>
(0 ≤ n6) ∧
(n6 < 8) ∧
rI M2 b0 ((o0 + 2) + (Int.toNat n6)) fun n7 =>
(0 ≤ n3) ∧
(n3 < 8) ∧
sT M2 b0 ((o0 + 2) + (Int.toNat n3)) (iV (IntKind.wrap .i64 (n5 * n7))) fun M8 =>
K (.tuple #[]) M8) :
 ae Try.prog 65 #[.pointer (some ⟨b0, o0, none⟩), .agg #[.int .i64 cv, .int .i64 cw, .int .i64 cy, .int .i64 ej]] M K Kp := vw [(1, .bL [0, 0, 2, 0, 0, 16, 8, 72, 248, 504, 0, 0, 2048, 1024, 9216, 31744, 64512, 131064, 1, 262145, 1048575, 2097151] (sy [0, 1, 3, 4, 6, 7, 10, 11, 13, 14, 18, 19, 2, 5, 8, 9, 12, 15, 16, 17, 20, 21] .done))] Try.func65 h
theorem lS {b0 o0 : Nat} {cv : Int} {cw : Int} {cy : Int} {ej : Int} (h :
bq M (cl [(iV cv), (iV cw), (iV cy), (iV ej)] 31) fun k1 M2 =>
rI M2 k1 2 fun n3 =>
(0 ≤ n3) ∧
(n3 < 8) ∧
rI M2 b0 ((o0 + 2) + (Int.toNat n3)) fun n4 =>
rI M2 k1 3 fun n5 =>
(0 ≤ n5) ∧
(n5 < 8) ∧
rI M2 b0 ((o0 + 2) + (Int.toNat n5)) fun n6 =>
rI M2 k1 1 fun n7 =>
(0 ≤ n7) ∧
(n7 < 8) ∧
sT M2 b0 ((o0 + 2) + (Int.toNat n7)) (iV 0) fun M8 =>
aX (decide (n4 < n6))
 (rI M8 k1 1 fun n9 =>
 (0 ≤ n9) ∧
 (n9 < 8) ∧
 sT M8 b0 ((o0 + 2) + (Int.toNat n9)) (iV 1) fun xp =>
 K (.tuple #[]) xp)
 (K (.tuple #[]) M8)) :
 ae Try.prog 66 #[.pointer (some ⟨b0, o0, none⟩), .agg #[.int .i64 cv, .int .i64 cw, .int .i64 cy, .int .i64 ej]] M K Kp := vw [(1, .bL [0, 0, 2, 1, 9, 31, 63, 0, 0, 256, 128, 1152, 3968, 8064, 16383, 32767] (sy [0, 1, 3, 4, 7, 8, 10, 11, 2, 5, 6, 9, 12, 13, 14, 15] .done)), (2, .bL [0, 0, 2, 1, 9, 31, 63] (sy [0, 1, 3, 4, 2, 5, 6] .done)), (4, .bL [0, 0, 2, 1, 9, 31, 63] (sy [0, 1, 3, 4, 2, 5, 6] .done))] Try.func66 h
theorem lT {b0 o0 : Nat} {cv : Int} {cw : Int} {cy : Int} {ej : Int} (h :
bq M (cl [(iV cv), (iV cw), (iV cy), (iV ej)] 31) fun k1 M2 =>
rI M2 k1 1 fun n3 =>
sT M2 b0 (o0 + 1) (iV n3) fun M4 =>
K (.tuple #[]) M4) :
 ae Try.prog 67 #[.pointer (some ⟨b0, o0, none⟩), .agg #[.int .i64 cv, .int .i64 cw, .int .i64 cy, .int .i64 ej]] M K Kp := vw [] Try.func67 h
theorem jF {b0 o0 : Nat} {cv : Int} {cw : Int} {cy : Int} {ej : Int} (h :
bq M (cl [(iV cv), (iV cw), (iV cy), (iV ej)] 31) fun k1 M2 =>
rI M2 k1 1 fun n3 =>
(0 ≤ n3) ∧
(n3 < 8) ∧
rI M2 b0 ((o0 + 2) + (Int.toNat n3)) fun n4 =>
aX (n4 != 0)
 (rI M2 k1 2 fun n5 =>
 sT M2 b0 (o0 + 1) (iV n5) fun M6 =>
 K (.tuple #[]) M6)
 (K (.tuple #[]) M2)) :
 ae Try.prog 68 #[.pointer (some ⟨b0, o0, none⟩), .agg #[.int .i64 cv, .int .i64 cw, .int .i64 cy, .int .i64 ej]] M K Kp := vw [(1, .bL [0, 0, 2, 1, 9, 31, 63, 127] (sy [0, 1, 3, 4, 2, 5, 6, 7] .done))] Try.func68 h
theorem iA {b0 o0 : Nat} {cv : Int} {cw : Int} {cy : Int} {x2 : Int} (h :
bq M (cl [(iV cv), (iV cw), (iV cy)] 120) fun k1 M2 =>
rS M2 b0 (o0 + 4) fun A3 k4 k5 =>
rI M2 k1 0 fun n6 =>
(0 ≤ n6) ∧
(n6 < k4) ∧
aB A3 fun k7 k8 =>
rP M2 k7 (k8 + (Int.toNat n6)) fun A9 =>
aB A9 fun fm dM =>
rS M2 fm (dM + 1) fun Aa gJ mo =>
rS M2 b0 (o0 + 4) fun qe fY jN =>
rI M2 k1 0 fun m7 =>
(0 ≤ m7) ∧
(m7 < fY) ∧
aB qe fun oe oI =>
rP M2 oe (oI + (Int.toNat m7)) fun C7 =>
aB C7 fun iL jC =>
j9 M2 iL (jC + 2) fun Ae ug zG C9 =>
(True) ∧
ae Try.prog 11 #[(.slice Aa gJ mo)] M2 (fun By ta =>
dU (some By) fun Fi =>
((Mem.gr ta ⟨iL, (jC + 2), none⟩ 0 4) = some [(iV Ae), (iV ug), (iV zG), (iV C9)]) ∧
((Mem.ld ta ⟨oe, (oI + (Int.toNat m7)), none⟩) = (some (.pointer C7))) ∧
eI ta k1 0 m7 ∧
((Mem.ld ta ⟨b0, (o0 + 4), none⟩) = (some (.slice qe fY jN))) ∧
aB Fi fun qQ uN =>
bq ta oG fun qT om =>
Ke om qT (iV Ae) (iV ug) (iV zG) (iV C9) fun iK =>
((Mem.gr iK ⟨iL, (jC + 2), none⟩ 0 4) = some [(iV Ae), (iV ug), (iV zG), (iV C9)]) ∧
((Mem.ld iK ⟨oe, (oI + (Int.toNat m7)), none⟩) = (some (.pointer C7))) ∧
eI iK k1 0 m7 ∧
((Mem.ld iK ⟨b0, (o0 + 4), none⟩) = (some (.slice qe fY jN))) ∧
rI iK qT 0 fun Hr =>
aX (Hr == 16)
 (rS iK b0 (o0 + 3) fun MV D6 Gn =>
 rI iK qT 1 fun Hs =>
 rI iK k1 1 fun xE =>
 ((0 : Int) ≤ (IntKind.wrap .i64 (Hs + xE))) ∧
 (((IntKind.wrap .i64 (Hs + xE)) : Int) < (D6 : Int)) ∧
 aB MV fun Ht E9 =>
 rI iK Ht ((E9 + ((Int.toNat (IntKind.wrap .i64 (Hs + xE))) * 3)) + 2) fun C4 =>
 rI iK k1 2 fun K3 =>
 (0 ≤ C4) ∧
 (C4 < 8) ∧
 sT iK qQ ((uN + 2) + (Int.toNat C4)) (iV K3) fun qN =>
 N0 qN k1 0 fun KP HQ =>
 ae Try.prog 87 #[(.pointer (some ⟨b0, o0, none⟩)), (iV KP), (iV HQ)] qN (fun Ot Nc =>
 (Ot = (.tuple #[])) ∧
 rI Nc k1 0 fun HZ =>
 ae Try.prog 29 #[(.pointer (some ⟨b0, o0, none⟩)), (iV HZ)] Nc (fun Kt Ku =>
 (Kt = (.tuple #[])) ∧
 K (.tuple #[]) Ku) Kp) Kp)
 (rI iK qT 2 fun Cv =>
 rI iK k1 2 fun Hw =>
 (0 ≤ Cv) ∧
 (Cv < 8) ∧
 rI iK qT 3 fun C2 =>
 sT iK qQ ((uN + 2) + (Int.toNat Cv)) (iV Hw) fun Ff =>
 eI Ff qT 3 C2 ∧
 (0 ≤ C2) ∧
 (C2 < 8) ∧
 sT Ff qQ ((uN + 2) + (Int.toNat C2)) (iV x2) fun Hx =>
 eI Hx qT 3 C2 ∧
 rI Hx k1 0 fun Ou =>
 ae Try.prog 29 #[(.pointer (some ⟨b0, o0, none⟩)), (iV Ou)] Hx (fun Ov Fu =>
 (Ov = (.tuple #[])) ∧
 K (.tuple #[]) Fu) Kp)) Kp) :
 ae Try.prog 73 #[.pointer (some ⟨b0, o0, none⟩), .agg #[.int .i64 cv, .int .i64 cw, .int .i64 cy], .int .i64 x2] M K Kp := vw [(1, .bL [0, 1, 3, 7, 0, 16, 63, 127, 255, 511, 1023, 0, 2048, 6144, 14336, 0, 32768, 129024, 260096, 522240, 1046528, 2095104, 4192256, 8386560, 16775168, 0, 41943039, 134217727] (sy [0, 1, 2, 4, 11, 12, 13, 15, 14, 16, 17, 18, 19, 20, 21] (.lz 3 (.lz 5 (sy [6] (.lz 7 (sy [8, 9] (.lz 10 (.late 22 (sy [23, 24, 25, 26, 27] .done)))))))))), (3, .bL [0, 0, 2, 6, 14, 30, 0, 64, 0, 256, 960, 2046, 4094, 8190, 0, 16384, 1, 131071, 262143] (sy [0, 1, 2, 3, 4, 6, 8, 14, 16, 5, 7, 9, 10, 11, 12, 13, 15, 17, 18] .done)), (5, .bL [0, 0, 2, 0, 0, 16, 0, 64, 0, 1, 711, 1735, 8, 8191, 16383] (sy [0, 1, 3, 4, 6, 8, 9, 12, 2, 7, 10] (.lz 5 (sy [11, 13, 14] .done))))] Try.func73 h
theorem lU {b0 o0 : Nat} {cv : Int} {cw : Int} {cy : Int} (h :
bq M (cl [(iV cv), (iV cw), (iV cy)] 120) fun k1 M2 =>
rS M2 b0 (o0 + 4) fun A3 k4 k5 =>
rI M2 k1 0 fun n6 =>
(0 ≤ n6) ∧
(n6 < k4) ∧
aB A3 fun k7 k8 =>
rP M2 k7 (k8 + (Int.toNat n6)) fun A9 =>
aB A9 fun fm dM =>
rI M2 fm (dM + 2) fun kj =>
aX (kj == 16)
 (rI M2 k1 0 fun kX =>
 rI M2 k1 1 fun rX =>
 ae Try.prog 87 #[(.pointer (some ⟨b0, o0, none⟩)), (iV kX), (iV rX)] M2 (fun Fk hJ =>
 (Fk = (.tuple #[])) ∧
 rI hJ k1 0 fun tg =>
 ae Try.prog 29 #[(.pointer (some ⟨b0, o0, none⟩)), (iV tg)] hJ (fun Bq kW =>
 (Bq = (.tuple #[])) ∧
 K (.tuple #[]) kW) Kp) Kp)
 (rI M2 k1 0 fun jx =>
 ae Try.prog 29 #[(.pointer (some ⟨b0, o0, none⟩)), (iV jx)] M2 (fun Ow Ct =>
 (Ow = (.tuple #[])) ∧
 K (.tuple #[]) Ct) Kp)) :
 ae Try.prog 75 #[.pointer (some ⟨b0, o0, none⟩), .agg #[.int .i64 cv, .int .i64 cw, .int .i64 cy]] M K Kp := vw [(1, .bL [0, 1, 3, 7, 0, 16, 63, 127, 255, 511, 1023, 2047, 4095] (sy [0, 1, 2, 4, 3, 5, 6, 7, 8, 9, 10, 11, 12] .done))] Try.func75 h
theorem lV {B0 : Option Addr} {m0 c0 : Nat} {x1 : Int} {x2 : Int} {x3 : Int} (h :
aX (decide ((m0 : Int) ≥ 16))
 (K (.tuple #[(.slice B0 m0 c0), (.bool false)]) M)
 (((0 : Int) ≤ m0) ∧
 ((m0 : Int) ≤ c0) ∧
 ((0 : Int) ≤ m0) ∧
 ((m0 : Int) ≤ m0) ∧
 ((0 : Int) ≤ 0) ∧
 ((0 : Int) ≤ m0) ∧
 bq M (cl [(iV x1), (iV 0), (iV x2), (iV 0), (iV 0), (iV 0), (iV 0), (iV 0), (iV 0), (iV 0), (iV x3)] 53) fun k1 M2 =>
 aW Try.prog (Go.Builtin.append_ #[43, 43] 43 #[(.slice (mW B0 0 (Int.toNat (m0 : Int)) 11) ((Int.toNat (m0 : Int)) - 0) ((Int.toNat (m0 : Int)) - 0)), (.slice (some ⟨k1, 0, none⟩) 1 1)]) M2 (fun v3 M4 =>
 aE (some v3) fun A5 k6 k7 =>
 K (.tuple #[(.slice A5 k6 k7), (.bool true)]) M4) Kp)) :
 ae Try.prog 76 #[.slice B0 m0 c0, .int .i64 x1, .int .i64 x2, .int .i64 x3] M K Kp := vw [] Try.func76 h
theorem jG {B0 : Option Addr} {m0 c0 : Nat} {x1 : Int} (h :
aX (decide ((m0 : Int) < 2))
 (K (.tuple #[(.slice none 0 0), (.bool false)]) M)
 (bq M (cl [] 53) fun k1 M2 =>
 ((0 : Int) ≤ c0) ∧
 ((c0 : Int) ≤ c0) ∧
 ((0 : Int) ≤ (IntKind.wrap .i64 ((m0 : Int) - 1))) ∧
 (((IntKind.wrap .i64 ((m0 : Int) - 1)) : Int) ≤ (c0 : Int)) ∧
 ((0 : Int) ≤ 0) ∧
 ((0 : Int) ≤ (IntKind.wrap .i64 ((m0 : Int) - 1))) ∧
 aW Try.prog (Go.Builtin.append_ #[43, 43] 43 #[(.slice (some ⟨k1, 0, none⟩) 0 0), (.slice (mW B0 0 (Int.toNat (c0 : Int)) 11) ((Int.toNat (IntKind.wrap .i64 ((m0 : Int) - 1))) - 0) ((Int.toNat (c0 : Int)) - 0))]) M2 (fun v3 M4 =>
 aE (some v3) fun A5 k6 k7 =>
 ae Try.prog 11 #[(.slice A5 k6 k7)] M4 (fun v8 M9 =>
 dU (some v8) fun Bp =>
 aB Bp fun dM iJ =>
 ae Try.prog 11 #[(.slice B0 m0 c0)] M9 (fun Cq mZ =>
 dU (some Cq) fun qe =>
 aB qe fun fY jN =>
 rI mZ fY (jN + 10) fun m7 =>
 (0 ≤ m7) ∧
 (m7 < 8) ∧
 sT mZ dM ((iJ + 2) + (Int.toNat m7)) (iV x1) fun kW =>
 K (.tuple #[(.slice A5 k6 k7), (.bool true)]) kW) Kp) Kp) Kp)) :
 ae Try.prog 77 #[.slice B0 m0 c0, .int .i64 x1] M K Kp := vw [(4, .bL [0, 1, 0, 7, 15, 31, 63, 0, 3, 259, 1023, 2047] (sy [0, 2, 7, 1, 8, 9, 3, 4, 5, 6, 10, 11] .done))] Try.func77 h
theorem nI {b0 o0 : Nat} {x1 : Int} {x2 : Int} (h :
aE (Mem.ld M ⟨b0, o0, none⟩) fun A1 k2 k3 =>
bG (Mem.ld M ⟨b0, (o0 + 1), none⟩) .u64 fun n4 =>
bq M (.cells #[(.int .u64 x1), (.int .u64 n4), (.int .i64 x2)] 86 (0, 0)) fun k5 M6 =>
aW Try.prog (Go.Builtin.append_ #[62, 62] 62 #[(.slice A1 k2 k3), (.slice (some ⟨k5, 0, none⟩) 1 1)]) M6 (fun v7 M8 =>
aE (some v7) fun A9 fm dM =>
bW M8 ⟨b0, o0, none⟩ (.slice A9 fm dM) fun s0 =>
bG (Mem.ld s0 ⟨b0, (o0 + 1), none⟩) .u64 fun kX =>
bW s0 ⟨b0, (o0 + 1), none⟩ (.int .u64 (IntKind.wrap .u64 (kX + 1))) fun mZ =>
aE (Mem.ld mZ ⟨b0, o0, none⟩) fun qe fY jN =>
ae Try.prog 59 #[(.pointer (some ⟨b0, o0, none⟩)), (.int .i64 (IntKind.wrap .i64 (((fY : Nat) : Int) - 1)))] mZ (fun Bq kW =>
(Bq = (.tuple #[])) ∧
bG (Mem.ld kW ⟨b0, (o0 + 1), none⟩) .u64 fun jx =>
K (.int .u64 (IntKind.wrap .u64 (jx - 1))) kW) Kp) Kp) :
 ae Try.prog 79 ([.pointer (some ⟨b0, o0, none⟩), .int .u64 x1, .int .i64 x2] : List Value).toArray M K Kp :=
 cY (C := Cx) good [(1, .bL [0, 0, 2, 6, 14, 0, 0, 64, 192, 448, 0, 2016, 4064, 8190, 16383, 32767, 65535] (.step 0 (.step 1 (.step 2 (.step 3 (.step 5 (.step 6 (.step 7 (.step 8 (.step 10 (.step 4 (.step 9 (.step 11 (.step 12 (.step 13 (.step 14 (.step 15 (.step 16 .done))))))))))))))))))] Try.func79 (by kernel_rfl) (by kernel_rfl) h
theorem mK {b0 o0 : Nat} {x1 : Int} (h :
rI M b0 o0 fun n1 =>
aX (n1 != (-1))
 (rS M b0 (o0 + 1) fun A2 k3 k4 =>
 bq M (cl [(iV x1)] 3) fun k5 M6 =>
 aA 25 A2 k3 k4 (some ⟨k5, 0, none⟩) 1 1 M6 (fun v7 M8 =>
 aE (some v7) fun A9 fm dM =>
 sT M8 b0 (o0 + 1) (.slice A9 fm dM) fun s0 =>
 K (.bool false) s0) Kp)
 (sT M b0 o0 (iV x1) fun m5 =>
 K (.bool true) m5)) :
 ae Try.prog 80 #[.pointer (some ⟨b0, o0, none⟩), .int .i64 x1] M K Kp := vw [] Try.func80 h
theorem mL {b0 o0 : Nat} {x1 : Int} (h :
rI M b0 o0 fun n1 =>
aX (n1 == (-1))
 (K (.tuple #[(iV (-1)), (iV 5)]) M)
 (rI M b0 o0 fun n2 =>
 aX (n2 != x1)
 (K (.tuple #[(iV (-1)), (iV 5)]) M)
 (sT M b0 o0 (iV (-1)) fun M3 =>
 rS M3 b0 (o0 + 1) fun A4 k5 k6 =>
 aX (decide ((k5 : Int) > 0))
 (rS M3 b0 (o0 + 1) fun A7 k8 k9 =>
 ((0 : Int) ≤ 0) ∧
 ((0 : Int) < k8) ∧
 aB A7 fun fm dM =>
 rI M3 fm (dM + 0) fun kj =>
 sT M3 b0 o0 (iV kj) fun m5 =>
 bq m5 (cl [] 3) fun mo BI =>
 rS BI b0 (o0 + 1) fun Na jN iw =>
 ((0 : Int) ≤ iw) ∧
 ((iw : Int) ≤ iw) ∧
 ((0 : Int) ≤ jN) ∧
 ((jN : Int) ≤ iw) ∧
 ((0 : Int) ≤ 1) ∧
 ((1 : Int) ≤ jN) ∧
 aW Try.prog (Go.Builtin.append_ #[25, 25] 25 #[(.slice (some ⟨mo, 0, none⟩) 0 0), (.slice (mW Na 1 (Int.toNat (iw : Int)) 1) ((Int.toNat (jN : Int)) - 1) ((Int.toNat (iw : Int)) - 1))]) BI (fun KV z7 =>
 aE (some KV) fun C7 iL jC =>
 sT z7 b0 (o0 + 1) (.slice C7 iL jC) fun my =>
 rI my b0 o0 fun ug =>
 K (.tuple #[(iV ug), (iV 0)]) my) Kp)
 (rI M3 b0 o0 fun zG =>
 K (.tuple #[(iV zG), (iV 0)]) M3)))) :
 ae Try.prog 81 #[.pointer (some ⟨b0, o0, none⟩), .int .i64 x1] M K Kp := vw [] Try.func81 h
theorem mM {b0 o0 : Nat} {x1 : Int} (h :
∃ I1 : Nat → List Value → Mem → Prop, (∃ k2 : Nat, I1 k2 [(.int .i64 x1), (.int .i64 (IntKind.wrap .i64 ((IntKind.wrap .i64 (4 * x1)) + 1)))] M) ∧
∀ k3 : Nat, ∀ Ee : Nat → Value, ∀ n5 : Int, ∀ n6 : Int, ∀ M7 : Mem, (I1 k3 [(.int .i64 n5), (.int .i64 n6)] M7) → aX (decide ((n6 : Int) ≤ (IntKind.wrap .i64 ((IntKind.wrap .i64 (4 * x1)) + 4))))
 (aE (Mem.ld M7 ⟨b0, o0, none⟩) fun A8 k9 fm =>
 aX (decide ((n6 : Int) < ((k9 : Nat) : Int)))
  (aE (Mem.ld M7 ⟨b0, o0, none⟩) fun Ef iJ gJ =>
  ((0 : Int) ≤ n6) ∧
  ((n6 : Int) < ((iJ : Nat) : Int)) ∧
  aB Ef fun mo mY =>
  bG (Mem.ld M7 ⟨mo, (mY + ((Int.toNat n6) * 3)), none⟩) .u64 fun z6 =>
  bG (Mem.ld M7 ⟨mo, ((mY + ((Int.toNat n6) * 3)) + 1), none⟩) .u64 fun tg =>
  bG (Mem.ld M7 ⟨mo, ((mY + ((Int.toNat n6) * 3)) + 2), none⟩) .i64 fun m7 =>
  aE (Mem.ld M7 ⟨b0, o0, none⟩) fun C5 oI uM =>
  ((0 : Int) ≤ n5) ∧
  ((n5 : Int) < ((oI : Nat) : Int)) ∧
  aB C5 fun iL jC =>
  bG (Mem.ld M7 ⟨iL, (jC + ((Int.toNat n5) * 3)), none⟩) .u64 fun Ae =>
  bG (Mem.ld M7 ⟨iL, ((jC + ((Int.toNat n5) * 3)) + 1), none⟩) .u64 fun ug =>
  bG (Mem.ld M7 ⟨iL, ((jC + ((Int.toNat n5) * 3)) + 2), none⟩) .i64 fun zG =>
  ae Try.prog 83 #[(.agg #[(.int .u64 z6), (.int .u64 tg), (.int .i64 m7)]), (.agg #[(.int .u64 Ae), (.int .u64 ug), (.int .i64 zG)])] M7 (fun HG Br =>
  dz (some HG) fun t29 =>
  aX t29
   (∃ pT : Nat, (pT < k3) ∧
   I1 pT [(.int .i64 n6), (.int .i64 (IntKind.wrap .i64 (n6 + 1)))] Br)
   (∃ qQ : Nat, (qQ < k3) ∧
   I1 qQ [(.int .i64 n5), (.int .i64 (IntKind.wrap .i64 (n6 + 1)))] Br)) Kp)
  (K (.int .i64 n5) M7))
 (K (.int .i64 n5) M7)) :
 ae Try.prog 82 ([.pointer (some ⟨b0, o0, none⟩), .int .i64 x1] : List Value).toArray M K Kp :=
 cY (C := Cx) good [(2000000, .loop [(5, .c (.int .i64)), (6, .c (.int .i64))]), (5, .bL [0, 1, 3, 7, 0, 31, 63, 0, 128, 384, 896, 0, 3968, 8064, 16383] (.step 0 (.step 1 (.step 2 (.step 4 (.step 7 (.step 8 (.step 9 (.step 11 (.step 3 (.step 5 (.step 6 (.step 10 (.step 12 (.step 13 (.step 14 .done))))))))))))))))] Try.func82 (by kernel_rfl) (by kernel_rfl) h
theorem q6 {Bz : Int} {BA : Int} {vI : Int} {cv : Int} {cw : Int} {cy : Int} (h :
bq M (cl [(.int .u64 Bz), (.int .u64 BA), (iV vI)] 86) fun k1 M2 =>
bq M2 (cl [(.int .u64 cv), (.int .u64 cw), (iV cy)] 86) fun k3 M4 =>
rU M4 k1 0 fun n5 =>
rU M4 k3 0 fun n6 =>
aX (decide (n5 < n6))
 (K (.bool true) M4)
 (rU M4 k1 0 fun n7 =>
 rU M4 k3 0 fun n8 =>
 aX (n7 == n8)
 (rU M4 k1 1 fun n9 =>
 rU M4 k3 1 fun qU =>
 K (.bool (decide (n9 < qU))) M4)
 (K (.bool false) M4))) :
 ae Try.prog 83 #[.agg #[.int .u64 Bz, .int .u64 BA, .int .i64 vI], .agg #[.int .u64 cv, .int .u64 cw, .int .i64 cy]] M K Kp := vw [] Try.func83 h
theorem jH {b0 o0 : Nat} {x1 : Int} {x2 : Int} (h :
rS M b0 (o0 + 4) fun A1 k2 k3 =>
((0 : Int) ≤ x1) ∧
((x1 : Int) < k2) ∧
aB A1 fun k4 k5 =>
rP M k4 (k5 + (Int.toNat x1)) fun A6 =>
aB A6 fun k7 k8 =>
j9 M k7 (k8 + 2) fun n9 qU uf kj =>
bq M oG fun gJ mZ =>
Ke mZ gJ (iV n9) (iV qU) (iV uf) (iV kj) fun uL =>
rS uL b0 (o0 + 4) fun C5 oI uM =>
((0 : Int) ≤ x1) ∧
((x1 : Int) < oI) ∧
aB C5 fun iL jC =>
rP uL iL (jC + (Int.toNat x1)) fun Fh =>
aB Fh fun s9 rY =>
rS uL s9 (rY + 1) fun Fo tj qf =>
rI uL gJ 3 fun xD =>
ae Try.prog 11 #[(.slice Fo tj qf)] uL (fun Fc m6 =>
dU (some Fc) fun Hy =>
eI m6 gJ 3 xD ∧
aB Hy fun z9 og =>
(0 ≤ xD) ∧
(xD < 8) ∧
sT m6 z9 ((og + 2) + (Int.toNat xD)) (iV x2) fun Cs =>
eI Cs gJ 3 xD ∧
rS Cs b0 (o0 + 6) fun Fv g6 zH =>
ae Try.prog 88 #[(iV x1), (.slice Fv g6 zH)] Cs (fun HN BF =>
(HN = (.tuple #[])) ∧
K (.tuple #[]) BF) Kp) Kp) :
 ae Try.prog 87 #[.pointer (some ⟨b0, o0, none⟩), .int .i64 x1, .int .i64 x2] M K Kp := vw [(1, .bL [0, 1, 3, 7, 0, 31, 63, 127, 255, 511, 1023, 0, 2048, 0, 2047, 18431, 65535, 131071] (sy [0, 1, 2, 4, 11, 13, 3, 5, 6, 7, 8, 9] (.lz 12 (sy [10, 14, 15, 16, 17] .done))))] Try.func87 h
end Go.Proofs
namespace Go.Proofs
open Go.AF
set_option maxRecDepth 100000
theorem um {H6 : Option Addr} {H7 H8 : Nat} {H9 : Option Addr} {Ia Ib : Nat} {vI : Int} {Ic : Option Addr} {Ie Ig : Nat} {M : Mem} {K : Value → Mem → Prop} {Kp : List PanicEntry → Mem → Prop} (h :
bq M (cl [(.slice H6 H7 H8), (.slice H9 Ia Ib), (iV vI), (.slice Ic Ie Ig)] 28) fun k1 M2 =>
Hg M2 k1 0 fun A3 k4 k5 A6 k7 k8 n9 Bp dM iJ =>
ae Try.prog 22 #[(iV 0), (iV 0)] M2 (fun Cq mZ =>
aE (some Cq) fun qe fY jN =>
((Mem.gr mZ ⟨k1, 0, none⟩ 0 4) = some [(.slice A3 k4 k5), (.slice A6 k7 k8), (iV n9), (.slice Bp dM iJ)]) ∧
bq mZ (cl [(iV 1), (.slice qe fY jN), (iV 0), (iV 0), (iV 0), (iV 0)] 68) fun iw kW =>
bq kW (cl [(.pointer (some ⟨iw, 0, none⟩))] 65) fun oI z8 =>
bq z8 (cl [(.slice A3 k4 k5), (.slice A6 k7 k8), (iV n9), (.slice Bp dM iJ), (.slice (some ⟨oI, 0, none⟩) 1 1), (.int .u64 0), (.slice none 0 0), (.slice none 0 0), (.slice none 0 0), (.int .u64 0), (.slice none 0 0), (iV 0), (iV 0), (.slice none 0 0), .nilFunc] 76) fun iL mw =>
rS mw k1 1 fun Fh s9 rY =>
∃ K5 : IT, (∃ tj, K5 tj [(iV 0)] mw) ∧
∀ (qf : Nat) (_ : Nat → Value) (td : Int) (m6 : Mem), (K5 qf [(iV td)] m6) → aX (decide (td < s9))
 ((0 ≤ td) ∧
 (td < s9) ∧
 aB Fh fun qT z9 =>
 rI m6 qT (z9 + (Int.toNat td)) fun Cu =>
 ∃ K6 : List Value → Mem → Prop, ((rS m6 iL 6 fun Fv g6 zH =>
 ae Try.prog 23 #[(iV Cu)] m6 (fun HN BF =>
 dU (some HN) fun Ks =>
 bq BF (cl [(.pointer Ks)] 77) fun Fe KY =>
 aA 71 Fv g6 zH (some ⟨Fe, 0, none⟩) 1 1 KY (fun Ox Oy =>
 aE (some Ox) fun Oz Jb HO =>
 sT Oy iL 6 (.slice Oz Jb HO) fun D7 =>
 K6 [] D7) Kp) Kp) ∧
 (ae Try.prog 23 #[(iV Cu)] m6 (fun K0 HX =>
 dU (some K0) fun OA =>
 rS HX iL 6 fun OB Jh K7 =>
 bq HX (cl [(.pointer OA)] 77) fun K8 Db =>
 aA 71 OB Jh K7 (some ⟨K8, 0, none⟩) 1 1 Db (fun OC Ff =>
 aE (some OC) fun Ih Ii Ij =>
 sT Ff iL 6 (.slice Ih Ii Ij) fun Fu =>
 K6 [] Fu) Kp) Kp) ∧
 True) ∧
 ∀ K9 : Nat → Value, ∀ Gu : Mem, (K6 [] Gu) → ∃ Nd : Nat, (Nd < qf) ∧
 K5 Nd [(iV (IntKind.wrap .i64 (td + 1)))] Gu)
 (rI m6 k1 2 fun Da =>
 ∃ La : IT, (∃ Lb, La Lb [(iV 0)] m6) ∧
 ∀ (Fw : Nat) (_ : Nat → Value) (HD : Int) (BH : Mem), (La Fw [(iV HD)] BH) → aX (decide (HD < Da))
 (∃ Lc : List Value → Mem → Prop, ((rS BH iL 7 fun OD OE Ld =>
 ae Try.prog 24 #[] BH (fun Le Fx =>
 dU (some Le) fun Lg =>
 bq Fx (cl [(.pointer Lg)] 79) fun Ji OF =>
 aA 72 OD OE Ld (some ⟨Ji, 0, none⟩) 1 1 OF (fun OG OH =>
 aE (some OG) fun OI OJ OK =>
 sT OH iL 7 (.slice OI OJ OK) fun Cw =>
 Lc [] Cw) Kp) Kp) ∧
 (ae Try.prog 24 #[] BH (fun Ik ue =>
 dU (some Ik) fun OL =>
 rS ue iL 7 fun OM ON OO =>
 bq ue (cl [(.pointer OL)] 79) fun OP Lh =>
 aA 72 OM ON OO (some ⟨OP, 0, none⟩) 1 1 Lh (fun OQ Li =>
 aE (some OQ) fun Lj Ll Lm =>
 sT Li iL 7 (.slice Lj Ll Lm) fun Fy =>
 Lc [] Fy) Kp) Kp) ∧
 True) ∧
 ∀ Jj : Nat → Value, ∀ Il : Mem, (Lc [] Il) → ∃ BJ : Nat, (BJ < Fw) ∧
 La BJ [(iV (IntKind.wrap .i64 (HD + 1)))] Il)
 (K (.pointer (some ⟨iL, 0, none⟩)) BH))) Kp) :
 ae Try.prog 7 #[.agg #[.slice H6 H7 H8, .slice H9 Ia Ib, .int .i64 vI, .slice Ic Ie Ig]] M K Kp := vw [(1, .bL [0, 0, 2, 6, 14, 31, 63, 127] (.lz 0 (sy [1, 2, 3, 4, 5, 6, 7] .done))), (2000000, .loop [(16, .c (.int .i64))]), (5, .CP [0, 0, 2, 6, 14, 0, 32, 96, 254, 511, 1023, 2047] (sy [0, 1, 2, 3, 5] (.fork 4 (sy [6, 7, 8, 9, 10, 11] .done) (.fork 6 (sy [4, 7, 8, 9, 10, 11] .done) .dead))) []), (2000002, .loop [(34, .c (.int .i64))]), (9, .CP [0, 0, 2, 6, 14, 0, 32, 126, 255, 511, 1023] (sy [0, 1, 2, 3] (.fork 4 (sy [5, 6, 7, 8, 9, 10] .done) (.fork 5 (sy [4, 6, 7, 8, 9, 10] .done) .dead))) [])] Try.func7 h
theorem fS {b0 o0 : Nat} {x1 : Int} {u2 : Value} {M : Mem} {K : Value → Mem → Prop} {Kp : List PanicEntry → Mem → Prop} (h :
bq M (.cells #[(.bool false), (.slice none 0 0)] 39 (0, 0)) fun k1 M2 =>
aX (decide ((x1 : Int) < 0))
 (bW M2 ⟨k1, 0, none⟩ (.bool false) fun M3 =>
 bW M3 ⟨k1, (0 + 1), none⟩ (.slice none 0 0) fun M4 =>
 dz (Mem.ld M4 ⟨k1, 0, none⟩) fun t5 =>
 aE (Mem.ld M4 ⟨k1, (0 + 1), none⟩) fun A6 k7 k8 =>
 K (.agg #[(.bool t5), (.slice A6 k7 k8)]) M4)
 (aE (Mem.ld M2 ⟨b0, (o0 + 4), none⟩) fun A9 fm dM =>
 aX (decide ((x1 : Int) ≥ ((fm : Nat) : Int)))
  (bW M2 ⟨k1, 0, none⟩ (.bool false) fun s0 =>
  bW s0 ⟨k1, (0 + 1), none⟩ (.slice none 0 0) fun m5 =>
  dz (Mem.ld m5 ⟨k1, 0, none⟩) fun t14 =>
  aE (Mem.ld m5 ⟨k1, (0 + 1), none⟩) fun qe fY jN =>
  K (.agg #[(.bool t14), (.slice qe fY jN)]) m5)
  (bG (Mem.ld M2 ⟨b0, (o0 + 11), none⟩) .i64 fun m7 =>
  aX (m7 != 0)
   (bW M2 ⟨k1, 0, none⟩ (.bool false) fun kW =>
   bW kW ⟨k1, (0 + 1), none⟩ (.slice none 0 0) fun z7 =>
   dz (Mem.ld z7 ⟨k1, 0, none⟩) fun t21 =>
   aE (Mem.ld z7 ⟨k1, (0 + 1), none⟩) fun HV jC r8 =>
   K (.agg #[(.bool t21), (.slice HV jC r8)]) z7)
   (aE (Mem.ld M2 ⟨b0, (o0 + 4), none⟩) fun Ko rY D8 =>
   ((0 : Int) ≤ x1) ∧
   ((x1 : Int) < ((rY : Nat) : Int)) ∧
   aB Ko fun tj qf =>
   dU (Mem.ld M2 ⟨tj, (qf + (Int.toNat x1)), none⟩) fun Fi =>
   aB Fi fun qQ uN =>
   bG (Mem.ld M2 ⟨qQ, uN, none⟩) .i64 fun E6 =>
   aX (E6 != 1)
    (bW M2 ⟨k1, 0, none⟩ (.bool false) fun om =>
    bW om ⟨k1, (0 + 1), none⟩ (.slice none 0 0) fun Fz =>
    dz (Mem.ld Fz ⟨k1, 0, none⟩) fun t36 =>
    aE (Mem.ld Fz ⟨k1, (0 + 1), none⟩) fun Fv g6 zH =>
    K (.agg #[(.bool t36), (.slice Fv g6 zH)]) Fz)
    (bW M2 ⟨b0, (o0 + 13), none⟩ (.slice none 0 0) fun HW =>
    sB u2 <|
    bW HW ⟨b0, (o0 + 14), none⟩ u2 fun BF =>
    ae Try.prog 25 #[(.pointer (some ⟨b0, o0, none⟩)), (.int .i64 x1)] BF (fun Ln tp =>
    dz (some Ln) fun t44 =>
    aX (!t44)
     (bG (Mem.ld tp ⟨b0, (o0 + 11), none⟩) .i64 fun BG =>
     aX (BG == 0)
      (aE (Mem.ld tp ⟨b0, (o0 + 4), none⟩) fun OR Hu Jb =>
      ((0 : Int) ≤ x1) ∧
      ((x1 : Int) < ((Hu : Nat) : Int)) ∧
      aB OR fun HO HA =>
      dU (Mem.ld tp ⟨HO, (HA + (Int.toNat x1)), none⟩) fun Km =>
      aB Km fun C1 vF =>
      bG (Mem.ld tp ⟨C1, vF, none⟩) .i64 fun HZ =>
      aE (Mem.ld tp ⟨b0, (o0 + 13), none⟩) fun OS K7 K8 =>
      bW tp ⟨k1, 0, none⟩ (.bool (HZ == 1)) fun Db =>
      bW Db ⟨k1, (0 + 1), none⟩ (.slice OS K7 K8) fun Af =>
      dz (Mem.ld Af ⟨k1, 0, none⟩) fun t60 =>
      aE (Mem.ld Af ⟨k1, (0 + 1), none⟩) fun Ih Ii Ij =>
      K (.agg #[(.bool t60), (.slice Ih Ii Ij)]) Af)
      (aE (Mem.ld tp ⟨b0, (o0 + 13), none⟩) fun OT OU OV =>
      bW tp ⟨k1, 0, none⟩ (.bool false) fun OW =>
      bW OW ⟨k1, (0 + 1), none⟩ (.slice OT OU OV) fun Lo =>
      dz (Mem.ld Lo ⟨k1, 0, none⟩) fun t69 =>
      aE (Mem.ld Lo ⟨k1, (0 + 1), none⟩) fun OX Fw Jk =>
      K (.agg #[(.bool t69), (.slice OX Fw Jk)]) Lo))
     (aE (Mem.ld tp ⟨b0, (o0 + 13), none⟩) fun OY Lp Gw =>
     bW tp ⟨k1, 0, none⟩ (.bool false) fun KU =>
     bW KU ⟨k1, (0 + 1), none⟩ (.slice OY Lp Gw) fun Lq =>
     dz (Mem.ld Lq ⟨k1, 0, none⟩) fun t78 =>
     aE (Mem.ld Lq ⟨k1, (0 + 1), none⟩) fun OZ O0 O1 =>
     K (.agg #[(.bool t78), (.slice OZ O0 O1)]) Lq)) Kp))))) :
 ae Try.prog 9 ([.pointer (some ⟨b0, o0, none⟩), .int .i64 x1, u2] : List Value).toArray M K Kp :=
 cY (C := Cx) good [(5, .bL [0, 1, 3, 7, 15, 31, 63, 127, 255, 511, 1023, 2047, 4095, 8191, 1023, 32767, 65535, 131071, 262143, 524287, 1048575, 2097151, 0, 4194304, 12582912, 29360128, 67108863, 134217727] (.step 0 (.step 1 (.step 2 (.step 3 (.step 4 (.step 5 (.step 22 (.step 23 (.step 24 (.step 6 (.step 7 (.step 8 (.step 9 (.step 10 (.step 11 (.step 12 (.step 14 (.step 13 (.step 15 (.step 16 (.step 17 (.step 18 (.step 19 (.step 20 (.step 21 (.step 25 (.step 26 (.step 27 .done)))))))))))))))))))))))))))))] Try.func9 (by kernel_rfl) (by kernel_rfl) h
theorem jI  {M : Mem} {K : Value → Mem → Prop} {Kp : List PanicEntry → Mem → Prop} (h :
bq M (cl [(iV 20), (iV 0), (iV 0), (iV 0), (iV 10), (iV 0), (iV 0), (iV 0)] 31) fun k1 M2 =>
bq M2 (cl [(.slice (some ⟨k1, 0, none⟩) 2 2)] 32) fun k3 M4 =>
ae Try.prog 7 #[(.agg #[(.slice (some ⟨k3, 0, none⟩) 1 1), (.slice none 0 0), (iV 0), (.slice none 0 0)])] M4 (fun v5 M6 =>
dU (some v5) fun A7 =>
aX (Option.isNone A7)
 (K (.bool false) M6)
 (ae Try.prog 9 #[(.pointer A7), (iV 0), (.func (.func 21) #[] #[])] M6 (fun v8 M9 =>
 ∃ t10 : Bool, ∃ Ef : Option Addr, ∃ iJ gJ : Nat, (v8 = (.agg #[(.bool t10), (.slice Ef iJ gJ)])) ∧
 ae Try.prog 9 #[(.pointer A7), (iV 0), (.func (.func 21) #[] #[])] M9 (fun K4 BI =>
 ∃ t16 : Bool, ∃ Bt : Option Addr, ∃ iw oe : Nat, (K4 = (.agg #[(.bool t16), (.slice Bt iw oe)])) ∧
 bq BI yy fun oI z8 =>
 bq z8 yy fun iL mw =>
 Kd mw oI (.bool t10) (.slice Ef iJ gJ) fun Bw =>
 Kd Bw iL (.bool t16) (.slice Bt iw oe) fun r9 =>
 ae Try.prog 16 #[(.pointer A7)] r9 (fun By ta =>
 ∃ xD td : Int, (By = (.tuple #[(iV xD), (iV td)])) ∧
 ae Try.prog 19 #[(.pointer A7)] ta (fun O2 xu =>
 aE (some O2) fun O3 og Fj =>
 rB xu oI 0 fun t37 =>
 aX t37
 (rB xu iL 0 fun t38 =>
 aX (!t38)
 (aX (xD == 1)
 (aX ((og : Int) == 1)
 (((0 : Int) ≤ 0) ∧
 ((0 : Int) < og) ∧
 aB O3 fun zH Hz =>
 rI xu zH (Hz + 0) fun O4 =>
 aX (O4 == 0)
 (ae Try.prog 13 #[(.pointer A7), (iV 0)] xu (fun Ln tp =>
 bG (some Ln) .i64 fun xE =>
 K (.bool (xE == 4)) tp) Kp)
 (K (.bool false) xu))
 (K (.bool false) xu))
 (K (.bool false) xu))
 (K (.bool false) xu))
 (K (.bool false) xu)) Kp) Kp) Kp) Kp)) Kp) :
 ae Try.prog 6 #[] M K Kp := vw [] Try.func6 h
theorem gf {B0 : Option Addr} {m0 c0 : Nat} {M : Mem} {K : Value → Mem → Prop} {Kp : List PanicEntry → Mem → Prop} (h :
ae Try.prog 6 #[] M (fun v1 M2 =>
dz (some v1) fun t3 =>
aX (!t3)
 (K (.bool false) M2)
 (bq M2 (cl [] 31) fun k4 M5 =>
 ∃ I6 : IT, (∃ k7, I6 k7 [(.slice (some ⟨k4, 0, none⟩) 0 0), (iV 0)] M5) ∧
 ∀ (k8 : Nat) (_ : Nat → Value) (Bp : Option Addr) (dM : Nat) (iJ : Nat) (kX : Int) (mZ : Mem), (I6 k8 [(.slice Bp dM iJ), (iV kX)] mZ) → aX (decide ((kX : Int) < (if (20 : Int) < (m0 : Int) then 20 else (m0 : Int))))
 ((0 ≤ kX) ∧
 (kX < m0) ∧
 aB B0 fun mY fY =>
 rI mZ mY (fY + (Int.toNat kX)) fun tg =>
 ((30 : Int) ≠ 0) ∧
 bq mZ (cl [(iV 1), (iV 1), (iV (IntKind.wrap .i64 ((IntKind.wrap .i64 (1 + (Int.tmod (IntKind.wrap .i64 (((Nat.bitwise and (BitVec.ofInt IntKind.i64.bits tg).toNat (BitVec.ofInt IntKind.i64.bits 255).toNat) : Nat) : Int)) 30))) + (IntKind.wrap .i64 (1000 * kX))))), (iV 0), (iV 11), (iV 1), (iV 1), (iV 2)] 31) fun iw kW =>
 aA 32 Bp dM iJ (some ⟨iw, 0, none⟩) 2 2 kW (fun v20 z8 =>
 aE (some v20) fun HV jC r8 =>
 ∃ s9 : Nat, (s9 < k8) ∧
 I6 s9 [(.slice HV jC r8), (iV (IntKind.wrap .i64 (kX + 1)))] z8) Kp)
 (bq mZ (cl [(iV 12), (iV 0), (iV 0), (iV 0), (iV 7), (iV (dM : Int)), (iV 0), (iV 0)] 31) fun rY r9 =>
 aA 32 Bp dM iJ (some ⟨rY, 0, none⟩) 2 2 r9 (fun By ta =>
 aE (some By) fun Fi qQ uN =>
 bq ta (cl [(iV 1), (iV 1), (iV 1000), (iV 0), (iV 6), (iV 2), (iV 0), (iV 1), (iV 8), (iV 2), (iV 7), (iV 0), (iV 4), (iV 0), (iV 0), (iV 1), (iV 1), (iV 4), (iV 1), (iV 0), (iV 3), (iV 3), (iV 3), (iV 4), (iV 7), (iV 1), (iV 0), (iV 0), (iV 17), (iV 0), (iV 0), (iV 0), (iV 20), (iV 3), (iV 0), (iV 0), (iV 10), (iV 0), (iV 0), (iV 0)] 31) fun qT om =>
 bq om (cl [(.slice Fi qQ uN), (.slice (some ⟨qT, 0, none⟩) 10 10)] 32) fun og Cs =>
 ae Try.prog 7 #[(.agg #[(.slice (some ⟨og, 0, none⟩) 2 2), (.slice none 0 0), (iV 0), (.slice none 0 0)])] Cs (fun KN iK =>
 dU (some KN) fun Ea =>
 ∃ Lr : IT, (∃ D6, Lr D6 [(iV 0)] iK) ∧
 ∀ (Gn : Nat) (_ : Nat → Value) (xE : Int) (Gv : Mem), (Lr Gn [(iV xE)] Gv) → aX (decide ((xE : Int) < (IntKind.wrap .i64 (2 * (if (20 : Int) < (m0 : Int) then 20 else (m0 : Int))))))
 (ae Try.prog 9 #[(.pointer Ea), (iV 0), (.func (.func 17) #[] #[])] Gv (fun O5 Ja =>
 ∃ t48 : Bool, ∃ O6 : Option Addr, ∃ HA Jg : Nat, (O5 = (.agg #[(.bool t48), (.slice O6 HA Jg)])) ∧
 ∃ C1 : Nat, (C1 < Gn) ∧
 Lr C1 [(iV (IntKind.wrap .i64 (xE + 1)))] Ja) Kp)
 (∃ Ls : IT, (∃ Eb, Ls Eb [(iV 1)] Gv) ∧
 ∀ (Jh : Nat) (_ : Nat → Value) (Cv : Int) (Db : Mem), (Ls Jh [(iV Cv)] Db) → aX (decide ((Cv : Int) ≤ (if (20 : Int) < (m0 : Int) then 20 else (m0 : Int))))
 (∃ Lt : IT, (∃ O7, Lt O7 [(iV 0)] Db) ∧
 ∀ (Nf : Nat) (_ : Nat → Value) (HC : Int) (Fu : Mem), (Lt Nf [(iV HC)] Fu) → aX (decide (HC < 300))
 (ae Try.prog 9 #[(.pointer Ea), (iV Cv), (.func (.func 17) #[] #[])] Fu (fun O8 Gu =>
 ∃ t67 : Bool, ∃ O9 : Option Addr, ∃ Pa Lb : Nat, (O8 = (.agg #[(.bool t67), (.slice O9 Pa Lb)])) ∧
 ∃ Fw : Nat, (Fw < Nf) ∧
 Lt Fw [(iV (IntKind.wrap .i64 (HC + 1)))] Gu) Kp)
 (∃ Jk : Nat, (Jk < Jh) ∧
 Ls Jk [(iV (IntKind.wrap .i64 (Cv + 1)))] Fu))
 (∃ Lu : IT, (∃ Lp, Lu Lp [(iV 0)] Db) ∧
 ∀ (Gw : Nat) (_ : Nat → Value) (Fg : Int) (Lv : Mem), (Lu Gw [(iV Fg)] Lv) → aX (decide (Fg < 31))
 (ae Try.prog 18 #[(.pointer Ea)] Lv (fun Le Fx =>
 aE (some Le) fun Lg Ji Qr =>
 ∃ Lw : IT, (∃ Pb, Lw Pb [(iV 0)] Fx) ∧
 ∀ (Ng : Nat) (_ : Nat → Value) (Gx : Int) (Cw : Mem), (Lw Ng [(iV Gx)] Cw) → aX (decide (Gx < Ji))
 ((0 ≤ Gx) ∧
 (Gx < Ji) ∧
 aB Lg fun Pc Pd =>
 rI Cw Pc (Pd + (Int.toNat Gx)) fun Gs =>
 ae Try.prog 9 #[(.pointer Ea), (iV Gs), (.func (.func 17) #[] #[])] Cw (fun Pe Pf =>
 ∃ t95 : Bool, ∃ Pg : Option Addr, ∃ Ph Pj : Nat, (Pe = (.agg #[(.bool t95), (.slice Pg Ph Pj)])) ∧
 ae Try.prog 9 #[(.pointer Ea), (iV Gs), (.func (.func 17) #[] #[])] Pf (fun Pk Lx =>
 ∃ t101 : Bool, ∃ Ly : Option Addr, ∃ Lz LA : Nat, (Pk = (.agg #[(.bool t101), (.slice Ly Lz LA)])) ∧
 ∃ Im : Nat, (Im < Ng) ∧
 Lw Im [(iV (IntKind.wrap .i64 (Gx + 1)))] Lx) Kp) Kp)
 (∃ BJ : Nat, (BJ < Gw) ∧
 Lu BJ [(iV (IntKind.wrap .i64 (Fg + 1)))] Cw)) Kp)
 (ae Try.prog 19 #[(.pointer Ea)] Lv (fun LB LC =>
 aE (some LB) fun Io Dc Pm =>
 ∃ BK : IT, (∃ LD, BK LD [(iV (-1)), (iV 0)] LC) ∧
 ∀ (Dd : Nat) (_ : Nat → Value) (FA : Int) (pV : Int) (q7 : Mem), (BK Dd [(iV FA), (iV pV)] q7) → aX (decide (pV < Dc))
 ((0 ≤ pV) ∧
 (pV < Dc) ∧
 aB Io fun LF LG =>
 rI q7 LF (LG + (Int.toNat pV)) fun De =>
 (0 ≤ De) ∧
 (De < m0) ∧
 aB B0 fun LH LI =>
 rI q7 LH (LI + (Int.toNat De)) fun BL =>
 ((30 : Int) ≠ 0) ∧
 aX (decide (((IntKind.wrap .i64 (1 + (Int.tmod (IntKind.wrap .i64 (((Nat.bitwise and (BitVec.ofInt IntKind.i64.bits BL).toNat (BitVec.ofInt IntKind.i64.bits 255).toNat) : Nat) : Int)) 30))) : Int) < FA))
 (K (.bool false) q7)
 (aX (decide (pV > 0))
 (aX ((IntKind.wrap .i64 (1 + (Int.tmod (IntKind.wrap .i64 (((Nat.bitwise and (BitVec.ofInt IntKind.i64.bits BL).toNat (BitVec.ofInt IntKind.i64.bits 255).toNat) : Nat) : Int)) 30))) == FA)
 (((0 : Int) ≤ (IntKind.wrap .i64 (pV - 1))) ∧
 (((IntKind.wrap .i64 (pV - 1)) : Int) < (Dc : Int)) ∧
 aB Io fun LJ LK =>
 rI q7 LJ (LK + (Int.toNat (IntKind.wrap .i64 (pV - 1)))) fun LL =>
 aX (decide (De ≤ LL))
 (K (.bool false) q7)
 (∃ Ip : Nat, (Ip < Dd) ∧
 BK Ip [(iV (IntKind.wrap .i64 (1 + (Int.tmod (IntKind.wrap .i64 (((Nat.bitwise and (BitVec.ofInt IntKind.i64.bits BL).toNat (BitVec.ofInt IntKind.i64.bits 255).toNat) : Nat) : Int)) 30)))), (iV (IntKind.wrap .i64 (pV + 1)))] q7))
 (∃ Iq : Nat, (Iq < Dd) ∧
 BK Iq [(iV (IntKind.wrap .i64 (1 + (Int.tmod (IntKind.wrap .i64 (((Nat.bitwise and (BitVec.ofInt IntKind.i64.bits BL).toNat (BitVec.ofInt IntKind.i64.bits 255).toNat) : Nat) : Int)) 30)))), (iV (IntKind.wrap .i64 (pV + 1)))] q7))
 (∃ Ir : Nat, (Ir < Dd) ∧
 BK Ir [(iV (IntKind.wrap .i64 (1 + (Int.tmod (IntKind.wrap .i64 (((Nat.bitwise and (BitVec.ofInt IntKind.i64.bits BL).toNat (BitVec.ofInt IntKind.i64.bits 255).toNat) : Nat) : Int)) 30)))), (iV (IntKind.wrap .i64 (pV + 1)))] q7)))
 (aX ((Dc : Int) == (if (20 : Int) < (m0 : Int) then 20 else (m0 : Int)))
 (ae Try.prog 20 #[(.pointer Ea)] q7 (fun LM LN =>
 aE (some LM) fun Pn LO Po =>
 K (.bool ((LO : Int) == 0)) LN) Kp)
 (K (.bool false) q7))) Kp)))) Kp) Kp))) Kp) :
 ae Try.prog 5 #[.slice B0 m0 c0] M K Kp := vw [(2000000, .loop [(4, .c .sl), (24, .c (.int .i64))]), (2000002, .loop [(68, .c (.int .i64))]), (2000004, .loop [(9, .c (.int .i64))]), (2000006, .loop [(79, .c (.int .i64))]), (2000008, .loop [(86, .c (.int .i64))]), (2000010, .loop [(91, .c (.int .i64))]), (2000012, .loop [(13, .c (.int .i64)), (109, .c (.int .i64))])] Try.func5 h
end Go.Proofs
