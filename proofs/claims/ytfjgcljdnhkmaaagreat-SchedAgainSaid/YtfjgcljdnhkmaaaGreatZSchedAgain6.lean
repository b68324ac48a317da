/- A part of proofs about one program. -/
import Derived.ChangeArms
import Derived.Deep.Slices
import Derived.OpenShut
import Derived.Recover
import Derived.Scope
import Derived.Test.YtfjgcljdnhkmaaaGreatProg
import Derived.WalkKit
import Derived.Test.YtfjgcljdnhkmaaaGreatZSchedAgainBase
import Derived.Test.YtfjgcljdnhkmaaaGreatZSchedAgainOps
import Derived.Test.YtfjgcljdnhkmaaaGreatZSchedAgainOpsB
import Derived.Test.YtfjgcljdnhkmaaaGreatZSchedAgainOpC
import Derived.Test.YtfjgcljdnhkmaaaGreatZSchedAgainFrame
import Derived.Test.YtfjgcljdnhkmaaaGreatZSchedAgainReg
import Derived.Test.YtfjgcljdnhkmaaaGreatZSchedAgainRegB
import Derived.Test.YtfjgcljdnhkmaaaGreatZSchedAgainRegL
import Derived.Test.YtfjgcljdnhkmaaaGreatZSchedAgainRegC
import Derived.Test.YtfjgcljdnhkmaaaGreatZSchedAgainExec
import Derived.Test.YtfjgcljdnhkmaaaGreatZSchedAgainSound
import Derived.Test.YtfjgcljdnhkmaaaGreatZSchedAgainSoundB
import Derived.Test.YtfjgcljdnhkmaaaGreatZSchedAgainLib
import Derived.Test.YtfjgcljdnhkmaaaGreatZSchedAgainHp
import Derived.Test.YtfjgcljdnhkmaaaGreatZSchedAgainRow
import Derived.Test.YtfjgcljdnhkmaaaGreatZSchedAgainBig
import Derived.Test.YtfjgcljdnhkmaaaGreatZSchedAgainStC
import Derived.Test.YtfjgcljdnhkmaaaGreatZSchedAgainMod
import Derived.Test.YtfjgcljdnhkmaaaGreatZSchedAgainOpen
import Derived.Test.YtfjgcljdnhkmaaaGreatZSchedAgainArgs
import Derived.Test.YtfjgcljdnhkmaaaGreatZSchedAgainDefer
import Derived.Test.YtfjgcljdnhkmaaaGreatZSchedAgainDefer2
import Derived.Test.YtfjgcljdnhkmaaaGreatZSchedAgainAgg
import Derived.Test.YtfjgcljdnhkmaaaGreatZSchedAgain0
import Derived.Test.YtfjgcljdnhkmaaaGreatZSchedAgain1
import Derived.Test.YtfjgcljdnhkmaaaGreatZSchedAgain2
import Derived.Test.YtfjgcljdnhkmaaaGreatZSchedAgain3
import Derived.Test.YtfjgcljdnhkmaaaGreatZSchedAgain4
import Derived.Test.YtfjgcljdnhkmaaaGreatZSchedAgain5
set_option linter.unusedVariables false
namespace Go.Proofs
open Go.AF
set_option maxRecDepth 100000
set_option maxHeartbeats 1000000
attribute [local irreducible] aK cJ fJ bO aD fz aG aO be aS bJ aV
def aI (n m : Int) : Int := if m < 1 then 0 else Int.tmod (IntKind.wrap .i64 (Int.tmod n m + m)) m
theorem dw {n m : Int} (hm : 1 ≤ m) (hb : m < 4611686018427387904) : 0 ≤ aI n m ∧ aI n m < m := by
 have h1 := Int.tmod_lt_of_pos n (show 0 < m by omega)
 have h2 := Int.lt_tmod_of_pos n (show 0 < m by omega)
 unfold aI
 rw [if_neg (by omega), cY (by omega) (by omega)]
 have h3 : 0 ≤ Int.tmod n m + m := by omega
 exact ⟨Int.tmod_nonneg m h3, Int.tmod_lt_of_pos _ (by omega)⟩
def xK (nf nc ie lk lf : Int) (x : cI) : cI :=
 if aI x.op 23 = 1 then ⟨1, aI x.a 8, x.b, 0⟩
 else if aI x.op 23 = 2 then ⟨2, aI x.a 8, aI x.b 8, 0⟩
 else if aI x.op 23 = 3 then ⟨aI x.op 23, aI x.a 8, aI x.b 8, aI x.c 8⟩
 else if aI x.op 23 = 4 then ⟨aI x.op 23, aI x.a 8, aI x.b 8, aI x.c 8⟩
 else if aI x.op 23 = 5 then ⟨aI x.op 23, aI x.a 8, aI x.b 8, aI x.c 8⟩
 else if aI x.op 23 = 6 then ⟨aI x.op 23, aI x.a 8, aI x.b 8, aI x.c 8⟩
 else if aI x.op 23 = 7 then ⟨7, aI x.a lf, 0, 0⟩
 else if aI x.op 23 = 8 then ⟨8, aI x.a 8, aI x.b lf, 0⟩
 else if aI x.op 23 = 9 then ⟨aI x.op 23, aI x.a nf, aI x.b 8, aI x.c 8⟩
 else if aI x.op 23 = 11 then ⟨aI x.op 23, aI x.a nf, aI x.b 8, aI x.c 8⟩
 else if aI x.op 23 = 10 then ⟨aI x.op 23, aI x.a 8, 0, 0⟩
 else if aI x.op 23 = 17 then ⟨aI x.op 23, aI x.a 8, 0, 0⟩
 else if aI x.op 23 = 20 then ⟨aI x.op 23, aI x.a 8, 0, 0⟩
 else if aI x.op 23 = 13 then (if nc = 0 then .zero else ⟨aI x.op 23, aI x.a nc, aI x.b 8, 0⟩)
 else if aI x.op 23 = 14 then (if nc = 0 then .zero else ⟨aI x.op 23, aI x.a nc, aI x.b 8, aI x.c 8⟩)
 else if aI x.op 23 = 15 then (if nc = 0 then .zero else ⟨aI x.op 23, aI x.a nc, 0, 0⟩)
 else if aI x.op 23 = 16 then (if ie = 0 then .zero else ⟨16, aI x.a ie, 1 + aI x.b (ie - aI x.a ie), aI x.c 8⟩)
 else if aI x.op 23 = 18 then (if lk = 0 then .zero else ⟨aI x.op 23, aI x.a lk, 0, 0⟩)
 else if aI x.op 23 = 19 then (if lk = 0 then .zero else ⟨aI x.op 23, aI x.a lk, 0, 0⟩)
 else if aI x.op 23 = 21 then ⟨21, aI x.a 8, 1 + aI x.b 1000, 0⟩
 else if aI x.op 23 = 22 then ⟨22, aI x.a 1000, 0, 0⟩
 else ⟨aI x.op 23, 0, 0, 0⟩
def dc (nf nc ie lk lf : Int) (i : cI) : Prop := 0 ≤ i.op ∧ i.op < 23 ∧ i.cG ∧ (i.op = 7 → 0 ≤ i.a ∧ i.a < lf) ∧ (i.op = 8 → 0 ≤ i.b ∧ i.b < lf) ∧
 (i.op = 9 ∨ i.op = 11 → 0 ≤ i.a ∧ i.a < nf ∧ bh i.b ∧ bh i.c) ∧ (i.op = 10 ∨ i.op = 17 ∨ i.op = 20 ∨ i.op = 21 → bh i.a) ∧
 (i.op = 13 ∨ i.op = 14 ∨ i.op = 15 → 0 ≤ i.a ∧ i.a < nc) ∧ (i.op = 13 ∨ i.op = 14 → bh i.b) ∧ (i.op = 14 ∨ i.op = 16 → bh i.c) ∧
 (i.op = 16 → 0 ≤ i.a ∧ 1 ≤ i.b ∧ i.a + i.b ≤ ie) ∧ (i.op = 18 ∨ i.op = 19 → 0 ≤ i.a ∧ i.a < lk) ∧ (i.op = 21 → 1 ≤ i.b ∧ i.b < 1099511627776)
theorem dc.ok {p : b6} {f : List cI} {i : cI} (h : dc p.funcs.length p.dI.length p.cases.length p.aL f.length i) : kf p f i := h
theorem dc.zero {nf nc ie lk lf : Int} : dc nf nc ie lk lf .zero := by
 simp [dc, cI.cG, cI.zero]
theorem jx {nf nc ie lk lf : Int} {p : Prop} [Decidable p] {x y : cI} (h1 : p → dc nf nc ie lk lf x) (h2 : ¬ p → dc nf nc ie lk lf y) : dc nf nc ie lk lf (if p then x else y) := by
 split
 ·exact h1 ‹_›
 ·exact h2 ‹_›
theorem PJ {nf nc ie lk lf : Int} {x : cI} (hf : 1 ≤ nf ∧ nf ≤ 5) (hc : 0 ≤ nc ∧ nc ≤ 4) (hcs : 0 ≤ ie ∧ ie ≤ 8) (hl : 0 ≤ lk ∧ lk ≤ 3) (hlf : 1 ≤ lf ∧ lf ≤ 20) : dc nf nc ie lk lf (xK nf nc ie lk lf x) := by
 have a8 := dw (n := x.a) (m := 8) (by omega) (by omega)
 have b8 := dw (n := x.b) (m := 8) (by omega) (by omega)
 have c8 := dw (n := x.c) (m := 8) (by omega) (by omega)
 have o23 := dw (n := x.op) (m := 23) (by omega) (by omega)
 have af := dw (n := x.a) (m := lf) (by omega) (by omega)
 have bf := dw (n := x.b) (m := lf) (by omega) (by omega)
 have an := dw (n := x.a) (m := nf) (by omega) (by omega)
 have b1000 := dw (n := x.b) (m := 1000) (by omega) (by omega)
 have ac : nc ≠ 0 → _ := fun e => dw (n := x.a) (m := nc) (by omega) (by omega)
 have al : lk ≠ 0 → _ := fun e => dw (n := x.a) (m := lk) (by omega) (by omega)
 have yc : ie ≠ 0 → _ := fun e => dw (n := x.a) (m := ie) (by omega) (by omega)
 have AB : ie ≠ 0 → _ := fun e => dw (n := x.b) (m := ie - aI x.a ie) (by have := yc e; omega) (by have := yc e; omega)
 have p1 : dc nf nc ie lk lf ⟨1, aI x.a 8, x.b, 0⟩ := by clear ac al yc AB; simp [dc, cI.cG, bh] <;> omega
 have p2 : dc nf nc ie lk lf ⟨2, aI x.a 8, aI x.b 8, 0⟩ := by clear ac al yc AB; simp [dc, cI.cG, bh] <;> omega
 have p3 : dc nf nc ie lk lf ⟨3, aI x.a 8, aI x.b 8, aI x.c 8⟩ := by clear ac al yc AB; simp [dc, cI.cG, bh] <;> omega
 have p4 : dc nf nc ie lk lf ⟨4, aI x.a 8, aI x.b 8, aI x.c 8⟩ := by clear ac al yc AB; simp [dc, cI.cG, bh] <;> omega
 have p5 : dc nf nc ie lk lf ⟨5, aI x.a 8, aI x.b 8, aI x.c 8⟩ := by clear ac al yc AB; simp [dc, cI.cG, bh] <;> omega
 have p6 : dc nf nc ie lk lf ⟨6, aI x.a 8, aI x.b 8, aI x.c 8⟩ := by clear ac al yc AB; simp [dc, cI.cG, bh] <;> omega
 have p7 : dc nf nc ie lk lf ⟨7, aI x.a lf, 0, 0⟩ := by clear ac al yc AB; simp [dc, cI.cG, bh] <;> omega
 have p8 : dc nf nc ie lk lf ⟨8, aI x.a 8, aI x.b lf, 0⟩ := by clear ac al yc AB; simp [dc, cI.cG, bh] <;> omega
 have p9 : dc nf nc ie lk lf ⟨9, aI x.a nf, aI x.b 8, aI x.c 8⟩ := by clear ac al yc AB; simp [dc, cI.cG, bh] <;> omega
 have p11 : dc nf nc ie lk lf ⟨11, aI x.a nf, aI x.b 8, aI x.c 8⟩ := by clear ac al yc AB; simp [dc, cI.cG, bh] <;> omega
 have p10 : dc nf nc ie lk lf ⟨10, aI x.a 8, 0, 0⟩ := by clear ac al yc AB; simp [dc, cI.cG, bh] <;> omega
 have p17 : dc nf nc ie lk lf ⟨17, aI x.a 8, 0, 0⟩ := by clear ac al yc AB; simp [dc, cI.cG, bh] <;> omega
 have p20 : dc nf nc ie lk lf ⟨20, aI x.a 8, 0, 0⟩ := by clear ac al yc AB; simp [dc, cI.cG, bh] <;> omega
 have p13 : nc ≠ 0 → dc nf nc ie lk lf ⟨13, aI x.a nc, aI x.b 8, 0⟩ := fun z => by have := ac z; clear ac al yc AB; simp [dc, cI.cG, bh] <;> omega
 have p14 : nc ≠ 0 → dc nf nc ie lk lf ⟨14, aI x.a nc, aI x.b 8, aI x.c 8⟩ := fun z => by have := ac z; clear ac al yc AB; simp [dc, cI.cG, bh] <;> omega
 have p15 : nc ≠ 0 → dc nf nc ie lk lf ⟨15, aI x.a nc, 0, 0⟩ := fun z => by have := ac z; clear ac al yc AB; simp [dc, cI.cG, bh] <;> omega
 have p16 : ie ≠ 0 → dc nf nc ie lk lf ⟨16, aI x.a ie, 1 + aI x.b (ie - aI x.a ie), aI x.c 8⟩ := fun z => by have := yc z; have := AB z; clear ac al yc AB; simp [dc, cI.cG, bh] <;> omega
 have Qg : lk ≠ 0 → dc nf nc ie lk lf ⟨18, aI x.a lk, 0, 0⟩ := fun z => by have := al z; clear ac al yc AB; simp [dc, cI.cG, bh] <;> omega
 have p19 : lk ≠ 0 → dc nf nc ie lk lf ⟨19, aI x.a lk, 0, 0⟩ := fun z => by have := al z; clear ac al yc AB; simp [dc, cI.cG, bh] <;> omega
 have p21 : dc nf nc ie lk lf ⟨21, aI x.a 8, 1 + aI x.b 1000, 0⟩ := by clear ac al yc AB; simp [dc, cI.cG, bh] <;> omega
 have p22 : dc nf nc ie lk lf ⟨22, aI x.a 1000, 0, 0⟩ := by clear ac al yc AB; simp [dc, cI.cG, bh] <;> omega
 clear a8 b8 c8 af bf an b1000 ac al yc AB
 unfold xK
 refine jx (fun e => p1) fun n1 => ?_
 refine jx (fun e => p2) fun n2 => ?_
 refine jx (fun e => e ▸ p3) fun n3 => ?_
 refine jx (fun e => e ▸ p4) fun n4 => ?_
 refine jx (fun e => e ▸ p5) fun n5 => ?_
 refine jx (fun e => e ▸ p6) fun n6 => ?_
 refine jx (fun e => p7) fun n7 => ?_
 refine jx (fun e => p8) fun n8 => ?_
 refine jx (fun e => e ▸ p9) fun n9 => ?_
 refine jx (fun e => e ▸ p11) fun fA => ?_
 refine jx (fun e => e ▸ p10) fun j9 => ?_
 refine jx (fun e => e ▸ p17) fun iw => ?_
 refine jx (fun e => e ▸ p20) fun fI => ?_
 refine jx (fun e => jx (fun _ => dc.zero) fun z => e ▸ p13 z) fun jg => ?_
 refine jx (fun e => jx (fun _ => dc.zero) fun z => e ▸ p14 z) fun jc => ?_
 refine jx (fun e => jx (fun _ => dc.zero) fun z => e ▸ p15 z) fun jY => ?_
 refine jx (fun e => jx (fun _ => dc.zero) fun z => p16 z) fun mB => ?_
 refine jx (fun e => jx (fun _ => dc.zero) fun z => e ▸ Qg z) fun kL => ?_
 refine jx (fun e => jx (fun _ => dc.zero) fun z => e ▸ p19 z) fun xo => ?_
 refine jx (fun e => p21) fun nT => ?_
 refine jx (fun e => p22) fun sC => ?_
 generalize aI x.op 23 = o at *
 have : o = 0 ∨ o = 12 := by omega
 rcases this with rfl | rfl <;> simp [dc, cI.cG]
section
variable {M : Mem} {K : Value → Mem → Prop} {Kp : List PanicEntry → Mem → Prop}
theorem bH {n m : Int} (k : K (.int .i64 (aI n m)) M) : aa Tryz.prog 69 #[.int .i64 n, .int .i64 m] M K Kp := by
 refine sk ?_
 unfold aI at k
 exact aP.2 ⟨fun h => by rw [if_pos h] at k; exact k, fun h => ⟨by omega, by omega, by rw [if_neg h] at k; exact k⟩⟩
variable {R : Mem} {L : List HP}
abbrev insV (i : cI) : Value := .agg #[.int .i64 i.op, .int .i64 i.a, .int .i64 i.b, .int .i64 i.c]
theorem Sn {A B C F : Option Addr} {nf cf nc cc ie ccs lf cl : Nat} {lk o a b c : Int} (h : Hp R L M) (hcs : ie ≤ 8)
  (k : ∀ M', Hp R L M' → K (insV (xK nf nc ie lk lf ⟨o, a, b, c⟩)) M') :
  aa Tryz.prog 70 #[.agg #[.slice A nf cf, .slice B nc cc, .int .i64 lk, .slice C ie ccs], .slice F lf cl, .agg #[.int .i64 o, .int .i64 a, .int .i64 b, .int .i64 c]] M K Kp := by
 refine so ?_
 have w1000 : IntKind.wrap .i64 (1 + aI b 1000) = 1 + aI b 1000 := by
  have := dw (n := b) (m := 1000) (by omega) (by omega)
  exact cY (by omega) (by omega)
 have as_ : (ie : Int) ≠ 0 → IntKind.wrap .i64 ((ie : Int) - aI a ie) = ie - aI a ie ∧ IntKind.wrap .i64 (1 + aI b (ie - aI a ie)) = 1 + aI b (ie - aI a ie) := fun e => by
  have h1 := dw (n := a) (m := (ie : Int)) (by omega) (by omega)
  have h2 := dw (n := b) (m := (ie : Int) - aI a ie) (by omega) (by omega)
  exact ⟨cY (by omega) (by omega), cY (by omega) (by omega)⟩
 unfold xK at k
 dsimp only at k
 repeat (first | refine bH ?_ | (refine aq h ?_; clear h; intro kb M h) | (refine av h ?_; clear h; intro M h) | refine St.to h ?_ | (apply Exists.intro; (repeat apply Exists.intro); refine And.intro rfl ?_) | (refine And.intro ?_ ?_; first | exact rfl | ((repeat (refine ay (aA h) ?_)); exact ae) | omega) | refine ai ?_ | refine aj ?_)
 refine aY.2 ⟨fun e => ?_, fun e => ?_⟩
 ·rw [if_pos e] at k
  repeat (first | refine bH ?_ | (refine aq h ?_; clear h; intro kb M h) | (refine av h ?_; clear h; intro M h) | refine St.to h ?_ | (apply Exists.intro; (repeat apply Exists.intro); refine And.intro rfl ?_) | (refine And.intro ?_ ?_; first | exact rfl | ((repeat (refine ay (aA h) ?_)); exact ae) | omega) | refine ai ?_ | refine aj ?_)
  exact k _ (h.sub bz)
 rw [if_neg e] at k
 clear e
 refine aY.2 ⟨fun e => ?_, fun e => ?_⟩
 ·rw [if_pos e] at k
  repeat (first | refine bH ?_ | (refine aq h ?_; clear h; intro kb M h) | (refine av h ?_; clear h; intro M h) | refine St.to h ?_ | (apply Exists.intro; (repeat apply Exists.intro); refine And.intro rfl ?_) | (refine And.intro ?_ ?_; first | exact rfl | ((repeat (refine ay (aA h) ?_)); exact ae) | omega) | refine ai ?_ | refine aj ?_)
  exact k _ (h.sub bz)
 rw [if_neg e] at k
 clear e
 refine aY.2 ⟨fun e => ?_, fun e => ?_⟩
 ·rw [if_pos e] at k
  repeat (first | refine bH ?_ | (refine aq h ?_; clear h; intro kb M h) | (refine av h ?_; clear h; intro M h) | refine St.to h ?_ | (apply Exists.intro; (repeat apply Exists.intro); refine And.intro rfl ?_) | (refine And.intro ?_ ?_; first | exact rfl | ((repeat (refine ay (aA h) ?_)); exact ae) | omega) | refine ai ?_ | refine aj ?_)
  exact k _ (h.sub bz)
 rw [if_neg e] at k
 clear e
 refine aY.2 ⟨fun e => ?_, fun e => ?_⟩
 ·rw [if_pos e] at k
  repeat (first | refine bH ?_ | (refine aq h ?_; clear h; intro kb M h) | (refine av h ?_; clear h; intro M h) | refine St.to h ?_ | (apply Exists.intro; (repeat apply Exists.intro); refine And.intro rfl ?_) | (refine And.intro ?_ ?_; first | exact rfl | ((repeat (refine ay (aA h) ?_)); exact ae) | omega) | refine ai ?_ | refine aj ?_)
  exact k _ (h.sub bz)
 rw [if_neg e] at k
 clear e
 refine aY.2 ⟨fun e => ?_, fun e => ?_⟩
 ·rw [if_pos e] at k
  repeat (first | refine bH ?_ | (refine aq h ?_; clear h; intro kb M h) | (refine av h ?_; clear h; intro M h) | refine St.to h ?_ | (apply Exists.intro; (repeat apply Exists.intro); refine And.intro rfl ?_) | (refine And.intro ?_ ?_; first | exact rfl | ((repeat (refine ay (aA h) ?_)); exact ae) | omega) | refine ai ?_ | refine aj ?_)
  exact k _ (h.sub bz)
 rw [if_neg e] at k
 clear e
 refine aY.2 ⟨fun e => ?_, fun e => ?_⟩
 ·rw [if_pos e] at k
  repeat (first | refine bH ?_ | (refine aq h ?_; clear h; intro kb M h) | (refine av h ?_; clear h; intro M h) | refine St.to h ?_ | (apply Exists.intro; (repeat apply Exists.intro); refine And.intro rfl ?_) | (refine And.intro ?_ ?_; first | exact rfl | ((repeat (refine ay (aA h) ?_)); exact ae) | omega) | refine ai ?_ | refine aj ?_)
  exact k _ (h.sub bz)
 rw [if_neg e] at k
 clear e
 refine aY.2 ⟨fun e => ?_, fun e => ?_⟩
 ·rw [if_pos e] at k
  repeat (first | refine bH ?_ | (refine aq h ?_; clear h; intro kb M h) | (refine av h ?_; clear h; intro M h) | refine St.to h ?_ | (apply Exists.intro; (repeat apply Exists.intro); refine And.intro rfl ?_) | (refine And.intro ?_ ?_; first | exact rfl | ((repeat (refine ay (aA h) ?_)); exact ae) | omega) | refine ai ?_ | refine aj ?_)
  exact k _ (h.sub bz)
 rw [if_neg e] at k
 clear e
 refine aY.2 ⟨fun e => ?_, fun e => ?_⟩
 ·rw [if_pos e] at k
  repeat (first | refine bH ?_ | (refine aq h ?_; clear h; intro kb M h) | (refine av h ?_; clear h; intro M h) | refine St.to h ?_ | (apply Exists.intro; (repeat apply Exists.intro); refine And.intro rfl ?_) | (refine And.intro ?_ ?_; first | exact rfl | ((repeat (refine ay (aA h) ?_)); exact ae) | omega) | refine ai ?_ | refine aj ?_)
  exact k _ (h.sub bz)
 rw [if_neg e] at k
 clear e
 refine aY.2 ⟨fun e => ?_, fun e => ?_⟩
 ·rw [if_pos e] at k
  repeat (first | refine bH ?_ | (refine aq h ?_; clear h; intro kb M h) | (refine av h ?_; clear h; intro M h) | refine St.to h ?_ | (apply Exists.intro; (repeat apply Exists.intro); refine And.intro rfl ?_) | (refine And.intro ?_ ?_; first | exact rfl | ((repeat (refine ay (aA h) ?_)); exact ae) | omega) | refine ai ?_ | refine aj ?_)
  exact k _ (h.sub bz)
 rw [if_neg e] at k
 clear e
 refine aY.2 ⟨fun e => ?_, fun e => ?_⟩
 ·rw [if_pos e] at k
  repeat (first | refine bH ?_ | (refine aq h ?_; clear h; intro kb M h) | (refine av h ?_; clear h; intro M h) | refine St.to h ?_ | (apply Exists.intro; (repeat apply Exists.intro); refine And.intro rfl ?_) | (refine And.intro ?_ ?_; first | exact rfl | ((repeat (refine ay (aA h) ?_)); exact ae) | omega) | refine ai ?_ | refine aj ?_)
  exact k _ (h.sub bz)
 rw [if_neg e] at k
 clear e
 refine aY.2 ⟨fun e => ?_, fun e => ?_⟩
 ·rw [if_pos e] at k
  repeat (first | refine bH ?_ | (refine aq h ?_; clear h; intro kb M h) | (refine av h ?_; clear h; intro M h) | refine St.to h ?_ | (apply Exists.intro; (repeat apply Exists.intro); refine And.intro rfl ?_) | (refine And.intro ?_ ?_; first | exact rfl | ((repeat (refine ay (aA h) ?_)); exact ae) | omega) | refine ai ?_ | refine aj ?_)
  exact k _ (h.sub bz)
 rw [if_neg e] at k
 clear e
 refine aY.2 ⟨fun e => ?_, fun e => ?_⟩
 ·rw [if_pos e] at k
  repeat (first | refine bH ?_ | (refine aq h ?_; clear h; intro kb M h) | (refine av h ?_; clear h; intro M h) | refine St.to h ?_ | (apply Exists.intro; (repeat apply Exists.intro); refine And.intro rfl ?_) | (refine And.intro ?_ ?_; first | exact rfl | ((repeat (refine ay (aA h) ?_)); exact ae) | omega) | refine ai ?_ | refine aj ?_)
  exact k _ (h.sub bz)
 rw [if_neg e] at k
 clear e
 refine aY.2 ⟨fun e => ?_, fun e => ?_⟩
 ·rw [if_pos e] at k
  repeat (first | refine bH ?_ | (refine aq h ?_; clear h; intro kb M h) | (refine av h ?_; clear h; intro M h) | refine St.to h ?_ | (apply Exists.intro; (repeat apply Exists.intro); refine And.intro rfl ?_) | (refine And.intro ?_ ?_; first | exact rfl | ((repeat (refine ay (aA h) ?_)); exact ae) | omega) | refine ai ?_ | refine aj ?_)
  exact k _ (h.sub bz)
 rw [if_neg e] at k
 clear e
 refine aY.2 ⟨fun e => ?_, fun e => ?_⟩
 ·rw [if_pos e] at k
  refine aY.2 ⟨fun z => ?_, fun z => ?_⟩
  ·rw [if_pos z] at k
   repeat (first | refine bH ?_ | (refine aq h ?_; clear h; intro kb M h) | (refine av h ?_; clear h; intro M h) | refine St.to h ?_ | (apply Exists.intro; (repeat apply Exists.intro); refine And.intro rfl ?_) | (refine And.intro ?_ ?_; first | exact rfl | ((repeat (refine ay (aA h) ?_)); exact ae) | omega) | refine ai ?_ | refine aj ?_)
   exact k _ (h.sub bz)
  rw [if_neg z] at k
  repeat (first | refine bH ?_ | (refine aq h ?_; clear h; intro kb M h) | (refine av h ?_; clear h; intro M h) | refine St.to h ?_ | (apply Exists.intro; (repeat apply Exists.intro); refine And.intro rfl ?_) | (refine And.intro ?_ ?_; first | exact rfl | ((repeat (refine ay (aA h) ?_)); exact ae) | omega) | refine ai ?_ | refine aj ?_)
  refine aP.2 ⟨fun _ => ?_, fun e2 => absurd (show aI o 23 < 15 by omega) e2⟩
  repeat (first | refine bH ?_ | (refine aq h ?_; clear h; intro kb M h) | (refine av h ?_; clear h; intro M h) | refine St.to h ?_ | (apply Exists.intro; (repeat apply Exists.intro); refine And.intro rfl ?_) | (refine And.intro ?_ ?_; first | exact rfl | ((repeat (refine ay (aA h) ?_)); exact ae) | omega) | refine ai ?_ | refine aj ?_)
  refine aY.2 ⟨fun e2 => absurd e2 (by omega), fun _ => ?_⟩
  repeat (first | refine bH ?_ | (refine aq h ?_; clear h; intro kb M h) | (refine av h ?_; clear h; intro M h) | refine St.to h ?_ | (apply Exists.intro; (repeat apply Exists.intro); refine And.intro rfl ?_) | (refine And.intro ?_ ?_; first | exact rfl | ((repeat (refine ay (aA h) ?_)); exact ae) | omega) | refine ai ?_ | refine aj ?_)
  exact k _ (h.sub bz)
 rw [if_neg e] at k
 clear e
 refine aY.2 ⟨fun e => ?_, fun e => ?_⟩
 ·rw [if_pos e] at k
  refine aY.2 ⟨fun z => ?_, fun z => ?_⟩
  ·rw [if_pos z] at k
   repeat (first | refine bH ?_ | (refine aq h ?_; clear h; intro kb M h) | (refine av h ?_; clear h; intro M h) | refine St.to h ?_ | (apply Exists.intro; (repeat apply Exists.intro); refine And.intro rfl ?_) | (refine And.intro ?_ ?_; first | exact rfl | ((repeat (refine ay (aA h) ?_)); exact ae) | omega) | refine ai ?_ | refine aj ?_)
   exact k _ (h.sub bz)
  rw [if_neg z] at k
  repeat (first | refine bH ?_ | (refine aq h ?_; clear h; intro kb M h) | (refine av h ?_; clear h; intro M h) | refine St.to h ?_ | (apply Exists.intro; (repeat apply Exists.intro); refine And.intro rfl ?_) | (refine And.intro ?_ ?_; first | exact rfl | ((repeat (refine ay (aA h) ?_)); exact ae) | omega) | refine ai ?_ | refine aj ?_)
  refine aP.2 ⟨fun _ => ?_, fun e2 => absurd (show aI o 23 < 15 by omega) e2⟩
  repeat (first | refine bH ?_ | (refine aq h ?_; clear h; intro kb M h) | (refine av h ?_; clear h; intro M h) | refine St.to h ?_ | (apply Exists.intro; (repeat apply Exists.intro); refine And.intro rfl ?_) | (refine And.intro ?_ ?_; first | exact rfl | ((repeat (refine ay (aA h) ?_)); exact ae) | omega) | refine ai ?_ | refine aj ?_)
  refine aY.2 ⟨fun _ => ?_, fun e2 => absurd e e2⟩
  repeat (first | refine bH ?_ | (refine aq h ?_; clear h; intro kb M h) | (refine av h ?_; clear h; intro M h) | refine St.to h ?_ | (apply Exists.intro; (repeat apply Exists.intro); refine And.intro rfl ?_) | (refine And.intro ?_ ?_; first | exact rfl | ((repeat (refine ay (aA h) ?_)); exact ae) | omega) | refine ai ?_ | refine aj ?_)
  exact k _ (h.sub bz)
 rw [if_neg e] at k
 clear e
 refine aY.2 ⟨fun e => ?_, fun e => ?_⟩
 ·rw [if_pos e] at k
  refine aY.2 ⟨fun z => ?_, fun z => ?_⟩
  ·rw [if_pos z] at k
   repeat (first | refine bH ?_ | (refine aq h ?_; clear h; intro kb M h) | (refine av h ?_; clear h; intro M h) | refine St.to h ?_ | (apply Exists.intro; (repeat apply Exists.intro); refine And.intro rfl ?_) | (refine And.intro ?_ ?_; first | exact rfl | ((repeat (refine ay (aA h) ?_)); exact ae) | omega) | refine ai ?_ | refine aj ?_)
   exact k _ (h.sub bz)
  rw [if_neg z] at k
  repeat (first | refine bH ?_ | (refine aq h ?_; clear h; intro kb M h) | (refine av h ?_; clear h; intro M h) | refine St.to h ?_ | (apply Exists.intro; (repeat apply Exists.intro); refine And.intro rfl ?_) | (refine And.intro ?_ ?_; first | exact rfl | ((repeat (refine ay (aA h) ?_)); exact ae) | omega) | refine ai ?_ | refine aj ?_)
  refine aP.2 ⟨fun e2 => absurd e2 (by omega), fun _ => ?_⟩
  repeat (first | refine bH ?_ | (refine aq h ?_; clear h; intro kb M h) | (refine av h ?_; clear h; intro M h) | refine St.to h ?_ | (apply Exists.intro; (repeat apply Exists.intro); refine And.intro rfl ?_) | (refine And.intro ?_ ?_; first | exact rfl | ((repeat (refine ay (aA h) ?_)); exact ae) | omega) | refine ai ?_ | refine aj ?_)
  refine aY.2 ⟨fun e2 => absurd e2 (by omega), fun _ => ?_⟩
  repeat (first | refine bH ?_ | (refine aq h ?_; clear h; intro kb M h) | (refine av h ?_; clear h; intro M h) | refine St.to h ?_ | (apply Exists.intro; (repeat apply Exists.intro); refine And.intro rfl ?_) | (refine And.intro ?_ ?_; first | exact rfl | ((repeat (refine ay (aA h) ?_)); exact ae) | omega) | refine ai ?_ | refine aj ?_)
  exact k _ (h.sub bz)
 rw [if_neg e] at k
 clear e
 refine aY.2 ⟨fun e => ?_, fun e => ?_⟩
 ·rw [if_pos e] at k
  refine aY.2 ⟨fun z => ?_, fun z => ?_⟩
  ·rw [if_pos z] at k
   repeat (first | refine bH ?_ | (refine aq h ?_; clear h; intro kb M h) | (refine av h ?_; clear h; intro M h) | refine St.to h ?_ | (apply Exists.intro; (repeat apply Exists.intro); refine And.intro rfl ?_) | (refine And.intro ?_ ?_; first | exact rfl | ((repeat (refine ay (aA h) ?_)); exact ae) | omega) | refine ai ?_ | refine aj ?_)
   exact k _ (h.sub bz)
  rw [if_neg z] at k
  obtain ⟨e1, e2⟩ := as_ z
  repeat (first | refine bH ?_ | (refine aq h ?_; clear h; intro kb M h) | (refine av h ?_; clear h; intro M h) | refine St.to h ?_ | (apply Exists.intro; (repeat apply Exists.intro); refine And.intro rfl ?_) | (refine And.intro ?_ ?_; first | exact rfl | ((repeat (refine ay (aA h) ?_)); exact ae) | omega) | refine ai ?_ | refine aj ?_)
  rw [e1]
  repeat (first | refine bH ?_ | (refine aq h ?_; clear h; intro kb M h) | (refine av h ?_; clear h; intro M h) | refine St.to h ?_ | (apply Exists.intro; (repeat apply Exists.intro); refine And.intro rfl ?_) | (refine And.intro ?_ ?_; first | exact rfl | ((repeat (refine ay (aA h) ?_)); exact ae) | omega) | refine ai ?_ | refine aj ?_)
  rw [e2]
  repeat (first | refine bH ?_ | (refine aq h ?_; clear h; intro kb M h) | (refine av h ?_; clear h; intro M h) | refine St.to h ?_ | (apply Exists.intro; (repeat apply Exists.intro); refine And.intro rfl ?_) | (refine And.intro ?_ ?_; first | exact rfl | ((repeat (refine ay (aA h) ?_)); exact ae) | omega) | refine ai ?_ | refine aj ?_)
  exact k _ (h.sub bz)
 rw [if_neg e] at k
 clear e
 refine aY.2 ⟨fun e => ?_, fun e => ?_⟩
 ·rw [if_pos e] at k
  repeat (first | refine bH ?_ | (refine aq h ?_; clear h; intro kb M h) | (refine av h ?_; clear h; intro M h) | refine St.to h ?_ | (apply Exists.intro; (repeat apply Exists.intro); refine And.intro rfl ?_) | (refine And.intro ?_ ?_; first | exact rfl | ((repeat (refine ay (aA h) ?_)); exact ae) | omega) | refine ai ?_ | refine aj ?_)
  refine aY.2 ⟨fun z => ?_, fun z => ?_⟩
  ·rw [if_pos z] at k
   repeat (first | refine bH ?_ | (refine aq h ?_; clear h; intro kb M h) | (refine av h ?_; clear h; intro M h) | refine St.to h ?_ | (apply Exists.intro; (repeat apply Exists.intro); refine And.intro rfl ?_) | (refine And.intro ?_ ?_; first | exact rfl | ((repeat (refine ay (aA h) ?_)); exact ae) | omega) | refine ai ?_ | refine aj ?_)
   exact k _ (h.sub bz)
  rw [if_neg z] at k
  repeat (first | refine bH ?_ | (refine aq h ?_; clear h; intro kb M h) | (refine av h ?_; clear h; intro M h) | refine St.to h ?_ | (apply Exists.intro; (repeat apply Exists.intro); refine And.intro rfl ?_) | (refine And.intro ?_ ?_; first | exact rfl | ((repeat (refine ay (aA h) ?_)); exact ae) | omega) | refine ai ?_ | refine aj ?_)
  exact k _ (h.sub bz)
 rw [if_neg e] at k
 clear e
 refine aY.2 ⟨fun e => ?_, fun e => ?_⟩
 ·rw [if_pos e] at k
  repeat (first | refine bH ?_ | (refine aq h ?_; clear h; intro kb M h) | (refine av h ?_; clear h; intro M h) | refine St.to h ?_ | (apply Exists.intro; (repeat apply Exists.intro); refine And.intro rfl ?_) | (refine And.intro ?_ ?_; first | exact rfl | ((repeat (refine ay (aA h) ?_)); exact ae) | omega) | refine ai ?_ | refine aj ?_)
  refine aY.2 ⟨fun z => ?_, fun z => ?_⟩
  ·rw [if_pos z] at k
   repeat (first | refine bH ?_ | (refine aq h ?_; clear h; intro kb M h) | (refine av h ?_; clear h; intro M h) | refine St.to h ?_ | (apply Exists.intro; (repeat apply Exists.intro); refine And.intro rfl ?_) | (refine And.intro ?_ ?_; first | exact rfl | ((repeat (refine ay (aA h) ?_)); exact ae) | omega) | refine ai ?_ | refine aj ?_)
   exact k _ (h.sub bz)
  rw [if_neg z] at k
  repeat (first | refine bH ?_ | (refine aq h ?_; clear h; intro kb M h) | (refine av h ?_; clear h; intro M h) | refine St.to h ?_ | (apply Exists.intro; (repeat apply Exists.intro); refine And.intro rfl ?_) | (refine And.intro ?_ ?_; first | exact rfl | ((repeat (refine ay (aA h) ?_)); exact ae) | omega) | refine ai ?_ | refine aj ?_)
  exact k _ (h.sub bz)
 rw [if_neg e] at k
 clear e
 refine aY.2 ⟨fun e => ?_, fun e => ?_⟩
 ·rw [if_pos e] at k
  repeat (first | refine bH ?_ | (refine aq h ?_; clear h; intro kb M h) | (refine av h ?_; clear h; intro M h) | refine St.to h ?_ | (apply Exists.intro; (repeat apply Exists.intro); refine And.intro rfl ?_) | (refine And.intro ?_ ?_; first | exact rfl | ((repeat (refine ay (aA h) ?_)); exact ae) | omega) | refine ai ?_ | refine aj ?_)
  rw [w1000]
  exact k _ (h.sub bz)
 rw [if_neg e] at k
 clear e
 refine aY.2 ⟨fun e => ?_, fun e => ?_⟩
 ·rw [if_pos e] at k
  repeat (first | refine bH ?_ | (refine aq h ?_; clear h; intro kb M h) | (refine av h ?_; clear h; intro M h) | refine St.to h ?_ | (apply Exists.intro; (repeat apply Exists.intro); refine And.intro rfl ?_) | (refine And.intro ?_ ?_; first | exact rfl | ((repeat (refine ay (aA h) ?_)); exact ae) | omega) | refine ai ?_ | refine aj ?_)
  exact k _ (h.sub bz)
 rw [if_neg e] at k
 clear e
 repeat (first | refine bH ?_ | (refine aq h ?_; clear h; intro kb M h) | (refine av h ?_; clear h; intro M h) | refine St.to h ?_ | (apply Exists.intro; (repeat apply Exists.intro); refine And.intro rfl ?_) | (refine And.intro ?_ ?_; first | exact rfl | ((repeat (refine ay (aA h) ?_)); exact ae) | omega) | refine ai ?_ | refine aj ?_)
 exact k _ (h.sub bz)
end
end Go.Proofs
namespace Go.Proofs
open Go.AF Go.Deep
def F4 : List IntKind := [.i64, .i64, .i64, .i64]
def Ty : List IntKind := [.i64, .i64, .i64]
def Tz (g : Nat → Int) : cI := ⟨g 0, g 1, g 2, g 3⟩
def TA (g : Nat → Int) : oG := ⟨g 0, g 1, g 2⟩
theorem LZ (l : List (Nat → Int)) : (kE F4).cells l = jm.cells (l.map Tz) := by
 induction l with
 | nil => rfl
 | cons g l ih => rw [gp.bY, List.map_cons, gp.bY, ih]; rfl
theorem Ma (l : List (Nat → Int)) : (kE Ty).cells l = iB.cells (l.map TA) := by
 induction l with
 | nil => rfl
 | cons g l ih => rw [gp.bY, List.map_cons, gp.bY, ih]; rfl
theorem Mb (l : List (Nat → Int)) : (kE [.i64]).cells l = bl.cells (l.map (· 0)) := by
 induction l with
 | nil => rfl
 | cons g l ih => rw [gp.bY, List.map_cons, gp.bY, ih]; rfl
structure tQ (M : Mem) (pa : PA) (p : b6) : Prop where
 n1 : p.funcs.length ≤ 9223372036854775807
 n2 : p.dI.length ≤ 9223372036854775807
 n3 : p.cases.length ≤ 9223372036854775807
 le1 : p.funcs.length ≤ pa.fc
 funcs : 0 < p.funcs.length → ∃ ts : List (Option Addr × Nat × Nat), RS yz M pa.f pa.fc ts ∧ ts.length = p.funcs.length ∧ ∀ (i : Nat) t f, ts[i]? = some t → p.funcs[i]? = some f → t.2.1 = f.length ∧ f.length ≤ 9223372036854775807 ∧ f.length ≤ t.2.2 ∧ (0 < f.length → RS jm M t.1 t.2.2 f)
 dI : 0 < p.dI.length → RS bl M pa.c pa.cc p.dI
 cases : 0 < p.cases.length → RS iB M pa.k pa.kc p.cases
theorem tQ.le {M M' : Mem} {pa : PA} {p : b6} (h : tQ M pa p) (hle : M.le M') : tQ M' pa p := by
 obtain ⟨a1, a2, a3, a4, a5, a6, a7⟩ := h
 refine ⟨a1, a2, a3, a4, fun h0 => ?_, fun h0 => (a6 h0).le hle, fun h0 => (a7 h0).le hle⟩
 obtain ⟨ts, t1, t2, t3⟩ := a5 h0
 exact ⟨ts, t1.le hle, t2, fun i t f a b => ⟨(t3 i t f a b).1, (t3 i t f a b).2.1, (t3 i t f a b).2.2.1, fun h => ((t3 i t f a b).2.2.2 h).le hle⟩⟩
theorem mV.rs {α : Type} {E : gp α} {M : Mem} {A : Option Addr} {n c : Nat} {ks : List IntKind} (h : mV M A n c ks) (f : (Nat → Int) → α) (hc : ∀ l, (kE ks).cells l = E.cells (l.map f)) : ∃ l : List α, l.length = n ∧ n ≤ c ∧ n ≤ 9223372036854775807 ∧ (0 < n → RS E M A c l) := by
 obtain ⟨l, rfl, h1, h2, h3, _⟩ := h
 refine ⟨l.map f, by simp, h1, Nat.le_trans h2 (by decide), fun h0 => ⟨?_, by simpa using h1⟩⟩
 rw [← hc]
 exact h3 h0
section
variable {H : Type} {enc : TypeId × Value → H} {P : Program} {w : World} {base : Nat} {spare : Nat → Bool} {held : Bool}
theorem Bv {t e e2 : TypeId} {A : Option Addr} {n c fuel : Nat} {x : DataW H × List MemPlace} (ht : P.underlying t = some (.slice e)) (he : P.underlying e = some (.slice e2)) (Px : P.cellsOf e = 1) (hk : iM P 8 e2 = some F4) (hc : P.cellsOf e2 = F4.length ∧ 0 < F4.length)
  (h : DataW.trod enc P w base spare held fuel t [.slice A n c] = some x) : ∃ fs : List (List cI), fs.length = n ∧ n ≤ c ∧ n ≤ 9223372036854775807 ∧ (0 < n → ∃ ts : List (Option Addr × Nat × Nat), RS yz (jb w) A c ts ∧ ts.length = n ∧ ∀ (i : Nat) t f, ts[i]? = some t → fs[i]? = some f → t.2.1 = f.length ∧ f.length ≤ 9223372036854775807 ∧ f.length ≤ t.2.2 ∧ (0 < f.length → RS jm (jb w) t.1 t.2.2 f)) := by
 rcases open_slice1 ht Px h with ⟨h0, _⟩ | ⟨a, len, cap, m, n', V, D, Pl, hcs, hb, hl, hm, EU, hx, hel⟩
 ·cases h0
  exact ⟨[], rfl, Nat.le_refl _, by omega, fun h => absurd h (by omega)⟩
 ·cases hcs
  have hlm : n ≤ m := by rw [EU]; split <;> omega
  have each : ∀ i, i < n → ∃ q : (Option Addr × Nat × Nat) × List cI, w.cell? (a.add i) = some (.slice q.1.1 q.1.2.1 q.1.2.2) ∧ q.1.2.1 = q.2.length ∧ q.2.length ≤ 9223372036854775807 ∧ q.2.length ≤ q.1.2.2 ∧ (0 < q.2.length → RS jm (jb w) q.1.1 q.1.2.2 q.2) := by
   intro i hi
   obtain ⟨h1, h2⟩ := hel i (by omega)
   rcases Go.Deep.open_slice he h2 with ⟨h0, _⟩ | ⟨a', len', cap', _, _, _, _, GY, _, _, _, _, _, _⟩
   ·refine ⟨((none, 0, 0), []), ?_, rfl, by simp, by simp, fun h => by simp at h⟩
    rw [h1]; simpa using h0
   ·have hv : V i = .slice (some a') len' cap' := by simpa using GY
    rw [hv] at h2 h1
    obtain ⟨l, l1, l2, l3, l4⟩ := mV.rs (E := jm) (mV.qN he hk hc ⟨n', h2⟩) Tz LZ
    subst l1
    exact ⟨((some a', l.length, cap'), l), h1, rfl, l3, l2, l4⟩
  obtain ⟨q, hq⟩ := Go.Deep.choose_lt each
  refine ⟨(List.range n).map fun i => (q i).2, by simp, hl, Nat.le_trans hl (Nat.le_trans hm (by decide)), fun hn => ⟨(List.range n).map fun i => (q i).1, ⟨?_, by simpa using hl⟩, by simp, fun i t f h1 h2 => ?_⟩⟩
  ·have hs := World.cell?_spot (hq 0 hn).1
   obtain ⟨b, o, sp⟩ := a
   have hsp : sp = none := by simpa [Addr.add] using hs
   subst hsp
   intro i hi
   rw [gp.dF, List.length_map, List.length_range] at hi
   have hi' : i < n := by simpa [yz] using hi
   have h3 := (hq i hi').1
   rw [add_eq] at h3
   show (jb w).ld ⟨b, o + i, none⟩ = _
   have h4 := gp.iJ (E := yz) (l := (List.range n).map fun i => (q i).1) (i := i) (j := 0) (a := (q i).1) (by rw [List.getElem?_map, List.getElem?_range hi']; rfl) rfl
   have e : i * yz.z + 0 = i := by simp [yz]
   rw [e] at h4
   rw [h4]
   exact h3
  ·rw [List.getElem?_map] at h1 h2
   obtain ⟨j, hj, rfl⟩ := Option.map_eq_some_iff.1 h1
   obtain ⟨j', hj', rfl⟩ := Option.map_eq_some_iff.1 h2
   obtain ⟨hl1, e1⟩ := List.getElem?_eq_some_iff.1 hj
   rw [hj] at hj'
   cases hj'
   have XD : j < n := by rw [← e1]; simpa using hl1
   exact (hq j XD).2
theorem F5 {t t1 t2 t3 t4 e1 e11 e2 e4 : TypeId} {fs : Array Field} {v : Value} {d : DataW H} {ps : List MemPlace} (hu : P.underlying t = some (.struct fs)) (hf : fs.toList.map (fun (f : Field) => (f.offset, f.type)) = [(0, t1), (1, t2), (2, t3), (3, t4)])
  (u1 : P.underlying t1 = some (.slice e1)) (u11 : P.underlying e1 = some (.slice e11)) (u2 : P.underlying t2 = some (.slice e2)) (u3 : P.underlying t3 = some (.int .i64)) (u4 : P.underlying t4 = some (.slice e4))
  (c1 : P.cellsOf t1 = 1) (c2 : P.cellsOf t2 = 1) (c3 : P.cellsOf t3 = 1) (c4 : P.cellsOf t4 = 1) (c11 : P.cellsOf e1 = 1) (k1 : iM P 8 e11 = some F4) (k2 : iM P 8 e2 = some [.i64]) (k4 : iM P 8 e4 = some Ty)
  (d1 : P.cellsOf e11 = 4) (d2 : P.cellsOf e2 = 1) (d4 : P.cellsOf e4 = 3) (ct : P.cellsOf t = 4)
  (hs : ∃ cs, v = .agg cs ∧ cs.size = P.cellsOf t)
  (h : DataW.Trod enc P w base spare held t v d ps) : ∃ (pa : PA) (p : b6), v = .agg #[.slice pa.f p.funcs.length pa.fc, .slice pa.c p.dI.length pa.cc, .int .i64 p.aL, .slice pa.k p.cases.length pa.kc] ∧ tQ (jb w) pa p := by
 obtain ⟨cs, rfl, hsz⟩ := hs
 obtain ⟨fuel, hh⟩ := h
 obtain ⟨xs, m, _, _, hl, SN, Nu⟩ := DataW.trod_struct hu hh
 have e0 : (Value.agg cs).cells = cs := rfl
 rw [e0] at Nu hl
 rw [ct] at hsz
 obtain ⟨cl⟩ := cs
 simp only [List.size_toArray] at hsz
 have hfl : fs.size = 4 := by have := congrArg List.length hf; simpa using this
 have fld : ∀ (i o : Nat) (ty : TypeId), ([(0, t1), (1, t2), (2, t3), (3, t4)] : List (Nat × TypeId))[i]? = some (o, ty) → ∃ (f : Field) (x : DataW H × List MemPlace), fs[i]? = some f ∧ f.offset = o ∧ f.type = ty ∧ DataW.trod enc P w base spare held m ty ((cl.drop o).take (P.cellsOf ty)) = some x := by
  intro i o ty hi
  rw [← hf, List.getElem?_map] at hi
  obtain ⟨f, Kx, EF⟩ := Option.map_eq_some_iff.1 hi
  cases EF
  have hf3 : fs[i]? = some f := by simpa using Kx
  have := Nu i f hf3
  have hi4 : i < xs.length := by rw [SN]; exact (Array.getElem?_eq_some_iff.1 hf3).1
  rw [List.getElem?_eq_getElem hi4] at this
  exact ⟨f, _, hf3, rfl, rfl, this⟩
 match cl, hsz with
 | [w0, w1, w2, w3], _ =>
  obtain ⟨_, x1, _, _, _, a1⟩ := fld 0 0 t1 rfl
  obtain ⟨_, x2, _, _, _, a2⟩ := fld 1 1 t2 rfl
  obtain ⟨_, x3, _, _, _, a3⟩ := fld 2 2 t3 rfl
  obtain ⟨_, x4, _, _, _, a4⟩ := fld 3 3 t4 rfl
  rw [c1] at a1
  rw [c2] at a2
  rw [c3] at a3
  rw [c4] at a4
  have sl : ∀ {ty e : TypeId} {u : Value} {x : DataW H × List MemPlace}, P.underlying ty = some (.slice e) → DataW.trod enc P w base spare held m ty [u] = some x → ∃ A n c, u = .slice A n c := by
   intro ty e u x hu h
   rcases Go.Deep.open_slice hu h with ⟨h0, _⟩ | ⟨a, len, cap, _, _, _, _, h0, _⟩
   ·cases h0; exact ⟨_, _, _, rfl⟩
   ·cases h0; exact ⟨_, _, _, rfl⟩
  obtain ⟨A1, n1, q1, rfl⟩ := sl u1 a1
  obtain ⟨A2, n2, q2, rfl⟩ := sl u2 a2
  obtain ⟨A4, n4, q4, rfl⟩ := sl u4 a4
  obtain ⟨lk, b3, _⟩ := DataW.trod_int u3 a3
  have b3' : w2 = .int .i64 lk := by simpa using b3
  subst b3'
  obtain ⟨fs', f1, f2, f3, f4⟩ := Bv u1 u11 c11 k1 ⟨d1, by decide⟩ a1
  obtain ⟨l2, g1, g2, g3, g4⟩ := mV.rs (E := bl) (mV.qN u2 k2 ⟨d2, by decide⟩ ⟨m, a2⟩) (· 0) Mb
  obtain ⟨l4, j1, j2, j3, j4⟩ := mV.rs (E := iB) (mV.qN u4 k4 ⟨d4, by decide⟩ ⟨m, a4⟩) TA Ma
  subst f1; subst g1; subst j1
  exact ⟨⟨A1, q1, A2, q2, A4, q4⟩, ⟨fs', l2, lk, l4⟩, rfl, ⟨f3, g3, j3, f2, f4, g4, j4⟩⟩
end
end Go.Proofs
namespace Go.Proofs
open Go.AF
set_option maxRecDepth 100000
set_option maxHeartbeats 1000000
attribute [local irreducible] aK cJ fJ bO aD fz aG aO be aS bJ aV
def cQ (p : b6) : List Int := (p.dI.take 4).map (aI · 4)
def kj (nc : Nat) (c : oG) : oG := if nc = 0 then ⟨2, 0, 0⟩ else ⟨aI c.way 3, aI c.ch nc, aI c.bT 8⟩
def gi (p : b6) : List oG := (p.cases.take 8).map (kj (cQ p).length)
def dQ (p : b6) : List (List cI) := if (p.funcs.take 5).length = 0 then [[.zero]] else p.funcs.take 5
def gI (f : List cI) : List cI := if (f.take 20).length = 0 then [.zero] else f.take 20
def tR (p : b6) (f : List cI) : List cI := (gI f).map (xK (dQ p).length (cQ p).length (gi p).length (aI p.aL 4) (gI f).length)
def eS (p : b6) : b6 := ⟨(dQ p).map (tR p), cQ p, aI p.aL 4, gi p⟩
theorem rh (p : b6) : 1 ≤ (dQ p).length ∧ (dQ p).length ≤ 5 := by
 unfold dQ
 split
 ·simp
 ·rename_i h; rw [List.length_take] at h ⊢; omega
theorem CQ (f : List cI) : 1 ≤ (gI f).length ∧ (gI f).length ≤ 20 := by
 unfold gI
 split
 ·simp
 ·rename_i h; rw [List.length_take] at h ⊢; omega
theorem CR (p : b6) : (cQ p).length ≤ 4 := by unfold cQ; rw [List.length_map, List.length_take]; omega
theorem CS (p : b6) : (gi p).length ≤ 8 := by unfold gi; rw [List.length_map, List.length_take]; omega
theorem lk10 (p : b6) : 0 ≤ aI p.aL 4 ∧ aI p.aL 4 ≤ 3 := by have := dw (n := p.aL) (m := 4) (by omega) (by omega); omega
theorem CT (p : b6) : fK (eS p) := by
 have h1 := rh p
 have h2 := CR p
 have h3 := CS p
 have h4 := lk10 p
 refine ⟨by simp [eS]; omega, by show (cQ p).length ≤ 8; omega, by show 0 ≤ aI p.aL 4 ∧ aI p.aL 4 ≤ 8; omega, by show (gi p).length ≤ 32; omega, fun c hc => ?_, fun f hf => ?_⟩
 ·obtain ⟨c0, _, rfl⟩ := List.mem_map.1 hc
  have a3 := dw (n := c0.way) (m := 3) (by omega) (by omega)
  have a8 := dw (n := c0.bT) (m := 8) (by omega) (by omega)
  unfold kj
  split
  ·exact ⟨⟨by decide, by decide, fun h => absurd rfl h⟩, by decide, by decide⟩
  ·rename_i hn
   have ac := dw (n := c0.ch) (m := ((cQ p).length : Int)) (by omega) (by omega)
   exact ⟨⟨by dsimp only; omega, by dsimp only; omega, fun _ => ⟨ac.1, ac.2, a8.1, a8.2⟩⟩, a8.1, a8.2⟩
 ·obtain ⟨f0, _, rfl⟩ := List.mem_map.1 hf
  have h5 := CQ f0
  have hl : (tR p f0).length = (gI f0).length := by simp [tR]
  refine ⟨by omega, by omega, fun i hi => ?_⟩
  obtain ⟨i0, _, rfl⟩ := List.mem_map.1 hi
  refine dc.ok ?_
  have e1 : (eS p).funcs.length = (dQ p).length := by simp [eS]
  rw [e1, hl]
  show dc _ ((cQ p).length : Nat) ((gi p).length : Nat) (aI p.aL 4) _ _
  exact PJ (by omega) (by omega) (by omega) h4 (by omega)
theorem So : bg Tryz.prog 115 109 4 32 [.int .i64 0, .int .i64 0, .int .i64 0, .int .i64 0] := bg.mk' (zv := .agg #[.int .i64 0, .int .i64 0, .int .i64 0, .int .i64 0]) (by kernel_rfl) (by kernel_rfl) rfl (by omega)
theorem Sp : bg Tryz.prog 71 171 3 24 [.int .i64 0, .int .i64 0, .int .i64 0] := bg.mk' (zv := .agg #[.int .i64 0, .int .i64 0, .int .i64 0]) (by kernel_rfl) (by kernel_rfl) rfl (by omega)
theorem Xf : bg Tryz.prog 70 115 1 24 [.slice none 0 0] := bg.mk' (zv := .slice none 0 0) (by kernel_rfl) (by kernel_rfl) rfl (by omega)
abbrev D2 (pa : PA) (p : b6) : Value := .agg #[.slice pa.f p.funcs.length pa.fc, .slice pa.c p.dI.length pa.cc, .int .i64 p.aL, .slice pa.k p.cases.length pa.kc]
abbrev prgC (A : Option Addr) (n c : Nat) (B : Option Addr) (m d : Nat) (lk : Int) (C : Option Addr) (q e : Nat) : List Value := [.slice A n c, .slice B m d, .int .i64 lk, .slice C q e]
section
variable {R : Mem} {L L' : List HP} {M : Mem} {K : Value → Mem → Prop} {Kp : List PanicEntry → Mem → Prop} {pa : PA} {p : b6}
theorem take_succ {α : Type} {l : List α} {j : Nat} {v : α} (h : l[j]? = some v) : l.take (j + 1) = l.take j ++ [v] := by
 obtain ⟨hj, rfl⟩ := List.getElem?_eq_some_iff.1 h
 rw [List.take_add_one, List.getElem?_eq_getElem hj]; rfl
def xL (R : Mem) (A : Option Addr) (c : Nat) (fs : List (List cI)) : Prop := ∃ ts : List (Option Addr × Nat × Nat), RS yz R A c ts ∧ ts.length = fs.length ∧ ∀ (i : Nat) t f, ts[i]? = some t → fs[i]? = some f → t.2.1 = f.length ∧ f.length ≤ 9223372036854775807 ∧ f.length ≤ t.2.2 ∧ (0 < f.length → RS jm R t.1 t.2.2 f)
theorem xL.le {R R' : Mem} {A : Option Addr} {c : Nat} {fs : List (List cI)} (h : xL R A c fs) (hle : R.le R') : xL R' A c fs := by
 obtain ⟨ts, h1, h2, h3⟩ := h
 exact ⟨ts, h1.le hle, h2, fun i t f a b => ⟨(h3 i t f a b).1, (h3 i t f a b).2.1, (h3 i t f a b).2.2.1, fun h => ((h3 i t f a b).2.2.2 h).le hle⟩⟩
theorem xL.cut {R : Mem} {A : Option Addr} {c : Nat} {fs : List (List cI)} (h : xL R A c fs) (q : Nat) : xL R (lM A 0 c 1) (c - 0) (fs.take q) := by
 obtain ⟨ts, h1, h2, h3⟩ := h
 have h4 := (h1.drop 0 (Nat.zero_le _)).take q
 rw [List.drop_zero] at h4
 refine ⟨ts.take q, h4, by rw [List.length_take, List.length_take, h2], fun i t f a b => ?_⟩
 rw [List.getElem?_take] at a b
 split at a
 ·rename_i hi
  rw [if_pos hi] at b
  exact h3 i t f a b
 ·cases a
theorem RS.cut {α : Type} {E : gp α} {R : Mem} {A : Option Addr} {c : Nat} {l : List α} (h : RS E R A c l) (q : Nat) : RS E R (lM A 0 c E.z) (c - 0) (l.take q) := by
 have h4 := (h.drop 0 (Nat.zero_le _)).take q
 rwa [List.drop_zero] at h4
abbrev dN (k : Nat) (A : Option Addr) (n c : Nat) (B : Option Addr) (m d : Nat) (lk : Int) (C : Option Addr) (q e : Nat) : HP := pt k (prgC A n c B m d lk C q e) 73
theorem PK (h : Hp R L M) (ha : tQ R pa p) (k : ∀ R' D3 M', R.le R' → kF R' D3 (eS p) → RS bl R' D3.c D3.cc (eS p).dI → Hp R' L M' → K (D2 D3 (eS p)) M') :
  aa Tryz.prog 35 #[D2 pa p] M K Kp := by
 refine qi ?_
 have Qc := CR p
 have hkl := CS p
 have n1 := ha.n1
 have n2 := ha.n2
 have n3 := ha.n3
 have le1 := ha.le1
 refine aq h ?_
 clear h
 intro k1 M h
 refine aq h ?_
 clear h
 intro k3 M h
 refine aH h (bH (ck ?_))
 refine aq h ?_
 clear h
 intro k9 M h
 repeat (refine av h ?_; clear h; intro M h)
 generalize hlk : aI p.aL 4 = lk at h
 have h0 : Hp R (bD bl 3 none 0 [] :: dN k9 none 0 0 none 0 0 lk none 0 0 :: dN k3 none 0 0 none 0 0 0 none 0 0 :: dN k1 pa.f p.funcs.length pa.fc pa.c p.dI.length pa.cc p.aL pa.k p.cases.length pa.kc :: L) M := h.bX bl 3
 clear h
 refine ⟨fun vs M => vs = [] ∧ ∃ B c, Hp R (bD bl 3 B c (cQ p) :: dN k9 none 0 0 B (cQ p).length c lk none 0 0 :: dN k3 none 0 0 none 0 0 0 none 0 0 :: dN k1 pa.f p.funcs.length pa.fc pa.c p.dI.length pa.cc p.aL pa.k p.cases.length pa.kc :: L) M,
  ⟨fun dd vs M => ∃ (j : Nat) (B : Option Addr) (c : Nat), vs = [.int .i64 (j : Int)] ∧ dd = 4 - j ∧ j ≤ 4 ∧ j ≤ p.dI.length ∧ Hp R (bD bl 3 B c ((p.dI.take j).map (aI · 4)) :: dN k9 none 0 0 B j c lk none 0 0 :: dN k3 none 0 0 none 0 0 0 none 0 0 :: dN k1 pa.f p.funcs.length pa.fc pa.c p.dI.length pa.cc p.aL pa.k p.cases.length pa.kc :: L) M, ⟨_, 0, none, 0, rfl, rfl, by omega, by omega, h0⟩, ?_⟩, ?_⟩
 ·clear h0
  rintro dd _ nn M ⟨j, B, c, he, hd, hj, Mg, h⟩
  simp only [List.cons.injEq, Value.int.injEq, and_true, true_and] at he
  subst he
  have hlen : ((p.dI.take j).map (aI · 4)).length = j := by rw [List.length_map, List.length_take]; omega
  have hout : ¬ (j < p.dI.length ∧ j < 4) → (p.dI.take j).map (aI · 4) = cQ p ∧ j = (cQ p).length := fun hn => by
   have e : p.dI.take j = p.dI.take 4 := by
    rcases Nat.lt_or_ge j 4 with h4 | h4
    ·rw [List.take_of_length_le (by omega), List.take_of_length_le (by omega)]
    ·rw [show j = 4 from by omega]
   refine ⟨by rw [cQ, e], ?_⟩
   rw [← hlen, e]; rfl
  refine aQ h ?_
  by_cases hc : j < p.dI.length ∧ j < 4
  ·obtain ⟨c1, c2⟩ := hc
   refine vQ (by simp; omega) (vQ (by simp; omega) ?_)
   have hr := ha.dI (by omega)
   obtain ⟨b, o, hb⟩ := hr.some (by omega) (by decide)
   rw [hb] at hr h
   obtain ⟨v, hv⟩ := aR c1
   have Sq : (p.dI.take (j + 1)).map (aI · 4) = (p.dI.take j).map (aI · 4) ++ [aI v 4] := by rw [take_succ hv, List.map_append]; rfl
   have hstep : ∀ M B c, Hp R (bD bl 3 B c ((p.dI.take j).map (aI · 4) ++ [aI v 4]) :: dN k9 none 0 0 B (j + 1) c lk none 0 0 :: dN k3 none 0 0 none 0 0 0 none 0 0 :: dN k1 pa.f p.funcs.length pa.fc (some ⟨b, o, none⟩) p.dI.length pa.cc p.aL pa.k p.cases.length pa.kc :: L) M →
     ∃ (j' : Nat) (B : Option Addr) (c : Nat), [Value.int .i64 (IntKind.wrap .i64 ((j : Int) + 1))] = [.int .i64 (j' : Int)] ∧ 4 - (j + 1) = 4 - j' ∧ j' ≤ 4 ∧ j' ≤ p.dI.length ∧ Hp R (bD bl 3 B c ((p.dI.take j').map (aI · 4)) :: dN k9 none 0 0 B j' c lk none 0 0 :: dN k3 none 0 0 none 0 0 0 none 0 0 :: dN k1 pa.f p.funcs.length pa.fc pa.c p.dI.length pa.cc p.aL pa.k p.cases.length pa.kc :: L) M := by
    intro M B c h
    refine ⟨j + 1, B, c, by rw [aU (by omega)], rfl, by omega, by omega, ?_⟩
    rw [Sq, hb]
    exact h
   refine ⟨fun vs M => vs = [] ∧ ∃ B c, Hp R (bD bl 3 B c ((p.dI.take j).map (aI · 4) ++ [aI v 4]) :: dN k9 none 0 0 B (j + 1) c lk none 0 0 :: dN k3 none 0 0 none 0 0 0 none 0 0 :: dN k1 pa.f p.funcs.length pa.fc (some ⟨b, o, none⟩) p.dI.length pa.cc p.aL pa.k p.cases.length pa.kc :: L) M, ?_, ?_⟩
   ·refine aQ h ⟨by omega, by omega, br ?_⟩
    refine aZ (Src.at hr.src h (i := j) (j := 0) hv rfl (by simp [bl])) ?_
    refine ⟨?_, ?_, trivial⟩
    ·refine aQ h (bH (ck ?_))
     refine aq h ?_
     clear h
     intro yu M h
     refine h.dx (A := B) sY [aI v 4] rfl hlen.symm rfl (by simp; omega) ?_
     clear h; intro A' c' M h
     refine aT ?_
     refine av h ?_
     clear h
     intro M h
     exact ⟨rfl, _, _, h.sub bz⟩
    ·refine bH (ck (aQ h ?_))
     refine aq h ?_
     clear h
     intro yu M h
     refine h.dx (A := B) sY [aI v 4] rfl hlen.symm rfl (by simp; omega) ?_
     clear h; intro A' c' M h
     refine aT ?_
     refine av h ?_
     clear h
     intro M h
     exact ⟨rfl, _, _, h.sub bz⟩
   ·clear h
    rintro nn M ⟨_, B', c', h⟩
    exact ⟨4 - (j + 1), by omega, hstep M B' c' h⟩
  ·have ho := hout hc
   obtain ⟨e1, e2⟩ := ho
   rw [e1] at h
   refine Jy ⟨rfl, B, c, ?_⟩ fun h1 h2 => absurd ⟨by omega, by omega⟩ hc
   rw [← e2]; exact h
 clear h0
 rintro nn M ⟨_, B, c, h⟩
 clear nn
 have h0 : Hp R (bD iB 171 none 0 [] :: bD bl 3 B c (cQ p) :: dN k9 none 0 0 B (cQ p).length c lk none 0 0 :: dN k3 none 0 0 none 0 0 0 none 0 0 :: dN k1 pa.f p.funcs.length pa.fc pa.c p.dI.length pa.cc p.aL pa.k p.cases.length pa.kc :: L) M := h.bX iB _
 clear h
 refine ⟨fun vs M => vs = [] ∧ ∃ C d, Hp R (bD iB 171 C d (gi p) :: bD bl 3 B c (cQ p) :: dN k9 none 0 0 B (cQ p).length c lk C (gi p).length d :: dN k3 none 0 0 none 0 0 0 none 0 0 :: dN k1 pa.f p.funcs.length pa.fc pa.c p.dI.length pa.cc p.aL pa.k p.cases.length pa.kc :: L) M,
  ⟨fun dd vs M => ∃ (j : Nat) (C : Option Addr) (d : Nat), vs = [.int .i64 (j : Int)] ∧ dd = 8 - j ∧ j ≤ 8 ∧ j ≤ p.cases.length ∧ Hp R (bD iB 171 C d ((p.cases.take j).map (kj (cQ p).length)) :: bD bl 3 B c (cQ p) :: dN k9 none 0 0 B (cQ p).length c lk C j d :: dN k3 none 0 0 none 0 0 0 none 0 0 :: dN k1 pa.f p.funcs.length pa.fc pa.c p.dI.length pa.cc p.aL pa.k p.cases.length pa.kc :: L) M, ⟨_, 0, none, 0, rfl, rfl, by omega, by omega, h0⟩, ?_⟩, ?_⟩
 ·clear h0
  rintro dd _ nn M ⟨j, C, d, he, hd, hj, Mg, h⟩
  simp only [List.cons.injEq, Value.int.injEq, and_true, true_and] at he
  subst he
  have hlen : ((p.cases.take j).map (kj (cQ p).length)).length = j := by rw [List.length_map, List.length_take]; omega
  have hout : ¬ (j < p.cases.length ∧ j < 8) → (p.cases.take j).map (kj (cQ p).length) = gi p ∧ j = (gi p).length := fun hn => by
   have e : p.cases.take j = p.cases.take 8 := by
    rcases Nat.lt_or_ge j 8 with h4 | h4
    ·rw [List.take_of_length_le (by omega), List.take_of_length_le (by omega)]
    ·rw [show j = 8 from by omega]
   refine ⟨by rw [gi, e], ?_⟩
   rw [← hlen, e]; rfl
  refine aQ h ?_
  by_cases hc : j < p.cases.length ∧ j < 8
  ·obtain ⟨c1, c2⟩ := hc
   refine vQ (by simp; omega) (vQ (by simp; omega) ?_)
   have hr := ha.cases (by omega)
   obtain ⟨b, o, hb⟩ := hr.some (by omega) (by decide)
   rw [hb] at hr h
   obtain ⟨v, hv⟩ := aR c1
   have Sq : (p.cases.take (j + 1)).map (kj (cQ p).length) = (p.cases.take j).map (kj (cQ p).length) ++ [kj (cQ p).length v] := by rw [take_succ hv, List.map_append]; rfl
   refine aQ h ⟨by omega, by omega, br ?_⟩
   refine aZ (Src.at hr.src h (i := j) (j := 0) hv rfl (by simp [iB])) ?_
   refine aZ (Src.at hr.src h (i := j) (j := 1) hv rfl (by simp [iB]; omega)) ?_
   refine aZ (Src.at hr.src h (i := j) (j := 2) hv rfl (by simp [iB]; omega)) ?_
   refine aq h ?_
   clear h
   intro QV M h
   repeat (first | refine bH ?_ | (refine aq h ?_; clear h; intro kb M h) | (refine av h ?_; clear h; intro M h) | refine St.to h ?_ | (apply Exists.intro; (repeat apply Exists.intro); refine And.intro rfl ?_) | (refine And.intro ?_ ?_; first | exact rfl | ((repeat (refine ay (aA h) ?_)); exact ae) | omega) | refine ai ?_ | refine aj ?_)
   refine ⟨fun vs M => vs = [] ∧ Hp R (pt kb (iB.f (kj (cQ p).length v)) 171 :: bD iB 171 C d ((p.cases.take j).map (kj (cQ p).length)) :: bD bl 3 B c (cQ p) :: dN k9 none 0 0 B (cQ p).length c lk C j d :: dN k3 none 0 0 none 0 0 0 none 0 0 :: dN k1 pa.f p.funcs.length pa.fc pa.c p.dI.length pa.cc p.aL (some ⟨b, o, none⟩) p.cases.length pa.kc :: L) M, ?_, ?_⟩
   ·refine aY.2 ⟨fun hz => ?_, fun hz => ?_⟩
    ·have ez : kj (cQ p).length v = ⟨2, 0, 0⟩ := by unfold kj; rw [if_pos (by omega)]
     rw [ez]
     repeat (first | (refine aq h ?_; clear h; intro kb M h) | (refine av h ?_; clear h; intro M h) | refine St.to h ?_ | (apply Exists.intro; (repeat apply Exists.intro); refine And.intro rfl ?_) | (refine And.intro ?_ ?_; first | exact rfl | ((repeat (refine ay (aA h) ?_)); exact ae) | omega) | refine ai ?_ | refine aj ?_)
     exact h.sub bz
    ·have ez : kj (cQ p).length v = ⟨aI v.way 3, aI v.ch (cQ p).length, aI v.bT 8⟩ := by unfold kj; rw [if_neg (by omega)]
     rw [ez]
     exact ⟨rfl, h.sub bz⟩
   ·clear h
    rintro nn M ⟨_, h⟩
    generalize kj (cQ p).length v = w at h Sq
    have h : Hp R (pt kb [.int .i64 w.way, .int .i64 w.ch, .int .i64 w.bT] 171 :: bD iB 171 C d ((p.cases.take j).map (kj (cQ p).length)) :: bD bl 3 B c (cQ p) :: dN k9 none 0 0 B (cQ p).length c lk C j d :: dN k3 none 0 0 none 0 0 0 none 0 0 :: dN k1 pa.f p.funcs.length pa.fc pa.c p.dI.length pa.cc p.aL (some ⟨b, o, none⟩) p.cases.length pa.kc :: L) M := h
    refine aQ h (aH h (aH h (aH h ?_)))
    refine aq h ?_
    clear h
    intro XN M h
    refine h.dx (A := C) Sp [w] rfl hlen.symm rfl (by simp; omega) ?_
    clear h; intro C' d' M h
    refine aT ?_
    refine av h ?_
    clear h
    intro M h
    refine ⟨8 - (j + 1), by omega, j + 1, C', d', by rw [aU (by omega)], rfl, by omega, by omega, ?_⟩
    rw [Sq, hb]
    exact h.sub bz
  ·have ho := hout hc
   obtain ⟨e1, e2⟩ := ho
   rw [e1] at h
   refine Jy ⟨rfl, C, d, ?_⟩ fun h1 h2 => absurd ⟨by omega, by omega⟩ hc
   rw [← e2]; exact h
 clear h0
 rintro nn M ⟨_, C, d, h⟩
 clear nn
 obtain ⟨R1, l1, rC, h1⟩ := h.dg C
 obtain ⟨R2, l2, rB, h2⟩ := h1.dg B
 clear h h1
 replace rC := rC.le l2
 have jD : R.le R2 := Mem.le_trans l1 l2
 replace h := h2
 clear h2 l1 l2
 have e5 : Int.toNat (if (5 : Int) < ((p.funcs.length : Nat) : Int) then 5 else ((p.funcs.length : Nat) : Int)) - 0 = min 5 p.funcs.length := by split <;> omega
 refine aQ h (aQ h ⟨by omega, by omega, by split <;> omega, by split <;> omega, by omega, by split <;> omega, ?_⟩)
 simp only [e5, Int.toNat_natCast]
 refine ⟨fun vs M => ∃ R' A c', vs = [.slice A (dQ p).length c'] ∧ R2.le R' ∧ xL R' A c' (dQ p) ∧ Hp R' (dN k9 none 0 0 B (cQ p).length c lk C (gi p).length d :: dN k3 none 0 0 none 0 0 0 none 0 0 :: dN k1 pa.f p.funcs.length pa.fc pa.c p.dI.length pa.cc p.aL pa.k p.cases.length pa.kc :: L) M, ?_, ?_⟩
 ·refine aY.2 ⟨fun hz => ?_, fun hz => ?_⟩
  ·have ez : dQ p = [[.zero]] := by unfold dQ; rw [if_pos (by rw [List.length_take]; omega)]
   rw [ez]
   refine aq h ?_
   clear h
   intro ka M h
   obtain ⟨R3, l3, r3, h3⟩ := ((h.pt ka).gU (E := jm) (l := [.zero]) rfl).dg (some ⟨ka, 0, none⟩)
   clear h
   refine aq h3 ?_
   clear h3; intro kb M h
   obtain ⟨R4, l4, r4, h4⟩ := ((h.pt kb).gU (E := yz) (l := [(some ⟨ka, 0, none⟩, 1, 1)]) rfl).dg (some ⟨kb, 0, none⟩)
   clear h
   refine ⟨R4, _, _, rfl, Mem.le_trans l3 l4, ⟨_, r4, rfl, fun i t f a b => ?_⟩, h4⟩
   match i, a, b with
   | 0, a, b => cases a; cases b; exact ⟨rfl, by simp, by simp, fun _ => r3.le l4⟩
   | i + 1, a, b => simp at a
  ·have ez : dQ p = p.funcs.take 5 := by unfold dQ; rw [if_neg (by rw [List.length_take]; omega)]
   have hf : xL R pa.f pa.fc p.funcs := ha.funcs (by omega)
   rw [ez]
   refine ⟨R2, _, _, by rw [List.length_take], Mem.le_refl _, (hf.cut 5).le jD, h⟩
 clear h
 rintro nn A' n' c' M ⟨R3, A, cA, he, l3, hrows, h⟩
 simp only [List.cons.injEq, Value.slice.injEq, and_true] at he
 obtain ⟨rfl, rfl, rfl⟩ := he
 clear nn e5
 replace rC := rC.le l3
 replace rB := rB.le l3
 have RD : R.le R3 := Mem.le_trans jD l3
 clear l3 jD
 have hfl := rh p
 refine h.C9 (E := yz) (a := (none, 0, 0)) Xf (by omega) ?_
 clear h; intro q M h
 refine aT ?_
 refine av h ?_
 clear h
 intro M h
 obtain ⟨ts, hts1, hts2, hts3⟩ := hrows
 refine ⟨fun dd vs M => ∃ (j : Nat) (R4 : Mem) (us : List (Option Addr × Nat × Nat)), vs = [.int .i64 (j : Int)] ∧ dd = (dQ p).length - j ∧ j ≤ (dQ p).length ∧ R3.le R4 ∧ us.length = (dQ p).length ∧ (∀ (i : Nat) t f, i < j → us[i]? = some t → (dQ p)[i]? = some f → RS jm R4 t.1 t.2.2 (tR p f) ∧ t.2.1 = (tR p f).length) ∧
  Hp R4 (bD yz 115 (some ⟨q, 0, none⟩) (dQ p).length us :: dN k9 (some ⟨q, 0, none⟩) (dQ p).length (dQ p).length B (cQ p).length c lk C (gi p).length d :: dN k3 none 0 0 none 0 0 0 none 0 0 :: dN k1 pa.f p.funcs.length pa.fc pa.c p.dI.length pa.cc p.aL pa.k p.cases.length pa.kc :: L) M,
  ⟨_, 0, R3, List.replicate (dQ p).length (none, 0, 0), rfl, rfl, by omega, Mem.le_refl _, by simp, fun i t f hi => absurd hi (by omega), h.sub bz⟩, ?_⟩
 clear h
 rintro dd _ nn M ⟨j, R4, us, he, hd, hj, l4, Qh, F6, h⟩
 simp only [List.cons.injEq, Value.int.injEq, and_true, true_and] at he
 subst he
 refine aP.2 ⟨fun hlt => ?_, fun hge => ?_⟩
 ·obtain ⟨t, ht⟩ := aR (l := ts) (i := j) (by omega)
  obtain ⟨f, hf⟩ := aR (l := dQ p) (i := j) (by omega)
  obtain ⟨u1, u2, u3, u4⟩ := hts3 j t f ht hf
  obtain ⟨tA, tn, tc⟩ := t
  dsimp only at u1 u3 u4
  subst u1
  have IM := hts1.le l4
  obtain ⟨b, o, hb⟩ := IM.some (by omega) (by decide)
  rw [hb] at IM
  rw [hb]
  refine ⟨by omega, hlt, br ?_⟩
  refine y3 (Src.at IM.src h (i := j) (j := 0) ht rfl (by simp [yz])) ?_
  dsimp only
  have e20 : Int.toNat (if (20 : Int) < ((f.length : Nat) : Int) then 20 else ((f.length : Nat) : Int)) - 0 = min 20 f.length := by split <;> omega
  refine ⟨by omega, by omega, by split <;> omega, by split <;> omega, by omega, by split <;> omega, ?_⟩
  simp only [e20, Int.toNat_natCast]
  refine ⟨fun vs M => ∃ R' A c', vs = [.slice A (gI f).length c'] ∧ R4.le R' ∧ RS jm R' A c' (gI f) ∧ Hp R' (bD yz 115 (some ⟨q, 0, none⟩) (dQ p).length us :: dN k9 (some ⟨q, 0, none⟩) (dQ p).length (dQ p).length B (cQ p).length c lk C (gi p).length d :: dN k3 none 0 0 none 0 0 0 none 0 0 :: dN k1 pa.f p.funcs.length pa.fc pa.c p.dI.length pa.cc p.aL pa.k p.cases.length pa.kc :: L) M, ?_, ?_⟩
  ·refine aY.2 ⟨fun hz => ?_, fun hz => ?_⟩
   ·have ez : gI f = [.zero] := by unfold gI; rw [if_pos (by rw [List.length_take]; omega)]
    rw [ez]
    refine aq h ?_
    clear h
    intro ka M h
    obtain ⟨R5, l5, r5, h5⟩ := ((h.pt ka).gU (E := jm) (l := [.zero]) rfl).dg (some ⟨ka, 0, none⟩)
    clear h
    exact ⟨R5, _, _, rfl, l5, r5, h5⟩
   ·have ez : gI f = f.take 20 := by unfold gI; rw [if_neg (by rw [List.length_take]; omega)]
    rw [ez]
    refine ⟨R4, _, _, by rw [List.length_take]; rfl, Mem.le_refl _, RS.le (RS.cut (E := jm) (u4 (by omega)) 20) l4, h⟩
  clear h
  rintro nn Sr AO c'' M ⟨R5, F, cF, he, l5, hF, h⟩
  simp only [List.cons.injEq, Value.slice.injEq, and_true] at he
  obtain ⟨rfl, rfl, rfl⟩ := he
  clear nn e20
  have h5 := CQ f
  refine aq h ?_
  clear h
  intro kr M h
  have h0 := (h.pt kr).gU (E := jm) (l := []) rfl
  clear h
  refine ⟨fun dd vs M => ∃ (i : Nat) (A : Option Addr) (c' : Nat), vs = [.slice A i c', .int .i64 (i : Int)] ∧ dd = (gI f).length - i ∧ i ≤ (gI f).length ∧ Hp R5 (bD jm 109 A c' (((gI f).take i).map (xK (dQ p).length (cQ p).length (gi p).length lk (gI f).length)) :: bD yz 115 (some ⟨q, 0, none⟩) (dQ p).length us :: dN k9 (some ⟨q, 0, none⟩) (dQ p).length (dQ p).length B (cQ p).length c lk C (gi p).length d :: dN k3 none 0 0 none 0 0 0 none 0 0 :: dN k1 pa.f p.funcs.length pa.fc pa.c p.dI.length pa.cc p.aL pa.k p.cases.length pa.kc :: L) M,
   ⟨_, 0, _, _, rfl, rfl, by omega, h0⟩, ?_⟩
  clear h0
  rintro dd _ Sr AO c'' nn M ⟨i, A2, c2, he, Qe, hi, h⟩
  simp only [List.cons.injEq, Value.int.injEq, Value.slice.injEq, and_true, true_and] at he
  obtain ⟨⟨rfl, rfl, rfl⟩, rfl⟩ := he
  have hlen : (((gI f).take AO).map (xK (dQ p).length (cQ p).length (gi p).length lk (gI f).length)).length = AO := by rw [List.length_map, List.length_take]; omega
  refine aP.2 ⟨fun Fy => ?_, fun Sd => ?_⟩
  ·obtain ⟨x, hx⟩ := aR (l := gI f) (i := AO) (by omega)
   obtain ⟨b', o', hb'⟩ := hF.some (by omega) (by decide)
   rw [hb'] at hF
   rw [hb']
   refine ⟨by omega, Fy, br ?_⟩
   refine aZ (Src.at hF.src h (i := AO) (j := 0) hx rfl (by simp [jm])) ?_
   refine aZ (Src.at hF.src h (i := AO) (j := 1) hx rfl (by simp [jm]; omega)) ?_
   refine aZ (Src.at hF.src h (i := AO) (j := 2) hx rfl (by simp [jm]; omega)) ?_
   refine aZ (Src.at hF.src h (i := AO) (j := 3) hx rfl (by simp [jm]; omega)) ?_
   repeat (first | (refine aq h ?_; clear h; intro kb M h) | (refine av h ?_; clear h; intro M h) | refine St.to h ?_ | (apply Exists.intro; (repeat apply Exists.intro); refine And.intro rfl ?_) | (refine And.intro ?_ ?_; first | exact rfl | ((repeat (refine ay (aA h) ?_)); exact ae) | omega) | refine ai ?_ | refine aj ?_)
   refine Sn h (by omega) ?_
   clear h; intro M h
   refine ⟨_, _, _, _, rfl, ?_⟩
   refine aq h ?_
   clear h
   intro kz M h
   refine h.dx (A := Sr) So [xK (dQ p).length (cQ p).length (gi p).length lk (gI f).length x] rfl hlen.symm rfl (by simp; omega) ?_
   clear h; intro A3 c3 M h
   refine aT ⟨(gI f).length - (AO + 1), by omega, AO + 1, A3, c3, ?_, rfl, by omega, ?_⟩
   ·rw [aU (by omega)]
   ·rw [take_succ hx, List.map_append]
    exact h.sub bz
  ·have hin : AO = (gI f).length := by omega
   subst hin
   rw [List.take_of_length_le (Nat.le_refl _)] at h
   obtain ⟨R6, l6, r6, h6⟩ := h.dg Sr
   clear h
   refine aQ h6 ⟨by omega, by omega, br ?_⟩
   obtain ⟨u, hu⟩ := aR (l := us) (i := j) (by omega)
   refine iK (a' := (Sr, (gI f).length, c'')) j 0 h6 hu (by decide) rfl (by simp [yz]) ?_
   clear h6; intro M h
   refine ⟨(dQ p).length - (j + 1), by omega, j + 1, R6, _, by rw [aU (by omega)], rfl, by omega, Mem.le_trans l4 (Mem.le_trans l5 l6), ?_, ?_, h.sub bz⟩
   ·simp [Qh]
   ·intro i t' f' hi' ht' Gy
    by_cases hij : i = j
    ·subst hij
     rw [List.getElem?_set_self (by omega)] at ht'
     cases ht'
     rw [hf] at Gy
     cases Gy
     subst hlk
     exact ⟨r6, by simp [tR]⟩
    ·rw [List.getElem?_set_ne (by omega)] at ht'
     obtain ⟨g1, g2⟩ := F6 i t' f' (by omega) ht' Gy
     exact ⟨g1.le (Mem.le_trans l5 l6), g2⟩
 ·obtain ⟨R5, l5, r5, h5⟩ := h.dg (some ⟨q, 0, none⟩)
  clear h
  replace h := h5
  clear h5
  repeat (first | (refine aq h ?_; clear h; intro kb M h) | (refine av h ?_; clear h; intro M h) | refine St.to h ?_ | (apply Exists.intro; (repeat apply Exists.intro); refine And.intro rfl ?_) | (refine And.intro ?_ ?_; first | exact rfl | ((repeat (refine ay (aA h) ?_)); exact ae) | omega) | refine ai ?_ | refine aj ?_)
  subst hlk
  have hl5 := Mem.le_trans l4 l5
  have ef : (eS p).funcs.length = (dQ p).length := by simp [eS]
  have hk := fun M' => k R5 ⟨some ⟨q, 0, none⟩, (dQ p).length, B, c, C, d⟩ M' (Mem.le_trans RD hl5) ⟨⟨us, r5, by simp [eS, Qh], fun i t f a b => ?_⟩, rC.le hl5⟩ (rB.le hl5)
  ·rw [D2, ef] at hk
   exact hk _ (h.sub bz)
  ·have b' : ((dQ p).map (tR p))[i]? = some f := b
   rw [List.getElem?_map] at b'
   obtain ⟨f0, b1, rfl⟩ := Option.map_eq_some_iff.1 b'
   obtain ⟨g1, g2⟩ := F6 i t f0 (by have := (List.getElem?_eq_some_iff.1 b1).1; omega) a b1
   exact ⟨g1.le l5, g2⟩
end
theorem Su : bg Tryz.prog 31 34 4 32 [.int .i64 0, .int .i64 0, .int .i64 0, .int .i64 0] := bg.mk' (zv := .agg #[.int .i64 0, .int .i64 0, .int .i64 0, .int .i64 0]) (by kernel_rfl) (by kernel_rfl) rfl (by omega)
theorem Sv : bg Tryz.prog 39 172 3 24 [.int .i64 0, .int .i64 0, .int .i64 0] := bg.mk' (zv := .agg #[.int .i64 0, .int .i64 0, .int .i64 0]) (by kernel_rfl) (by kernel_rfl) rfl (by omega)
theorem Xg : bg Tryz.prog 37 31 1 24 [.slice none 0 0] := bg.mk' (zv := .slice none 0 0) (by kernel_rfl) (by kernel_rfl) rfl (by omega)
theorem D4 {A : Option Addr} {b o : Nat} {G : Nat → Nat → Prop} (e : A = some ⟨b, o, none⟩) (g : G b o) : aG A G := by subst e; exact br g
abbrev Bw (k : Nat) (A : Option Addr) (n c : Nat) (B : Option Addr) (m d : Nat) (lk : Int) (C : Option Addr) (q e : Nat) : HP := pt k (prgC A n c B m d lk C q e) 41
section
variable {R : Mem} {L L' : List HP} {M : Mem} {K : Value → Mem → Prop} {Kp : List PanicEntry → Mem → Prop} {pa : PA} {p : b6}
theorem J4 (h : Hp R L M) (ha : kF R pa p) (hc : RS bl R pa.c pa.cc p.dI) (hp : fK p) (hfn : p.funcs.length ≤ 1000000) (k : ∀ R' D3 M', R.le R' → kF R' D3 p → RS bl R' D3.c D3.cc p.dI → Hp R' L M' → K (D2 D3 p) M') :
  aa Tryz.prog 29 #[D2 pa p] M K Kp := by
 refine sj ?_
 have p1 := hp.ch
 have p2 := hp.cs
 obtain ⟨ts, t1, t2, t3⟩ := ha.funcs
 have t4 := t1.2
 refine aq h ?_
 clear h
 intro k1 M h
 refine aq h ?_
 clear h
 intro k3 M h
 refine aQ h (aH h ?_)
 refine aq h ?_
 clear h
 intro k9 M h
 refine ⟨trivial, ?_⟩
 refine h.iL bl sY p.dI hc.src rfl (by omega) ?_
 clear h; intro B c M h
 refine aT ⟨aA h, ?_⟩
 refine aq h ?_
 clear h
 intro dO M h
 repeat (refine av h ?_; clear h; intro M h)
 refine ⟨aA h, aQ h ?_⟩
 obtain ⟨R1, l1, rB, h1⟩ := h.dg B
 clear h
 have h0 : Hp R1 (bD yz 31 none 0 [] :: Bw dO none 0 0 B p.dI.length c p.aL none 0 0 :: Bw k3 none 0 0 none 0 0 0 none 0 0 :: dN k1 pa.f p.funcs.length pa.fc pa.c p.dI.length pa.cc p.aL pa.k p.cases.length pa.kc :: L) M := (h1.bX yz _).sub bz
 clear h1
 refine ⟨fun dd vs M => ∃ (j : Nat) (R2 : Mem) (A : Option Addr) (cA : Nat) (us : List (Option Addr × Nat × Nat)), vs = [.int .i64 (j : Int)] ∧ dd = p.funcs.length - j ∧ j ≤ p.funcs.length ∧ R1.le R2 ∧ us.length = j ∧ (∀ (i : Nat) t f, us[i]? = some t → p.funcs[i]? = some f → RS jm R2 t.1 t.2.2 f ∧ t.2.1 = f.length) ∧
  Hp R2 (bD yz 31 A cA us :: Bw dO A j cA B p.dI.length c p.aL none 0 0 :: Bw k3 none 0 0 none 0 0 0 none 0 0 :: dN k1 pa.f p.funcs.length pa.fc pa.c p.dI.length pa.cc p.aL pa.k p.cases.length pa.kc :: L) M,
  ⟨_, 0, R1, none, 0, [], rfl, rfl, by omega, Mem.le_refl _, rfl, fun i t f a => by simp at a, h0⟩, ?_⟩
 clear h0
 rintro dd _ nn M ⟨j, R2, A, cA, us, he, hd, hj, l2, Qh, F6, h⟩
 simp only [List.cons.injEq, Value.int.injEq, and_true, true_and] at he
 subst he
 refine aP.2 ⟨fun hlt => ?_, fun hge => ?_⟩
 ·obtain ⟨t, ht⟩ := aR (l := ts) (i := j) (by omega)
  obtain ⟨f, hf⟩ := aR (l := p.funcs) (i := j) (by omega)
  obtain ⟨u1, u2⟩ := t3 j t f ht hf
  have hfl := (hp.code f (List.mem_of_getElem? hf)).2.1
  obtain ⟨tA, tn, tc⟩ := t
  dsimp only at u1 u2
  subst u2
  have IM := t1.le (Mem.le_trans l1 l2)
  obtain ⟨b, o, hb⟩ := IM.some (by omega) (by decide)
  rw [hb] at IM
  refine ⟨by omega, hlt, D4 hb ?_⟩
  refine y3 (Src.at IM.src h (i := j) (j := 0) ht rfl (by simp [yz])) ?_
  dsimp only
  have hF := u1.le (Mem.le_trans l1 l2)
  refine aq h ?_
  clear h
  intro kr M h
  have h0 := (h.pt kr).gU (E := jm) (l := []) rfl
  clear h
  refine ⟨fun dd vs M => ∃ (i : Nat) (A2 : Option Addr) (c' : Nat), vs = [.slice A2 i c', .int .i64 (i : Int)] ∧ dd = f.length - i ∧ i ≤ f.length ∧ Hp R2 (bD jm 34 A2 c' (f.take i) :: bD yz 31 A cA us :: Bw dO A j cA B p.dI.length c p.aL none 0 0 :: Bw k3 none 0 0 none 0 0 0 none 0 0 :: dN k1 pa.f p.funcs.length pa.fc pa.c p.dI.length pa.cc p.aL pa.k p.cases.length pa.kc :: L) M,
   ⟨_, 0, _, _, rfl, rfl, by omega, h0⟩, ?_⟩
  clear h0
  rintro dd _ Sr AO c'' nn M ⟨i, A2, c2, he, Qe, hi, h⟩
  simp only [List.cons.injEq, Value.int.injEq, Value.slice.injEq, and_true, true_and] at he
  obtain ⟨⟨rfl, rfl, rfl⟩, rfl⟩ := he
  have hlen : (f.take AO).length = AO := by rw [List.length_take]; omega
  refine aP.2 ⟨fun Fy => ?_, fun Sd => ?_⟩
  ·obtain ⟨x, hx⟩ := aR (l := f) (i := AO) (by omega)
   obtain ⟨b', o', hb'⟩ := hF.some (by omega) (by decide)
   rw [hb'] at hF
   refine ⟨by omega, Fy, D4 hb' ?_⟩
   refine aZ (Src.at hF.src h (i := AO) (j := 0) hx rfl (by simp [jm])) ?_
   refine aZ (Src.at hF.src h (i := AO) (j := 1) hx rfl (by simp [jm]; omega)) ?_
   refine aZ (Src.at hF.src h (i := AO) (j := 2) hx rfl (by simp [jm]; omega)) ?_
   refine aZ (Src.at hF.src h (i := AO) (j := 3) hx rfl (by simp [jm]; omega)) ?_
   repeat (first | (refine aq h ?_; clear h; intro kb M h) | (refine av h ?_; clear h; intro M h) | refine St.to h ?_ | (apply Exists.intro; (repeat apply Exists.intro); refine And.intro rfl ?_) | (refine And.intro ?_ ?_; first | exact rfl | ((repeat (refine ay (aA h) ?_)); exact ae) | omega) | refine ai ?_ | refine aj ?_)
   refine h.dx (A := Sr) Su [x] rfl hlen.symm rfl (by simp; omega) ?_
   clear h; intro A3 c3 M h
   refine aT ⟨f.length - (AO + 1), by omega, AO + 1, A3, c3, ?_, rfl, by omega, ?_⟩
   ·rw [aU (by omega)]
   ·rw [take_succ hx]
    exact h.sub bz
  ·have hin : AO = f.length := by omega
   subst hin
   rw [List.take_of_length_le (Nat.le_refl _)] at h
   obtain ⟨R6, l6, r6, h6⟩ := h.dg Sr
   clear h
   refine aQ h6 ?_
   refine aq h6 ?_
   clear h6; intro kz M h
   refine h.dx (A := A) Xg [(Sr, f.length, c'')] rfl Qh.symm rfl (by simp; omega) ?_
   clear h; intro A3 c3 M h
   refine aT ?_
   refine av h ?_
   clear h
   intro M h
   refine ⟨p.funcs.length - (j + 1), by omega, j + 1, R6, A3, c3, us ++ [(Sr, f.length, c'')], by rw [aU (by omega)], rfl, by omega, Mem.le_trans l2 l6, by simp [Qh], ?_, h.sub bz⟩
   intro i t' f' ht' Gy
   rcases Nat.lt_or_ge i us.length with hi' | hi'
   ·rw [List.getElem?_append_left hi'] at ht'
    obtain ⟨g1, g2⟩ := F6 i t' f' ht' Gy
    exact ⟨g1.le l6, g2⟩
   ·rw [List.getElem?_append_right hi'] at ht'
    have hi0 : i - us.length = 0 := by
     rcases Nat.eq_zero_or_pos (i - us.length) with e | e
     ·exact e
     ·rw [List.getElem?_eq_none (by simp; omega)] at ht'; cases ht'
    rw [hi0] at ht'
    cases ht'
    have : i = j := by omega
    subst this
    rw [hf] at Gy
    cases Gy
    exact ⟨r6, rfl⟩
 ·have yj : j = p.funcs.length := by omega
  subst yj
  obtain ⟨R3, l3, rA, h3⟩ := h.dg A
  clear h
  refine aQ h3 ?_
  have h0 : Hp R3 (bD iB 172 none 0 [] :: Bw dO A p.funcs.length cA B p.dI.length c p.aL none 0 0 :: Bw k3 none 0 0 none 0 0 0 none 0 0 :: dN k1 pa.f p.funcs.length pa.fc pa.c p.dI.length pa.cc p.aL pa.k p.cases.length pa.kc :: L) M := h3.bX iB _
  clear h3
  have l123 := Mem.le_trans l1 (Mem.le_trans l2 l3)
  have hk := ha.cases.le l123
  refine ⟨fun dd vs M => ∃ (i : Nat) (A2 : Option Addr) (c' : Nat), vs = [.int .i64 (i : Int)] ∧ dd = p.cases.length - i ∧ i ≤ p.cases.length ∧ Hp R3 (bD iB 172 A2 c' (p.cases.take i) :: Bw dO A p.funcs.length cA B p.dI.length c p.aL A2 i c' :: Bw k3 none 0 0 none 0 0 0 none 0 0 :: dN k1 pa.f p.funcs.length pa.fc pa.c p.dI.length pa.cc p.aL pa.k p.cases.length pa.kc :: L) M,
   ⟨_, 0, none, 0, rfl, rfl, by omega, h0⟩, ?_⟩
  clear h0
  rintro dd _ nn M ⟨i, A2, c2, he, Qe, hi, h⟩
  simp only [List.cons.injEq, Value.int.injEq, and_true, true_and] at he
  subst he
  have hlen : (p.cases.take i).length = i := by rw [List.length_take]; omega
  refine aP.2 ⟨fun Fy => ?_, fun Sd => ?_⟩
  ·obtain ⟨x, hx⟩ := aR (l := p.cases) (i := i) (by omega)
   obtain ⟨b', o', hb'⟩ := hk.some (by omega) (by decide)
   rw [hb'] at hk
   refine ⟨by omega, Fy, D4 hb' ?_⟩
   refine aZ (Src.at hk.src h (i := i) (j := 0) hx rfl (by simp [iB])) ?_
   refine aZ (Src.at hk.src h (i := i) (j := 1) hx rfl (by simp [iB]; omega)) ?_
   refine aZ (Src.at hk.src h (i := i) (j := 2) hx rfl (by simp [iB]; omega)) ?_
   repeat (first | (refine aq h ?_; clear h; intro kb M h) | (refine av h ?_; clear h; intro M h) | refine St.to h ?_ | (apply Exists.intro; (repeat apply Exists.intro); refine And.intro rfl ?_) | (refine And.intro ?_ ?_; first | exact rfl | ((repeat (refine ay (aA h) ?_)); exact ae) | omega) | refine ai ?_ | refine aj ?_)
   refine h.dx (A := A2) Sv [x] rfl hlen.symm rfl (by simp; omega) ?_
   clear h; intro A3 c3 M h
   refine aT ?_
   refine av h ?_
   clear h
   intro M h
   refine ⟨p.cases.length - (i + 1), by omega, i + 1, A3, c3, ?_, rfl, by omega, ?_⟩
   ·rw [aU (by omega)]
   ·rw [take_succ hx]
    exact h.sub bz
  ·have hin : i = p.cases.length := by omega
   subst hin
   rw [List.take_of_length_le (Nat.le_refl _)] at h
   obtain ⟨R6, l6, r6, h6⟩ := h.dg A2
   clear h
   replace h := h6
   clear h6
   repeat (first | (refine aq h ?_; clear h; intro kb M h) | (refine av h ?_; clear h; intro M h) | refine St.to h ?_ | (apply Exists.intro; (repeat apply Exists.intro); refine And.intro rfl ?_) | (refine And.intro ?_ ?_; first | exact rfl | ((repeat (refine ay (aA h) ?_)); exact ae) | omega) | refine ai ?_ | refine aj ?_)
   have l16 := Mem.le_trans l123 l6
   refine k R6 ⟨A, cA, B, c, A2, c2⟩ _ l16 ⟨⟨us, rA.le l6, Qh, fun i t f a b => ?_⟩, r6⟩ (rB.le (Mem.le_trans l2 (Mem.le_trans l3 l6))) (h.sub bz)
   obtain ⟨g1, g2⟩ := F6 i t f a b
   exact ⟨g1.le (Mem.le_trans l3 l6), g2⟩
end
def AP {ρ α : Type} (P : Mem → ρ → α → Prop) (R : Mem) (xs : List ρ) (ys : List α) : Prop := xs.length = ys.length ∧ ∀ (i : Nat) (r : ρ) (a : α), xs[i]? = some r → ys[i]? = some a → P R r a
section
variable {ρ α : Type} {P : Mem → ρ → α → Prop} {R R' : Mem} {xs : List ρ} {ys : List α}
theorem AP.nil (P : Mem → ρ → α → Prop) (R : Mem) : AP P R [] [] := ⟨rfl, fun i r c h => by simp at h⟩
theorem AP.le (hm : ∀ R R' r a, R.le R' → P R r a → P R' r a) (h : AP P R xs ys) (hle : R.le R') : AP P R' xs ys := ⟨h.1, fun i r c h1 h2 => hm _ _ _ _ hle (h.2 i r c h1 h2)⟩
theorem AP.snoc {r : ρ} {c : α} (h : AP P R xs ys) (hr : P R r c) : AP P R (xs ++ [r]) (ys ++ [c]) := by
 refine ⟨by simp [h.1], fun i r' c' h1 h2 => ?_⟩
 rcases Nat.lt_or_ge i xs.length with hl | hl
 ·rw [List.getElem?_append_left hl] at h1; rw [List.getElem?_append_left (by rw [← h.1]; exact hl)] at h2; exact h.2 i _ _ h1 h2
 ·rw [List.getElem?_append_right hl] at h1; rw [List.getElem?_append_right (by rw [← h.1]; exact hl)] at h2
  have : i - xs.length = 0 := by
   obtain ⟨hh, _⟩ := List.getElem?_eq_some_iff.1 h1; simp at hh; omega
  rw [this] at h1; rw [← h.1, this] at h2
  cases h1; cases h2; exact hr
theorem AP.set {r : ρ} {c : α} (h : AP P R xs ys) (i : Nat) (hr : P R r c) : AP P R (xs.set i r) (ys.set i c) := by
 refine ⟨by simp [h.1], fun j r' c' h1 h2 => ?_⟩
 rw [List.getElem?_set] at h1 h2
 split at h1
 ·rename_i e; rw [if_pos e] at h2
  split at h1
  ·split at h2
   ·cases h1; cases h2; exact hr
   ·cases h2
  ·cases h1
 ·rename_i e; rw [if_neg e] at h2; exact h.2 j _ _ h1 h2
theorem AP.at {i : Nat} {a : α} (h : AP P R xs ys) (ha : ys[i]? = some a) : ∃ r, xs[i]? = some r ∧ P R r a := by
 have hi : i < xs.length := by rw [h.1]; exact (List.getElem?_eq_some_iff.1 ha).1
 exact ⟨xs[i], List.getElem?_eq_getElem hi, h.2 i _ _ (List.getElem?_eq_getElem hi) ha⟩
end
structure RG where
 st : Int
 A : Option Addr
 n : Nat
 c : Nat
 wt : cI
def rgE : gp RG := ⟨6, fun g => [.int .i64 g.st, .slice g.A g.n g.c, .int .i64 g.wt.op, .int .i64 g.wt.a, .int .i64 g.wt.b, .int .i64 g.wt.c], fun _ => rfl, fun w v hv => by
 simp only [List.mem_cons, List.not_mem_nil, or_false] at hv; obtain rfl | rfl | rfl | rfl | rfl | rfl := hv <;> rfl⟩
def PL (R : Mem) (r : RG) (y : jh) : Prop := r.st = y.st ∧ r.n = y.fs.length ∧ RS jn R r.A r.c y.fs ∧ r.wt = y.wt
theorem PL.le (R R' : Mem) (r : RG) (y : jh) (hle : R.le R') (h : PL R r y) : PL R' r y := ⟨h.1, h.2.1, h.2.2.1.le hle, h.2.2.2⟩
def lkL (l : Lk) : List Int := if l.owner = -1 then [] else l.owner :: l.waits
def RLk (R : Mem) (t : Option Addr × Nat × Nat) (l : Lk) : Prop := t.2.1 = (lkL l).length ∧ RS bl R t.1 t.2.2 (lkL l)
theorem RLk.le (R R' : Mem) (r : Option Addr × Nat × Nat) (y : Lk) (hle : R.le R') (h : RLk R r y) : RLk R' r y := ⟨h.1, h.2.le hle⟩
structure RWA where
 pa : PA
 ag : Option Addr
 cg : Nat
 ac : Option Addr
 cc : Nat
 al : Option Addr
 cl : Nat
 ah : Option Addr
 ch : Nat
 ao : Option Addr
 co : Nat
 ar : Option Addr
 cr : Nat
abbrev rwL (a : RWA) (p : b6) (x : Wd) : List Value :=
 [.slice a.pa.f p.funcs.length a.pa.fc, .slice a.pa.c p.dI.length a.pa.cc, .int .i64 p.aL, .slice a.pa.k p.cases.length a.pa.kc, .slice a.ag x.gs.length a.cg, .int .u64 x.clock, .slice a.ac x.aE.length a.cc, .slice a.al x.aL.length a.cl, .slice a.ah x.hl.length a.ch, .int .u64 x.lp, .slice a.ao x.out.length a.co, .int .i64 x.end_, .int .i64 x.code, .slice a.ar x.ready.length a.cr]
structure XZ (R : Mem) (a : RWA) (p : b6) (x : Wd) : Prop where
 prg : kF R a.pa p
 dI : RS bl R a.pa.c a.pa.cc p.dI
 gs : ∃ rs, RS rgE R a.ag a.cg rs ∧ AP PL R rs x.gs
 aE : ∃ rs, RS Wp R a.ac a.cc rs ∧ HM R rs x.aE
 aL : ∃ rs, RS yz R a.al a.cl rs ∧ AP RLk R rs x.aL
 hl : RS sF R a.ah a.ch x.hl
 out : RS bl R a.ao a.co x.out
 ready : RS bl R a.ar a.cr x.ready
theorem XZ.le {R R' : Mem} {a : RWA} {p : b6} {x : Wd} (h : XZ R a p x) (hle : R.le R') : XZ R' a p x := by
 obtain ⟨h1, h2, ⟨r3, a3, b3⟩, ⟨r4, a4, b4⟩, ⟨r5, a5, b5⟩, h6, h7, h8⟩ := h
 exact ⟨h1.le hle, h2.le hle, ⟨r3, a3.le hle, b3.le PL.le hle⟩, ⟨r4, a4.le hle, b4.le hle⟩, ⟨r5, a5.le hle, b5.le RLk.le hle⟩, h6.le hle, h7.le hle, h8.le hle⟩
theorem PM : bg Tryz.prog 75 190 5 88 [.int .i64 0, .slice none 0 0, .slice none 0 0, .slice none 0 0, .bool false] := bg.mk' (zv := .agg #[.int .i64 0, .slice none 0 0, .slice none 0 0, .slice none 0 0, .bool false]) (by kernel_rfl) (by kernel_rfl) rfl (by omega)
theorem Xh : bg Tryz.prog 76 251 1 24 [.slice none 0 0] := bg.mk' (zv := .agg #[.slice none 0 0]) (by kernel_rfl) (by kernel_rfl) rfl (by omega)
end Go.Proofs
namespace Go.Proofs
open Go.AF
set_option maxRecDepth 100000
set_option maxHeartbeats 1000000
attribute [local irreducible] aK cJ fJ bO aD fz aG aO be aS bJ aV
attribute [local irreducible] IT Kc
section
variable {R : Mem} {L L' : List HP} {M : Mem} {K : Value → Mem → Prop} {Kp : List PanicEntry → Mem → Prop} {pa : PA} {p : b6}
theorem F7 {fn v : Int} (h : Hp R L M) (k : ∀ R' A c M', R.le R' → RS jn R' A c [gM.begin fn v] → Hp R' L M' → K (.slice A 1 c) M') : aa Tryz.prog 74 #[.int .i64 fn, .int .i64 v] M K Kp := by
 refine pb ?_
 repeat (first | (refine aq h ?_; clear h; intro kb M h) | (refine av h ?_; clear h; intro M h) | refine St.to h ?_ | (apply Exists.intro; (repeat apply Exists.intro); refine And.intro rfl ?_) | (refine And.intro ?_ ?_; first | exact rfl | ((repeat (refine ay (aA h) ?_)); exact ae) | omega) | refine ai ?_ | refine aj ?_)
 obtain ⟨R2, l2, r2, h2⟩ := ((h.pt kb).gU (E := jn) (l := [gM.begin fn v]) rfl).dg (some ⟨kb, 0, none⟩)
 clear h
 exact k R2 _ _ _ l2 r2 (h2.sub bz)
theorem Mc (h : Hp R L M) (hp : kF R pa p) (hc : RS bl R pa.c pa.cc p.dI) (hok : fK p) (k : ∀ R' a M', R.le R' → a.pa = pa → XZ R' a p (Wd.new p) → Hp R' L M' → K (.agg (rwL a p (Wd.new p)).toArray) M') :
  aa Tryz.prog 37 #[D2 pa p] M K Kp := by
 refine sr ?_
 have p1 := hok.ch
 have p2 := hok.lk
 refine aq h ?_
 clear h
 intro k1 M h
 refine aq h ?_
 clear h
 intro k3 M h
 refine aQ h (aQ h (aH h (aQ h ⟨trivial, ?_⟩)))
 refine F7 h ?_
 clear h; intro R1 A c M l1 r1 h
 refine aT ⟨gC h rfl, ?_⟩
 refine aq h ?_
 clear h
 intro iA M h
 obtain ⟨R2, l2, r2, h2⟩ := ((h.pt iA).gU (E := rgE) (l := [⟨1, A, 1, c, .zero⟩]) rfl).dg (some ⟨iA, 0, none⟩)
 clear h
 refine aq h2 ?_
 clear h2; intro gJ M h
 refine y4 h rfl rfl rfl ?_
 clear h; intro M h
 refine ⟨gC h rfl, aQ h ?_⟩
 have l12 := Mem.le_trans l1 l2
 have xS := hc.le l12
 have W : Option Addr → Nat → Nat → List Value := fun B m d => []
 have h0 := h.bX Wp 190
 clear h
 refine ⟨fun dd vs M => ∃ (j : Nat) (B : Option Addr) (d : Nat) (rs : List RC), vs = [.int .i64 (j : Int)] ∧ dd = p.dI.length - j ∧ j ≤ p.dI.length ∧ HM R2 rs ((p.dI.take j).map aX.new) ∧
  Hp R2 (bD Wp 190 B d rs :: pt gJ [.slice pa.f p.funcs.length pa.fc, .slice pa.c p.dI.length pa.cc, .int .i64 p.aL, .slice pa.k p.cases.length pa.kc, .slice (some ⟨iA, 0, none⟩) 1 1, .int .u64 0, .slice B j d, .slice none 0 0, .slice none 0 0, .int .u64 0, .slice none 0 0, .int .i64 0, .int .i64 0, .slice none 0 0] 81 ::
   pt k3 [.slice none 0 0, .slice none 0 0, .int .i64 0, .slice none 0 0, .slice none 0 0, .int .u64 0, .slice none 0 0, .slice none 0 0, .slice none 0 0, .int .u64 0, .slice none 0 0, .int .i64 0, .int .i64 0, .slice none 0 0] 81 :: dN k1 pa.f p.funcs.length pa.fc pa.c p.dI.length pa.cc p.aL pa.k p.cases.length pa.kc :: L) M,
  ⟨_, 0, none, 0, [], rfl, rfl, by omega, HM.nil _, h0.sub bz⟩, ?_⟩
 clear h0 W
 rintro dd _ nn M ⟨j, B, d, rs, he, hd, hj, kN, h⟩
 simp only [List.cons.injEq, Value.int.injEq, and_true, true_and] at he
 subst he
 have hlen : rs.length = j := by rw [kN.1, List.length_map, List.length_take]; omega
 refine aP.2 ⟨fun hlt => ?_, fun hge => ?_⟩
 ·obtain ⟨v, hv⟩ := aR (l := p.dI) (i := j) (by omega)
  obtain ⟨b, o, hb⟩ := xS.some (by omega) (by decide)
  rw [hb] at xS
  refine ⟨by omega, hlt, D4 hb ?_⟩
  refine aZ (Src.at xS.src h (i := j) (j := 0) hv rfl (by simp [bl])) ?_
  refine ⟨fun vs M => vs = [] ∧ ∃ (B : Option Addr) (d : Nat) (Sw : List RC), HM R2 Sw ((p.dI.take (j + 1)).map aX.new) ∧
   Hp R2 (bD Wp 190 B d Sw :: pt gJ [.slice pa.f p.funcs.length pa.fc, .slice pa.c p.dI.length pa.cc, .int .i64 p.aL, .slice pa.k p.cases.length pa.kc, .slice (some ⟨iA, 0, none⟩) 1 1, .int .u64 0, .slice B (j + 1) d, .slice none 0 0, .slice none 0 0, .int .u64 0, .slice none 0 0, .int .i64 0, .int .i64 0, .slice none 0 0] 81 ::
   pt k3 [.slice none 0 0, .slice none 0 0, .int .i64 0, .slice none 0 0, .slice none 0 0, .int .u64 0, .slice none 0 0, .slice none 0 0, .slice none 0 0, .int .u64 0, .slice none 0 0, .int .i64 0, .int .i64 0, .slice none 0 0] 81 :: dN k1 pa.f p.funcs.length pa.fc pa.c p.dI.length pa.cc p.aL pa.k p.cases.length pa.kc :: L) M, ?_, ?_⟩
  ·have yx : (p.dI.take (j + 1)).map aX.new = (p.dI.take j).map aX.new ++ [aX.new v] := by rw [take_succ hv, List.map_append]; rfl
   rw [yx]
   refine ⟨?_, ?_, trivial⟩
   ·refine aQ h ?_
    refine Cd h ?_
    clear h; intro vs M h hr
    obtain ⟨r, rfl, hr⟩ := hr.rc
    refine ⟨_, _, _, _, _, _, _, _, _, _, _, rfl, ?_⟩
    refine aq h ?_
    clear h
    intro kz M h
    refine h.dx (A := B) PM [r] rfl hlen.symm rfl (by simp; omega) ?_
    clear h; intro A3 c3 M h
    refine aT ?_
    refine av h ?_
    clear h
    intro M h
    exact ⟨rfl, A3, c3, _, kN.snoc hr, h.sub bz⟩
   ·refine Cd h ?_
    clear h; intro vs M h hr
    obtain ⟨r, rfl, hr⟩ := hr.rc
    refine ⟨_, _, _, _, _, _, _, _, _, _, _, rfl, aQ h ?_⟩
    refine aq h ?_
    clear h
    intro kz M h
    refine h.dx (A := B) PM [r] rfl hlen.symm rfl (by simp; omega) ?_
    clear h; intro A3 c3 M h
    refine aT ?_
    refine av h ?_
    clear h
    intro M h
    exact ⟨rfl, A3, c3, _, kN.snoc hr, h.sub bz⟩
  ·clear h
   rintro nn M ⟨_, B', d', Sw, Xi, h⟩
   exact ⟨p.dI.length - (j + 1), by omega, j + 1, B', d', Sw, by rw [aU (by omega)], rfl, by omega, Xi, h⟩
 ·have yj : j = p.dI.length := by omega
  subst yj
  rw [List.take_of_length_le (Nat.le_refl _)] at kN
  obtain ⟨R3, l3, r3, h3⟩ := h.dg B
  clear h
  obtain ⟨n, hn⟩ := Int.eq_ofNat_of_zero_le p2.1
  refine aH h3 ?_
  rw [hn] at h3 ⊢
  refine h3.C9 (E := yz) (a := (none, 0, 0)) Xh (by omega) ?_
  clear h3; intro q M h
  refine aT ?_
  refine av h ?_
  clear h
  intro M h
  obtain ⟨R4, l4, r4, h4⟩ := h.dg (some ⟨q, 0, none⟩)
  clear h
  refine BV h4 rfl ?_
  refine y4 h4 rfl rfl rfl ?_
  clear h4; intro M h
  refine BV h rfl ?_
  have Xj := Mem.le_trans l3 l4
  have l24 := Mem.le_trans l2 Xj
  have X0 := Mem.le_trans l1 l24
  have hw : XZ R4 ⟨pa, some ⟨iA, 0, none⟩, 1, B, d, some ⟨q, 0, none⟩, n, none, 0, none, 0, none, 0⟩ p (Wd.new p) := by
   refine ⟨hp.le X0, hc.le X0, ⟨_, r2.le Xj, ⟨rfl, fun i r a h1 h2 => ?_⟩⟩, ⟨rs, r3.le l4, kN.le Xj⟩, ⟨_, r4, ⟨by simp [Wd.new, hn], fun i r a h1 h2 => ?_⟩⟩, RS.nil _ _, RS.nil _ _, RS.nil _ _⟩
   ·match i, h1, h2 with
    | 0, h1, h2 =>
     cases h1
     have : a = ⟨1, [gM.begin 0 0], .zero⟩ := by simpa [Wd.new] using h2.symm
     subst this
     exact ⟨rfl, rfl, r1.le l24, rfl⟩
    | i + 1, h1, h2 => simp at h1
   ·have e1 := List.eq_of_mem_replicate (List.mem_of_getElem? h1)
    have e2 := List.eq_of_mem_replicate (List.mem_of_getElem? h2)
    subst e1; subst e2
    exact ⟨rfl, RS.nil _ _⟩
  have hk := fun M' => k R4 _ M' X0 rfl hw
  have e1 : (Wd.new p).aE.length = p.dI.length := by simp [Wd.new]
  have e2 : (Wd.new p).aL.length = n := by simp [Wd.new, hn]
  simp only [rwL, e1, e2, hn] at hk
  exact hk _ (h.sub bz)
end
structure RPr where
 next : Int
 A : Option Addr
 n : Nat
 c : Nat
 room : Int
 turns : Int
 gH : Int
def PN : gp RPr := ⟨5, fun w => [.int .i64 w.next, .slice w.A w.n w.c, .int .i64 w.room, .int .i64 w.turns, .int .i64 w.gH], fun _ => rfl, fun w v hv => by
 simp only [List.mem_cons, List.not_mem_nil, or_false] at hv; obtain rfl | rfl | rfl | rfl | rfl := hv <;> rfl⟩
def D5 (R : Mem) (r : RPr) (y : cX) : Prop := r.next = y.q.next ∧ r.n = y.q.l.length ∧ RS bl R r.A r.c y.q.l ∧ r.room = (y.q.room : Int) ∧ r.turns = y.turns ∧ r.gH = y.gH
theorem D5.le (R R' : Mem) (r : RPr) (y : cX) (hle : R.le R') (h : D5 R r y) : D5 R' r y := ⟨h.1, h.2.1, h.2.2.1.le hle, h.2.2.2⟩
def fy.ou : fy → List Int
 | .vB l i => l.drop i
 | .tape _ _ => []
def fy.PO : fy → List (Int × Int)
 | .vB _ _ => []
 | .tape l i => l.drop i
def fy.isT : fy → Bool
 | .vB _ _ => false
 | .tape _ _ => true
structure X1 where
 an : Option Addr
 cn : Nat
 at_ : Option Addr
 ct : Nat
 ax : Option Addr
 cx : Nat
structure RSA where
 w : RWA
 ap : Option Addr
 cp : Nat
 am : Option Addr
 cm : Nat
 ag : Option Addr
 cg : Nat
 d : X1
abbrev rdL (a : X1) (d : iD) : List Value := [.slice a.an d.k.ou.length a.cn, .slice a.at_ d.k.PO.length a.ct, .bool d.k.isT, .bool false, .slice a.ax d.taken.length a.cx]
abbrev rsL (a : RSA) (p : b6) (x : Sc) : List Value :=
 [.int .i64 x.c.P, .int .i64 x.c.M, .int .i64 x.c.R, .int .i64 x.c.S, .slice a.w.pa.f p.funcs.length a.w.pa.fc, .slice a.w.pa.c p.dI.length a.w.pa.cc, .int .i64 p.aL, .slice a.w.pa.k p.cases.length a.w.pa.kc, .slice a.w.ag x.w.gs.length a.w.cg, .int .u64 x.w.clock, .slice a.w.ac x.w.aE.length a.w.cc, .slice a.w.al x.w.aL.length a.w.cl, .slice a.w.ah x.w.hl.length a.w.ch, .int .u64 x.w.lp, .slice a.w.ao x.w.out.length a.w.co, .int .i64 x.w.end_, .int .i64 x.w.code, .slice a.w.ar x.w.ready.length a.w.cr,
  .slice a.ap x.ps.length a.cp, .slice a.am x.ms.length a.cm, .slice a.ag x.gl.length a.cg, .slice a.d.an x.d.k.ou.length a.d.cn, .slice a.d.at_ x.d.k.PO.length a.d.ct, .bool x.d.k.isT, .bool false, .slice a.d.ax x.d.taken.length a.d.cx, .int .i64 x.steps]
structure RDr (R : Mem) (a : X1) (d : iD) : Prop where
 ou : RS AV R a.an a.cn d.k.ou
 PO : RS Bu R a.at_ a.ct d.k.PO
 taken : RS Bu R a.ax a.cx d.taken
theorem RDr.le {R R' : Mem} {a : X1} {d : iD} (h : RDr R a d) (hle : R.le R') : RDr R' a d := ⟨h.1.le hle, h.2.le hle, h.3.le hle⟩
structure X3 (R : Mem) (a : RSA) (p : b6) (x : Sc) : Prop where
 w : XZ R a.w p x.w
 ps : ∃ rs, RS PN R a.ap a.cp rs ∧ AP D5 R rs x.ps
 ms : RS fk R a.am a.cm x.ms
 gl : RS bl R a.ag a.cg x.gl
 d : RDr R a.d x.d
theorem X3.le {R R' : Mem} {a : RSA} {p : b6} {x : Sc} (h : X3 R a p x) (hle : R.le R') : X3 R' a p x := by
 obtain ⟨h1, ⟨r2, a2, b2⟩, h3, h4, h5⟩ := h
 exact ⟨h1.le hle, ⟨r2, a2.le hle, b2.le D5.le hle⟩, h3.le hle, h4.le hle, h5.le hle⟩
theorem PR : bg Tryz.prog 82 211 5 56 [.int .i64 0, .slice none 0 0, .int .i64 0, .int .i64 0, .int .i64 0] := bg.mk' (zv := .agg #[.int .i64 0, .slice none 0 0, .int .i64 0, .int .i64 0, .int .i64 0]) (by kernel_rfl) (by kernel_rfl) rfl (by omega)
theorem Xk : bg Tryz.prog 83 212 3 24 [.int .i64 0, .int .i64 0, .int .i64 0] := bg.mk' (zv := .agg #[.int .i64 0, .int .i64 0, .int .i64 0]) (by kernel_rfl) (by kernel_rfl) rfl (by omega)
abbrev Sx (c : Gp) : Value := .agg #[.int .i64 c.P, .int .i64 c.M, .int .i64 c.R, .int .i64 c.S]
abbrev PS (c : Gp) : List Value := [.int .i64 c.P, .int .i64 c.M, .int .i64 c.R, .int .i64 c.S]
section
variable {R : Mem} {L L' : List HP} {M : Mem} {K : Value → Mem → Prop} {Kp : List PanicEntry → Mem → Prop} {pa : PA} {p : b6}
abbrev PT : List Value := [.int .i64 0, .int .i64 0, .int .i64 0, .int .i64 0, .slice none 0 0, .slice none 0 0, .int .i64 0, .slice none 0 0, .slice none 0 0, .int .u64 0, .slice none 0 0, .slice none 0 0, .slice none 0 0, .int .u64 0, .slice none 0 0, .int .i64 0, .int .i64 0, .slice none 0 0, .slice none 0 0, .slice none 0 0, .slice none 0 0, .slice none 0 0, .slice none 0 0, .bool false, .bool false, .slice none 0 0, .int .i64 0]
abbrev rs0 (a : RWA) (p : b6) (c : Gp) (d : X1) (ds : iD) (g : Nat) (A : Option Addr) (n e : Nat) (B : Option Addr) (m f : Nat) : List Value :=
 [.int .i64 c.P, .int .i64 c.M, .int .i64 c.R, .int .i64 c.S, .slice a.pa.f p.funcs.length a.pa.fc, .slice a.pa.c p.dI.length a.pa.cc, .int .i64 p.aL, .slice a.pa.k p.cases.length a.pa.kc, .slice a.ag (Wd.new p).gs.length a.cg, .int .u64 (Wd.new p).clock, .slice a.ac (Wd.new p).aE.length a.cc, .slice a.al (Wd.new p).aL.length a.cl, .slice a.ah (Wd.new p).hl.length a.ch, .int .u64 (Wd.new p).lp, .slice a.ao (Wd.new p).out.length a.co, .int .i64 (Wd.new p).end_, .int .i64 (Wd.new p).code, .slice a.ar (Wd.new p).ready.length a.cr,
  .slice A n e, .slice B m f, .slice (some ⟨g, 0, none⟩) 1 1, .slice d.an ds.k.ou.length d.cn, .slice d.at_ ds.k.PO.length d.ct, .bool ds.k.isT, .bool false, .slice d.ax ds.taken.length d.cx, .int .i64 0]
theorem Md {c : Gp} {d : iD} {da : X1} (h : Hp R L M) (hp : kF R pa p) (hc : RS bl R pa.c pa.cc p.dI) (hok : fK p) (hd : RDr R da d) (hP : 0 ≤ c.P ∧ c.P ≤ 1000000) (hM : 0 ≤ c.M ∧ c.M ≤ 1000000)
  (k : ∀ R' a M', R.le R' → X3 R' a p (Sc.new p c d) → Hp R' L M' → K (.agg (rsL a p (Sc.new p c d)).toArray) M') :
  aa Tryz.prog 63 #[D2 pa p, Sx c, .agg (rdL da d).toArray] M K Kp := by
 refine su ?_
 refine aq h ?_
 clear h
 intro k1 M h
 refine aq h ?_
 clear h
 intro k3 M h
 refine aq h ?_
 clear h
 intro k5 M h
 refine aq h ?_
 clear h
 intro k7 M h
 repeat (first | (refine BV h rfl ?_) | (refine y4 h rfl rfl rfl ?_; clear h; intro M h) | (refine And.intro (gC h rfl) ?_) | (refine aq h ?_; clear h; intro kb M h) | (refine av h ?_; clear h; intro M h) | refine St.to h ?_ | (apply Exists.intro; (repeat apply Exists.intro); refine And.intro rfl ?_) | (refine And.intro ?_ ?_; first | exact rfl | ((repeat (refine ay (aA h) ?_)); exact ae) | omega) | refine ai ?_ | refine aj ?_)
 refine Mc h hp hc hok ?_
 clear h; intro R1 a M l1 hpa hw h
 refine ⟨_, _, _, _, _, _, _, _, _, _, _, _, _, _, rfl, gC h rfl, gC h rfl, ?_⟩
 refine aq h ?_
 clear h
 intro y8 M h
 obtain ⟨R2, l2, rg, h2⟩ := ((h.pt y8).gU (E := bl) (l := [0]) rfl).dg (some ⟨y8, 0, none⟩)
 clear h
 refine aq h2 ?_
 clear h2; intro jX M h
 refine y4 h rfl rfl rfl ?_
 clear h; intro M h
 refine ⟨gC h rfl, gC h rfl, ?_⟩
 obtain ⟨nP, eP⟩ := Int.eq_ofNat_of_zero_le hP.1
 obtain ⟨nM, eM⟩ := Int.eq_ofNat_of_zero_le hM.1
 have l12 := Mem.le_trans l1 l2
 have h0 : Hp R2 (bD PN 211 none 0 [] :: pt jX (rs0 a p c da d y8 none 0 0 none 0 0) 88 :: pt k3 (PS c) 23 :: pt k7 PT 88 :: L) M := by
  rw [← hpa] at h
  exact (h.bX PN _).sub bz
 clear h
 have pr0 : ∀ (R : Mem), D5 R ⟨-1, none, 0, 0, (eZ c.R : Nat), 0, -1⟩ ⟨⟨-1, eZ c.R, []⟩, 0, -1⟩ := fun R => ⟨rfl, rfl, RS.nil _ _, rfl, rfl, rfl⟩
 refine ⟨fun dd vs M => ∃ (j : Nat) (A : Option Addr) (e : Nat) (rs : List RPr), vs = [.int .i64 (j : Int)] ∧ dd = nP - j ∧ j ≤ nP ∧ AP D5 R2 rs (List.replicate j ⟨⟨-1, eZ c.R, []⟩, 0, -1⟩) ∧
  Hp R2 (bD PN 211 A e rs :: pt jX (rs0 a p c da d y8 A j e none 0 0) 88 :: pt k3 (PS c) 23 :: pt k7 PT 88 :: L) M,
  ⟨_, 0, none, 0, [], rfl, rfl, by omega, AP.nil _ _, h0⟩, ?_⟩
 clear h0
 rintro dd _ nn M ⟨j, A, e, rs, he, Qe, hj, kN, h⟩
 simp only [List.cons.injEq, Value.int.injEq, and_true, true_and] at he
 subst he
 have hlen : rs.length = j := by rw [kN.1, List.length_replicate]
 refine aH h (aP.2 ⟨fun hlt => ?_, fun hge => ?_⟩)
 ·refine ⟨fun vs M => vs = [] ∧ ∃ (A : Option Addr) (e : Nat) (Sw : List RPr), AP D5 R2 Sw (List.replicate (j + 1) ⟨⟨-1, eZ c.R, []⟩, 0, -1⟩) ∧
   Hp R2 (bD PN 211 A e Sw :: pt jX (rs0 a p c da d y8 A (j + 1) e none 0 0) 88 :: pt k3 (PS c) 23 :: pt k7 PT 88 :: L) M, ?_, ?_⟩
  ·rw [List.replicate_succ']
   refine aH h ⟨?_, ?_, trivial⟩
   ·refine aQ h ?_
    refine Cu h ?_
    clear h; intro M h
    refine ⟨_, _, _, _, _, rfl, ?_⟩
    refine aq h ?_
    clear h
    intro kz M h
    refine h.dx (A := A) PR [⟨-1, none, 0, 0, (eZ c.R : Nat), 0, -1⟩] rfl hlen.symm rfl (by simp; omega) ?_
    clear h; intro A3 c3 M h
    refine aT ?_
    refine av h ?_
    clear h
    intro M h
    exact ⟨rfl, A3, c3, _, kN.snoc (pr0 _), h.sub bz⟩
   ·refine Cu h ?_
    clear h; intro M h
    refine ⟨_, _, _, _, _, rfl, aQ h ?_⟩
    refine aq h ?_
    clear h
    intro kz M h
    refine h.dx (A := A) PR [⟨-1, none, 0, 0, (eZ c.R : Nat), 0, -1⟩] rfl hlen.symm rfl (by simp; omega) ?_
    clear h; intro A3 c3 M h
    refine aT ?_
    refine av h ?_
    clear h
    intro M h
    exact ⟨rfl, A3, c3, _, kN.snoc (pr0 _), h.sub bz⟩
  ·clear h
   rintro nn M ⟨_, B', d', Sw, Xi, h⟩
   exact ⟨nP - (j + 1), by omega, j + 1, B', d', Sw, by rw [aU (by omega)], rfl, by omega, Xi, h⟩
 ·have yj : j = nP := by omega
  subst yj
  obtain ⟨R3, l3, r3, h3⟩ := h.dg A
  clear h
  have h0 : Hp R3 (bD fk 212 none 0 [] :: pt jX (rs0 a p c da d y8 A j e none 0 0) 88 :: pt k3 (PS c) 23 :: pt k7 PT 88 :: L) M := h3.bX fk _
  clear h3
  refine ⟨fun dd vs M => ∃ (i : Nat) (B : Option Addr) (f : Nat), vs = [.int .i64 (i : Int)] ∧ dd = nM - i ∧ i ≤ nM ∧
   Hp R3 (bD fk 212 B f (List.replicate i ⟨-1, -1, 0⟩) :: pt jX (rs0 a p c da d y8 A j e B i f) 88 :: pt k3 (PS c) 23 :: pt k7 PT 88 :: L) M,
   ⟨_, 0, none, 0, rfl, rfl, by omega, h0⟩, ?_⟩
  clear h0
  rintro dd _ nn M ⟨i, B, f, he, hd3, hi, h⟩
  simp only [List.cons.injEq, Value.int.injEq, and_true, true_and] at he
  subst he
  refine aH h (aP.2 ⟨fun hlt => ?_, fun Sd => ?_⟩)
  ·refine aQ h ?_
   refine aq h ?_
   clear h
   intro kz M h
   refine h.dx (A := B) Xk [⟨-1, -1, 0⟩] rfl (by simp) rfl (by simp; omega) ?_
   clear h; intro A3 c3 M h
   refine aT ?_
   refine av h ?_
   clear h
   intro M h
   refine ⟨nM - (i + 1), by omega, i + 1, A3, c3, by rw [aU (by omega)], rfl, by omega, ?_⟩
   rw [List.replicate_succ']
   exact h.sub bz
  ·have hil : i = nM := by omega
   subst hil
   obtain ⟨R4, l4, r4, h4⟩ := h.dg B
   clear h
   refine BV h4 rfl ?_
   refine y4 h4 rfl rfl rfl ?_
   clear h4; intro M h
   refine BV h rfl ?_
   have Xj := Mem.le_trans l3 l4
   have l24 := Mem.le_trans l2 Xj
   have X0 := Mem.le_trans l1 l24
   have hs : X3 R4 ⟨a, A, e, B, f, some ⟨y8, 0, none⟩, 1, da⟩ p (Sc.new p c d) := by
    refine ⟨hw.le l24, ⟨rs, r3.le l4, ?_⟩, ?_, rg.le Xj, hd.le X0⟩
    ·have := kN.le D5.le Xj
     unfold Sc.new
     rwa [eP, Int.toNat_natCast]
    ·unfold Sc.new
     rw [eM, Int.toNat_natCast]
     exact r4
   have hk := fun M' => k R4 _ M' X0 hs
   have e1 : (Sc.new p c d).ps.length = j := by simp [Sc.new, eP]
   have e2 : (Sc.new p c d).ms.length = i := by simp [Sc.new, eM]
   simp only [rsL, e1, e2] at hk
   exact hk _ (h.sub bz)
end
end Go.Proofs
namespace Go.Proofs
open Go.AF
set_option maxRecDepth 100000
set_option maxHeartbeats 1000000
attribute [local irreducible] aK cJ fJ bO aD fz aG aO be aS bJ aV
def Qg : b6 := ⟨[[⟨20, 0, 0, 0⟩, ⟨10, 0, 0, 0⟩]], [], 0, []⟩
def evOf : Option (Sc × lF) → Option (Sc × Ev)
 | some (x, .ev e) => some (x, e)
 | _ => none
def x18 : Sc := Sc.new Qg ⟨1, 1, 2, 9⟩ ⟨.vB [0, 0, 0, 0] 0, []⟩
def Sy (x : Sc) : Sc × Ev := (evOf (x.step Qg)).getD (x, ⟨0, 0, 0, []⟩)
def a18 : Sc × Ev := Sy x18
def X4 : Sc × Ev := Sy a18.1
def c18 : Sc × Ev := Sy X4.1
def d18 : Sc × Ev := Sy c18.1
theorem Xl : x18.step Qg = some (a18.1, .ev a18.2) := by kernel_rfl
theorem Xm : a18.1.step Qg = some (X4.1, .ev X4.2) := by kernel_rfl
theorem Xn : X4.1.step Qg = some (c18.1, .ev c18.2) := by kernel_rfl
theorem Xo : c18.1.step Qg = some (d18.1, .ev d18.2) := by kernel_rfl
theorem en : x18.d.k.Ok := ⟨by decide, by decide, fun v hv => by simp at hv; subst hv; decide⟩
def cfgCheck (c : Gp) : Int := if c.P < 1 ∨ c.P > 64 ∨ c.M < 1 ∨ c.M > 64 ∨ c.R < 2 ∨ c.R > 1024 ∨ c.S < 1 ∨ c.S > 1024 then 4 else 0
def cj (c : Gp) : Gp :=
 let q := fun (x m : Int) => Int.tmod (IntKind.wrap .i64 (((Nat.bitwise and (BitVec.ofInt IntKind.i64.bits x).toNat (BitVec.ofInt IntKind.i64.bits 255).toNat) : Nat) : Int)) m
 ⟨1 + q c.P 5, 1 + q c.M 5, 2 + q c.R 5, 1 + q c.S 12⟩
theorem yF (x : Int) {m : Int} {n : Nat} (e : m = (n : Int)) (hm : 0 < n) : 0 ≤ Int.tmod (IntKind.wrap .i64 (((Nat.bitwise and (BitVec.ofInt IntKind.i64.bits x).toNat (BitVec.ofInt IntKind.i64.bits 255).toNat) : Nat) : Int)) m ∧ Int.tmod (IntKind.wrap .i64 (((Nat.bitwise and (BitVec.ofInt IntKind.i64.bits x).toNat (BitVec.ofInt IntKind.i64.bits 255).toNat) : Nat) : Int)) m < m := by
 obtain ⟨q, hq, _⟩ := mask (x := x) (y := 255) (m := 255) rfl (by omega)
 rw [hq, e, Go.AF.mS]
 have := Nat.mod_lt q hm
 omega
theorem AD (c : Gp) : 1 ≤ (cj c).P ∧ (cj c).P ≤ 5 ∧ 1 ≤ (cj c).M ∧ (cj c).M ≤ 5 ∧ 2 ≤ (cj c).R ∧ (cj c).R ≤ 6 ∧ 1 ≤ (cj c).S ∧ (cj c).S ≤ 12 := by
 have a := yF c.P (m := 5) (n := 5) rfl (by omega)
 have b := yF c.M (m := 5) (n := 5) rfl (by omega)
 have d := yF c.R (m := 5) (n := 5) rfl (by omega)
 have e := yF c.S (m := 12) (n := 12) rfl (by omega)
 unfold cj
 dsimp only
 refine ⟨by omega, ?_, by omega, ?_, by omega, ?_, by omega, ?_⟩ <;> omega
section
variable {R : Mem} {L L' : List HP} {M : Mem} {K : Value → Mem → Prop} {Kp : List PanicEntry → Mem → Prop}
theorem mu {x m : Int} {n : Nat} (hm : m = (n : Int)) (hn : 0 < n) (k : K (.int .i64 (Int.tmod (IntKind.wrap .i64 (((Nat.bitwise and (BitVec.ofInt IntKind.i64.bits x).toNat (BitVec.ofInt IntKind.i64.bits 255).toNat) : Nat) : Int)) m)) M) : aa Tryz.prog 51 #[.int .i64 x, .int .i64 m] M K Kp := by
 refine oe ⟨by omega, k⟩
theorem IN {c : Gp} (h : Hp R L M) (k : ∀ M', Hp R L M' → K (.agg #[.int .i64 (cj c).P, .int .i64 (cj c).M, .int .i64 (cj c).R, .int .i64 (cj c).S]) M') : aa Tryz.prog 15 #[.agg #[.int .i64 c.P, .int .i64 c.M, .int .i64 c.R, .int .i64 c.S]] M K Kp := by
 refine qj ?_
 refine aq h ?_
 clear h; intro k1 M h
 refine aq h ?_
 clear h; intro k3 M h
 refine aH h (aH h (aH h (aH h ?_)))
 refine mu (n := 5) rfl (by omega) (ck ⟨aA h, aA h, aA h, ?_⟩)
 refine mu (n := 5) rfl (by omega) (ck ⟨aA h, aA h, aA h, ?_⟩)
 refine mu (n := 5) rfl (by omega) (ck ⟨aA h, aA h, aA h, ?_⟩)
 refine mu (n := 12) rfl (by omega) (ck ⟨aA h, aA h, aA h, ?_⟩)
 have ok := AD c
 have e1 : IntKind.wrap .i64 (1 + Int.tmod (IntKind.wrap .i64 (((Nat.bitwise and (BitVec.ofInt IntKind.i64.bits c.P).toNat (BitVec.ofInt IntKind.i64.bits 255).toNat) : Nat) : Int)) 5) = (cj c).P := cY (z := (cj c).P) (by omega) (by omega)
 have e2 : IntKind.wrap .i64 (1 + Int.tmod (IntKind.wrap .i64 (((Nat.bitwise and (BitVec.ofInt IntKind.i64.bits c.M).toNat (BitVec.ofInt IntKind.i64.bits 255).toNat) : Nat) : Int)) 5) = (cj c).M := cY (z := (cj c).M) (by omega) (by omega)
 have e3 : IntKind.wrap .i64 (2 + Int.tmod (IntKind.wrap .i64 (((Nat.bitwise and (BitVec.ofInt IntKind.i64.bits c.R).toNat (BitVec.ofInt IntKind.i64.bits 255).toNat) : Nat) : Int)) 5) = (cj c).R := cY (z := (cj c).R) (by omega) (by omega)
 have e4 : IntKind.wrap .i64 (1 + Int.tmod (IntKind.wrap .i64 (((Nat.bitwise and (BitVec.ofInt IntKind.i64.bits c.S).toNat (BitVec.ofInt IntKind.i64.bits 255).toNat) : Nat) : Int)) 12) = (cj c).S := cY (z := (cj c).S) (by omega) (by omega)
 rw [e1, e2, e3, e4]
 refine av h ?_
 clear h; intro M h
 refine av h ?_
 clear h; intro M h
 refine av h ?_
 clear h; intro M h
 refine av h ?_
 clear h; intro M h
 refine ⟨aA h, aA h, aA h, aH h (aH h (aH h (aH h ?_)))⟩
 exact k _ (h.sub bz)
theorem vp {pa : PA} {p : b6} {b wb db : Nat} {x y : Sc} {e : Ev} (h : Hp R L M) [q : lE b L pa p wb db x L'] (hp : kF R pa p) (hd : x.d.k.Ok) (he : x.step p = some (y, .ev e))
  (k : ∀ R' A c M', R.le R' → RS bl R' A c e.ready → y.d.k.Ok → Hp R' (aB (dD pa p wb db) b y :: L') M' → K (IA e A c) M') : aa Tryz.prog 50 #[.pointer (some ⟨b, 0, none⟩)] M K Kp :=
 Av h hp hd he (fun R' A c M' h1 h2 h3 => k R' A c M' h1 h2 (vn hd he) h3)
theorem F8 (h : Hp R L M) (k : ∀ R' M', R.le R' → Hp R' L M' → K (.bool true) M') : aa Tryz.prog 12 #[] M K Kp := by
 refine pe ?_
 refine aq h ?_
 clear h; intro k1 M h
 refine aq h ?_
 clear h; intro k3 M h
 have h1 := (h.pt k1).gU (E := jm) (l := [⟨20, 0, 0, 0⟩, ⟨10, 0, 0, 0⟩]) rfl
 obtain ⟨R1, hle1, yB, h2⟩ := h1.dg (some ⟨k1, 0, none⟩)
 have h3 := h2.gU (E := yz) (l := [(some ⟨k1, 0, none⟩, 2, 2)]) rfl
 obtain ⟨R2, wS, RB, h4⟩ := h3.dg (some ⟨k3, 0, none⟩)
 clear h h1 h2 h3
 have hp : kF R2 ⟨some ⟨k3, 0, none⟩, 1, none, 0, none, 0⟩ Qg := ⟨⟨_, RB, rfl, fun i t f a b => by
  match i, a, b with
  | 0, a, b => simp at a; cases b; subst a; exact ⟨yB.le wS, rfl⟩
  | i + 1, a, b => simp at a⟩, RS.nil _ _⟩
 have hle : R.le R2 := Mem.le_trans hle1 wS
 refine aq h4 ?_
 clear h4; intro k5 M h
 refine av h ?_
 clear h; intro M h
 refine av h ?_
 clear h; intro M h
 refine av h ?_
 clear h; intro M h
 refine av h ?_
 clear h; intro M h
 refine aQ h (aQ h (aH h (aQ h ?_)))
 refine aq h ?_
 clear h; intro fC M h
 replace h := (h.pt fC).gU (E := AV) (l := [0, 0, 0, 0]) rfl
 refine sK (l := [0, 0, 0, 0]) h (Src.row (A := some ⟨fC, 0, none⟩)) rfl (by decide) ?_
 clear h; intro db M h
 refine g8 ⟨ay (aA h) (ay (aA h) (ay (aA h) (ay (aA h) ae))), ?_⟩
 refine wT (p := Qg) (pa := ⟨some ⟨k3, 0, none⟩, 1, none, 0, none, 0⟩) (c := ⟨1, 1, 2, 9⟩) h (RS.nil _ _) (by decide) (by decide) (by decide) (by decide) ?_
 clear h; intro b wb M h
 refine g8 ⟨ay (aA h) (ay (aA h) (ay (aA h) (ay (aA h) ae))), aj ?_⟩
 refine vp h hp en Xl ?_
 clear h; intro R3 A1 c1 M l3 r1 PU h
 refine ⟨_, _, _, _, _, _, rfl, ?_⟩
 refine vp h (hp.le l3) PU Xm ?_
 clear h PU; intro R4 A2 c2 M l4 r2 PU h
 refine ⟨_, _, _, _, _, _, rfl, ?_⟩
 refine vp h (hp.le (Mem.le_trans l3 l4)) PU Xn ?_
 clear h PU; intro R5 A3 c3 M l5 r3 PU h
 refine ⟨_, _, _, _, _, _, rfl, ?_⟩
 refine aq h ?_
 clear h; intro jy M h
 refine aq h ?_
 clear h; intro AM M h
 refine aq h ?_
 clear h; intro sG M h
 refine jS h ?_
 clear h; intro M h
 refine jS h ?_
 clear h; intro M h
 refine jS h ?_
 clear h; intro M h
 refine vp h (hp.le (Mem.le_trans l3 (Mem.le_trans l4 l5))) PU Xo ?_
 clear h PU; intro R6 A4 c4 M l6 r4 PU h
 refine ⟨_, _, _, _, _, _, rfl, ?_⟩
 refine aH h ?_
 rw [show a18.2.kind = 2 from by kernel_rfl]
 refine ai (aH h ?_)
 rw [show X4.2.kind = 4 from by kernel_rfl]
 refine ai (aH h ?_)
 rw [show X4.2.g = 0 from by kernel_rfl]
 refine ai (aH h ?_)
 rw [show c18.2.kind = 7 from by kernel_rfl]
 refine ai ?_
 refine iW h (by rw [show d18.1.w.gs.length = 1 from by kernel_rfl]; decide) ?_
 rw [show d18.1.status = 1 from by kernel_rfl]
 refine ck (ai ?_)
 refine qB h ?_
 rw [show d18.1.steps = 4 from by kernel_rfl]
 exact ck (k R6 _ (Mem.le_trans hle (Mem.le_trans l3 (Mem.le_trans l4 (Mem.le_trans l5 l6)))) (h.sub bz))
end
end Go.Proofs
namespace Go.Proofs
open Go.AF
set_option maxRecDepth 100000
set_option maxHeartbeats 1000000
attribute [local irreducible] aK cJ fJ bO aD fz aG aO be aS bJ aV
attribute [local irreducible] IT Kc
def qG (p : b6) (c : Gp) (l : List Int) : Sc := Sc.new (eS p) c ⟨.vB l 0, []⟩
section
variable {R : Mem} {L L' : List HP} {M : Mem} {K : Value → Mem → Prop} {Kp : List PanicEntry → Mem → Prop} {pa : PA} {p : b6}
theorem IP {c : Gp} {B : Option Addr} {m cb : Nat} {l : List Int} (h : Hp R L M) (ha : tQ R pa p) (hP : 0 ≤ c.P ∧ c.P ≤ 1000000) (hM : 0 ≤ c.M ∧ c.M ≤ 1000000) (hB : RS AV R B cb l) (hm : m = l.length) (hl : l.length ≤ 1000000000)
  (k : ∀ R' a D3 b wb db M', R.le R' → kF R' D3 (eS p) → X3 R' a (eS p) (qG p c l) → Hp R' (aB (dD D3 (eS p) wb db) b (qG p c l) :: L) M' → K (.tuple #[.pointer (some ⟨b, 0, none⟩), .agg (rsL a (eS p) (qG p c l)).toArray, .pointer (some ⟨db, 0, none⟩)]) M') :
  aa Tryz.prog 27 #[D2 pa p, Sx c, .slice B m cb] M K Kp := by
 refine qk ?_
 subst hm
 have hok := CT p
 refine aq h ?_
 clear h
 intro k1 M h
 refine aq h ?_
 clear h
 intro k3 M h
 refine aq h ?_
 clear h
 intro k5 M h
 refine aQ h (aQ h (aH h (aQ h ?_)))
 refine PK h ha ?_
 clear h; intro R1 p1 M l1 Rt Px h
 refine ⟨_, _, _, _, _, _, _, _, _, _, rfl, ?_⟩
 refine aq h ?_
 clear h
 intro kB M h
 repeat (refine av h ?_; clear h; intro M h)
 refine sK (l := l) h (hB.le l1).src rfl hl ?_
 clear h; intro db M h
 refine g8 (aQ h (aQ h (aH h (aQ h (aH h (aH h (aH h (aH h (aQ h (aQ h (aH h (aQ h (aH h (aH h (aH h (aH h ?_))))))))))))))))
 refine J4 h Rt Px hok (by have := rh p; simp [eS]; omega) ?_
 clear h; intro R2 p2 M l2 WI xS h
 refine ⟨_, _, _, _, _, _, _, _, _, _, rfl, gC h rfl, gC h rfl, gC h rfl, ?_⟩
 refine wT (p := eS p) (pa := p2) (c := c) h xS (by have := hok.ch; omega) (by have := hok.lk; omega) hP hM ?_
 clear h; intro b wb M h
 refine g8 ⟨gC h rfl, gC h rfl, gC h rfl, ?_⟩
 refine Md (c := c) (d := ⟨.vB l 0, []⟩) (da := ⟨B, cb, none, 0, none, 0⟩) h (Rt.le l2) (Px.le l2) hok ⟨by simpa [fy.ou] using hB.le (Mem.le_trans l1 l2), RS.nil _ _, RS.nil _ _⟩ hP hM ?_
 clear h; intro R3 a M l3 hs h
 refine ⟨_, rfl, rfl, gC h rfl, gC h rfl, gC h rfl, ?_⟩
 refine y4 h rfl rfl rfl ?_
 clear h; intro M h
 refine ⟨gC h rfl, gC h rfl, gC h rfl, ?_⟩
 refine BV h rfl ?_
 exact k R3 a p2 b wb db M (Mem.le_trans l1 (Mem.le_trans l2 l3)) (WI.le l3) hs (h.sub bz)
end
end Go.Proofs
namespace Go.Proofs
open Go.AF
set_option maxRecDepth 100000
set_option maxHeartbeats 1000000
attribute [local irreducible] aK cJ fJ bO aD fz aG aO be aS bJ aV
def Sz : gp (Int × (Option Addr × Nat × Nat) × Int × Int) := ⟨4, fun t => [.int .i64 t.1, .slice t.2.1.1 t.2.1.2.1 t.2.1.2.2, .int .i64 t.2.2.1, .int .i64 t.2.2.2], fun _ => rfl, fun w v hv => by
 simp only [List.mem_cons, List.not_mem_nil, or_false] at hv; obtain rfl | rfl | rfl | rfl := hv <;> rfl⟩
def View (R : Mem) (v : Int × (Option Addr × Nat × Nat) × Int × Int) (pr : cX) : Prop := v.1 = pr.q.next ∧ v.2.1.2.1 = pr.q.l.length ∧ RS bl R v.2.1.1 v.2.1.2.2 pr.q.l ∧ v.2.2.1 = pr.turns ∧ v.2.2.2 = pr.gH
def vq (R : Mem) (vs : List (Int × (Option Addr × Nat × Nat) × Int × Int)) (ps : List cX) : Prop := vs.length = ps.length ∧ ∀ (i : Nat) v pr, vs[i]? = some v → ps[i]? = some pr → View R v pr
theorem View.le {R R' : Mem} {v : Int × (Option Addr × Nat × Nat) × Int × Int} {pr : cX} (h : View R v pr) (hle : R.le R') : View R' v pr := ⟨h.1, h.2.1, h.2.2.1.le hle, h.2.2.2⟩
theorem vq.le {R R' : Mem} {vs : List (Int × (Option Addr × Nat × Nat) × Int × Int)} {ps : List cX} (h : vq R vs ps) (hle : R.le R') : vq R' vs ps := ⟨h.1, fun i v pr a b => (h.2 i v pr a b).le hle⟩
theorem vq.snoc {R : Mem} {vs : List (Int × (Option Addr × Nat × Nat) × Int × Int)} {ps : List cX} {n : Nat} {v : Int × (Option Addr × Nat × Nat) × Int × Int} {pr : cX} (h : vq R vs (ps.take n)) (hp : ps[n]? = some pr) (hv : View R v pr) : vq R (vs ++ [v]) (ps.take (n + 1)) := by
 obtain ⟨h1, h2⟩ := h
 rw [cC hp]
 refine ⟨by simp [h1], fun i w q a b => ?_⟩
 rcases Nat.lt_trichotomy i vs.length with hi | hi | hi
 ·rw [List.getElem?_append_left hi] at a
  rw [List.getElem?_append_left (by omega)] at b
  exact h2 i w q a b
 ·subst hi
  rw [List.getElem?_append_right (Nat.le_refl _)] at a
  rw [List.getElem?_append_right (by omega)] at b
  simp at a
  rw [show vs.length - (ps.take n).length = 0 from by omega] at b
  simp at b
  subst a; subst b; exact hv
 ·rw [List.getElem?_eq_none (by simp; omega)] at a; cases a
section
variable {R : Mem} {L L' L2 : List HP} {M : Mem} {K : Value → Mem → Prop} {Kp : List PanicEntry → Mem → Prop} {pa : PA} {p : b6} {b wb db : Nat} {x : Sc} {m i : Int}
theorem nx (h : Hp R L M) [o : lE b L pa p wb db x L'] (hs : x.ps.length ≤ 1000000) (k : ∀ R' A c vs M', R.le R' → vq R' vs x.ps → Hp R' (bD Sz 53 A c vs :: aB (dD pa p wb db) b x :: L') M' → K (.slice A x.ps.length c) M') : aa Tryz.prog 19 #[.pointer (some ⟨b, 0, none⟩)] M K Kp := by
 refine lN ?_
 have h' := ei h (b := b)
 clear h
 obtain ⟨a, hl, h⟩ := h'
 rw [JY h]
 refine aT ?_
 have elp : bg Tryz.prog 50 53 4 48 [.int .i64 0, .slice none 0 0, .int .i64 0, .int .i64 0] := bg.mk' (zv := .agg #[.int .i64 0, .slice none 0 0, .int .i64 0, .int .i64 0]) (by kernel_rfl) (by kernel_rfl) rfl (by omega)
 replace h := h.bX Sz 53
 refine ⟨fun dd vs M => ∃ (j : Nat) (A : Option Addr) (c : Nat) (R' : Mem) (us : List (Int × (Option Addr × Nat × Nat) × Int × Int)), vs = [.slice A j c, .int .i64 (j : Int)] ∧ dd = x.ps.length - j ∧ j ≤ x.ps.length ∧ R.le R' ∧ vq R' us (x.ps.take j) ∧ Hp R' (bD Sz 53 A c us :: fR (dM b wb db a x) x.gl :: aB (bG pa p) wb x.w :: aB (cu .nilFunc) db x.d :: dU a x L') M, ⟨_, 0, none, 0, R, [], rfl, rfl, by omega, Mem.le_refl _, ⟨by simp, fun i v pr e => by simp at e⟩, h⟩, ?_⟩
 clear h
 rintro dd _ A n c nn M ⟨j, A', c', R', us, he, hd, hj, hle, hv, h⟩
 simp only [List.cons.injEq, Value.int.injEq, Value.slice.injEq, and_true, true_and] at he
 obtain ⟨⟨rfl, rfl, rfl⟩, rfl⟩ := he
 have hul : us.length = n := by rw [hv.1, List.length_take]; omega
 refine aP.2 ⟨fun hlt => ?_, fun hge => ?_⟩
 ·obtain ⟨pr, jC⟩ := aR (l := x.ps) (i := n) (by omega)
  obtain ⟨lb, hlb⟩ := aR (l := a.lb) (i := n) (by omega)
  refine ⟨by omega, hlt, ?_⟩
  obtain ⟨q2, ny⟩ := h.bx (A := a.ap) (l := bV a.lb x.ps) (by rw [jR hl]; omega) (by decide)
  have hs0 : Src R' (bD Sz 53 A c us :: fR (dM b wb db a x) x.gl :: aB (bG pa p) wb x.w :: aB (cu .nilFunc) db x.d :: dU a x L') (some ⟨q2, 0, none⟩) (nt.cells (bV a.lb x.ps)) := by
   rw [← ny]; exact Src.row (A := a.ap)
  refine IF ny ?_
  refine R9 (j := n) h hs0 hlb jC (by simp) (by simp) (by simp) ?_
  clear hs0
  refine aq h ?_
  clear h; intro en M h
  refine av h ?_
  clear h; intro M h
  refine av h ?_
  clear h; intro M h
  refine av h ?_
  clear h; intro M h
  refine um h (um h (aH h (aH h ?_)))
  have hq : (x.ps.map cX.q)[n]? = some pr.q := by rw [List.getElem?_map, jC]; rfl
  unfold dU at h
  replace h := h.dn bN hlb hq
  refine zV h ?_
  refine ck ⟨aA h, aA h, aA h, ?_⟩
  refine Ic h ?_
  clear h; intro B cB M h
  refine aT ⟨aA h, aA h, aA h, ?_⟩
  replace h := h.qQ bN lb hlb hq
  obtain ⟨R2, wS, kN, h2⟩ := h.dg B
  clear h
  refine aq h2 ?_
  clear h2; intro sW M h
  refine h.dx (A := A) elp [(pr.q.next, (B, pr.q.l.length, cB), pr.turns, pr.gH)] rfl hul.symm rfl (by simp only [List.length_singleton]; omega) ?_
  clear h; intro A2 c2 M h
  refine aT ⟨aA h, aA h, aA h, ?_⟩
  rw [aU (by omega)]
  have GJ : vq R2 (us ++ [(pr.q.next, (B, pr.q.l.length, cB), pr.turns, pr.gH)]) (x.ps.take (n + 1)) := (hv.le wS).snoc jC ⟨rfl, rfl, kN, rfl, rfl⟩
  refine ⟨x.ps.length - (n + 1), by omega, n + 1, A2, c2, R2, _, rfl, rfl, by omega, Mem.le_trans hle wS, GJ, ?_⟩
  unfold dU
  exact h.sub (by repeat (first | exact .refl | refine .cons (by repeat (first | exact .here | apply de.there)) ?_ | apply Sub.drop))
 ·have yj : n = x.ps.length := by omega
  subst yj
  rw [List.take_length] at hv
  exact k _ _ _ _ _ hle hv ((gh hl (h.sub (by repeat (first | exact .refl | refine .cons (by repeat (first | exact .here | apply de.there)) ?_ | apply Sub.drop)))).swap)
end
theorem vr : Tryz.prog.underlying 168 = some (.map 3 3) := by kernel_rfl
theorem vt : Tryz.prog.underlying 3 = some (.int .i64) := by kernel_rfl
theorem PV : (Tryz.prog.info? 3).map (·.zero) = some (some (.int .i64 0)) := by kernel_rfl
theorem wV : ∃ i, Tryz.prog.info? 3 = some i ∧ i.zero = some (.int .i64 0) := by
 have h := PV
 cases hi : Tryz.prog.info? 3 with
 | none => rw [hi] at h; cases h
 | some i => rw [hi] at h; exact ⟨i, rfl, by simpa using h⟩
section
variable {R : Mem} {L L' L2 : List HP} {M : Mem} {K : Value → Mem → Prop} {Kp : List PanicEntry → Mem → Prop} {pa : PA} {p : b6} {b wb db N : Nat} {x : Sc}
theorem D6 {r : Nat} {l : AL} {seen : List Int} {v : Int} {G : Mem → Prop} (h : Hp R L M) [o : Bs r L (dY l) L'] (hc : Ch l seen) (hs : seen.length ≤ 1000000000)
  (k : ∀ l' M', Ch l' (seen ++ [v]) → Hp R (ob r (dY l') :: L') M' → G M') :
  aS Tryz.prog (Go.Instr.lookup 168 (.map (some r)) (.int .i64 v) false) M (fun Te lW => aK (some Te) .i64 fun E7 =>
    bJ Tryz.prog (Go.Instr.mapUpdate 168 (.map (some r)) (.int .i64 v) (.int .i64 (IntKind.wrap .i64 (E7 + 1)))) lW G Kp) Kp := by
 obtain ⟨ti, OY, Qd⟩ := wV
 refine uT h vr vt OY Qd ?_
 rw [hc.get]
 refine ck ?_
 have Qc : seen.count v ≤ seen.length := List.count_le_length
 rw [aU (by omega)]
 exact lY h vr vt fun M' h' => k _ M' (hc.step v) h'
theorem PW {r : Nat} {l : AL} {seen : List Int} {v : Int} {G : Int → Mem → Prop} (h : Hp R L M) [o : Bs r L (dY l) L'] (hc : Ch l seen) (k : G (seen.count v : Int) M) :
  aS Tryz.prog (Go.Instr.lookup 168 (.map (some r)) (.int .i64 v) false) M (fun Te lW => aK (some Te) .i64 fun E7 => G E7 lW) Kp := by
 obtain ⟨ti, OY, Qd⟩ := wV
 refine uT h vr vt OY Qd ?_
 rw [hc.get]
 exact ck k
def Loc.rev (x : Loc) : List Int := x.l ++ (if x.next = -1 then [] else [x.next])
theorem Me (x : Loc) (a : Int) : x.rev.count a = x.all.count a := by unfold Loc.rev Loc.all; rw [List.count_append, List.count_append]; omega
theorem AE : ∀ (l : List Loc) (a : Int), (l.flatMap Loc.rev).count a = (l.flatMap Loc.all).count a
 | [], a => rfl
 | x :: l, a => by rw [List.flatMap_cons, List.flatMap_cons, List.count_append, List.count_append, Me, AE l a]
theorem F9 : ∀ (l : List Loc), (∀ q ∈ l, Qf q) → (l.flatMap Loc.rev).length ≤ 1025 * l.length
 | [], _ => by simp
 | x :: l, h => by
  have h1 := h x (by simp)
  have h2 := F9 l fun q hq => h q (by simp [hq])
  have h3 : x.rev.length ≤ x.l.length + 1 := by unfold Loc.rev; split <;> simp
  rw [List.flatMap_cons, List.length_append, List.length_cons]
  have := h1.1; have := h1.2.1
  omega
theorem D7 : ∀ (l : List CG), (l.flatMap fun m => dB m.g).length ≤ l.length
 | [] => by simp
 | x :: l => by
  have h2 := D7 l
  have h3 : (dB x.g).length ≤ 1 := by unfold dB; split <;> simp
  rw [List.flatMap_cons, List.length_append, List.length_cons]; omega
theorem Ga (h : Hp R L M) [q : lE b L pa p wb db x L'] (hv : SV p N x) (k : ∀ R' M', R.le R' → Hp R' (aB (dD pa p wb db) b x :: L') M' → K (.bool true) M') :
  aa Tryz.prog 28 #[.pointer (some ⟨b, 0, none⟩)] M K Kp := by
 refine pg ?_
 obtain ⟨ti, OY, Qd⟩ := wV
 have W4 := hv.PE
 have hP1 := hv.P1
 have hM1 := hv.M1
 have kK : ((x.ps.map cX.q).flatMap Loc.rev).length ≤ 1025 * x.ps.length := by
  have := F9 (x.ps.map cX.q) fun q hq => by obtain ⟨pr, jC, rfl⟩ := List.mem_map.1 hq; exact hv.room pr jC
  simpa using this
 have hgm := D7 x.ms
 replace h := h.pick q.pick
 refine Jb h ?_
 clear h; intro k1 M h
 refine Jb h ?_
 clear h; intro k3 M h
 refine oz (b := b) h (by omega) ?_
 clear h; intro A c M h
 refine aT ?_
 have h0 : Hp R (ob k1 (dY []) :: kD A c x.gl :: ob k3 (dY []) :: aB (dD pa p wb db) b x :: L') M := h.sub bz
 clear h
 refine zO (seen := []) (xs := x.gl) h0 (Src.row (A := A)) rfl Ch.nil (by simp; omega) vr vt OY Qd fun l1 M Px h' => ?_
 clear h0
 rw [List.nil_append] at Px
 refine nx (b := b) h' (by omega) ?_
 clear h'; intro R2 A2 c2 vs M wS hvs h
 refine aT ?_
 have h0 : Hp R2 (ob k1 (dY l1) :: bD Sz 53 A2 c2 vs :: ob k3 (dY []) :: aB (dD pa p wb db) b x :: L') M := h.sub bz
 clear h
 refine ⟨fun dd ws M => ∃ (j : Nat) (l : AL), ws = [.int .i64 (j : Int)] ∧ dd = x.ps.length - j ∧ j ≤ x.ps.length ∧ Ch l (x.gl ++ ((x.ps.map cX.q).take j).flatMap Loc.rev) ∧
  Hp R2 (ob k1 (dY l) :: bD Sz 53 A2 c2 vs :: ob k3 (dY []) :: aB (dD pa p wb db) b x :: L') M, ⟨_, 0, l1, rfl, rfl, by omega, by simpa using Px, h0⟩, ?_⟩
 clear h0 Px
 rintro dd _ nn M ⟨j, l2, he, hd, hj, xS, h⟩
 simp only [List.cons.injEq, Value.int.injEq, and_true, true_and] at he
 subst he
 have Xp : (((x.ps.map cX.q).take j).flatMap Loc.rev).length ≤ ((x.ps.map cX.q).flatMap Loc.rev).length := by
  have e := List.take_append_drop j (x.ps.map cX.q)
  have e2 : ((x.ps.map cX.q).flatMap Loc.rev).length = (((x.ps.map cX.q).take j).flatMap Loc.rev).length + (((x.ps.map cX.q).drop j).flatMap Loc.rev).length := by
   rw [← List.length_append, ← List.flatMap_append, e]
  omega
 refine aP.2 ⟨fun hlt => ?_, fun hge => ?_⟩
 ·obtain ⟨v, Uc⟩ := aR (l := vs) (i := j) (by rw [hvs.1]; omega)
  obtain ⟨pr, jC⟩ := aR (l := x.ps) (i := j) (by omega)
  obtain ⟨w1, w2, w3, w4, w5⟩ := hvs.2 j v pr Uc jC
  obtain ⟨b2, P0⟩ := h.bx (A := A2) (l := vs) (by rw [hvs.1]; omega) (by decide)
  subst P0
  refine ⟨by omega, hlt, br ?_⟩
  refine aZ (Src.at (h.src (A := some ⟨b2, 0, none⟩)) h (i := j) (j := 0) Uc rfl (by simp [Sz])) ?_
  refine y3 (Src.at (h.src (A := some ⟨b2, 0, none⟩)) h (i := j) (j := 1) Uc rfl rfl) ?_
  refine aZ (Src.at (h.src (A := some ⟨b2, 0, none⟩)) h (i := j) (j := 2) Uc rfl rfl) ?_
  refine aZ (Src.at (h.src (A := some ⟨b2, 0, none⟩)) h (i := j) (j := 3) Uc rfl rfl) ?_
  refine aq h ?_
  clear h
  intro lU M h
  repeat (refine av h ?_; clear h; intro M h)
  refine aQ h ?_
  have hroom := hv.room pr (List.mem_of_getElem? jC)
  have yB := hroom.1
  have RB := hroom.2.1
  have hq : (x.ps.map cX.q)[j]? = some pr.q := by rw [List.getElem?_map, jC]; rfl
  have e1 : ((x.ps.map cX.q).take (j + 1)).flatMap Loc.rev = ((x.ps.map cX.q).take j).flatMap Loc.rev ++ pr.q.rev := by rw [cC hq, List.flatMap_append]; simp
  have h0 : Hp R2 (ob k1 (dY l2) :: pt lU [.int .i64 v.1, .slice v.2.1.1 v.2.1.2.1 v.2.1.2.2, .int .i64 v.2.2.1, .int .i64 v.2.2.2] 53 :: bD Sz 53 (some ⟨b2, 0, none⟩) c2 vs :: ob k3 (dY []) :: aB (dD pa p wb db) b x :: L') M := h.sub bz
  clear h
  rw [w2]
  refine zO (xs := pr.q.l) h0 w3.src rfl xS (by simp only [List.length_append]; omega) vr vt OY Qd fun l3 M Xq h => ?_
  clear h0
  refine aH h ?_
  rw [w1] at h ⊢
  refine ⟨fun ws M => ws = [] ∧ ∃ l, Ch l (x.gl ++ ((x.ps.map cX.q).take (j + 1)).flatMap Loc.rev) ∧ Hp R2 (ob k1 (dY l) :: bD Sz 53 (some ⟨b2, 0, none⟩) c2 vs :: ob k3 (dY []) :: aB (dD pa p wb db) b x :: L') M, ?_, ?_⟩
  ·rw [e1]
   refine cK.2 ⟨fun hne => ?_, fun heq => ?_⟩
   ·refine aH h ?_
    refine D6 h Xq (by simp only [List.length_append]; omega) ?_
    clear h; intro l4 M X5 h
    refine ⟨rfl, l4, ?_, h.sub bz⟩
    have e : pr.q.rev = pr.q.l ++ [pr.q.next] := by unfold Loc.rev; rw [if_neg hne]
    rw [e]
    simpa only [List.append_assoc] using X5
   ·refine ⟨rfl, l3, ?_, h.sub bz⟩
    have e : pr.q.rev = pr.q.l := by unfold Loc.rev; rw [if_pos heq, List.append_nil]
    rw [e]
    simpa only [List.append_assoc] using Xq
  ·clear h
   rintro nn M ⟨_, l4, X5, h⟩
   exact ⟨x.ps.length - (j + 1), by omega, j + 1, l4, by rw [aU (by omega)], rfl, by omega, X5, h⟩
 have yj : j = x.ps.length := by omega
 subst yj
 rw [List.take_of_length_le (by simp)] at xS
 clear Xp
 refine Aw (b := b) h (by omega) ?_
 clear h; intro A3 c3 M h
 refine aT ?_
 have h0 : Hp R2 (ob k1 (dY l2) :: ob k3 (dY []) :: bD fk 55 A3 c3 x.ms :: aB (dD pa p wb db) b x :: L') M := h.sub bz
 clear h
 refine ⟨fun dd ws M => ∃ (j : Nat) (l l' : AL) (R3 : Mem), ws = [.int .i64 (j : Int)] ∧ dd = x.ms.length - j ∧ j ≤ x.ms.length ∧ R2.le R3 ∧ Ch l (x.gl ++ (x.ps.map cX.q).flatMap Loc.rev ++ (x.ms.take j).flatMap fun m => dB m.g) ∧ Ch l' ((x.ms.take j).flatMap fun m => dB m.p) ∧
  Hp R3 (ob k1 (dY l) :: ob k3 (dY l') :: bD fk 55 A3 c3 x.ms :: aB (dD pa p wb db) b x :: L') M, ⟨_, 0, l2, [], R2, rfl, rfl, by omega, Mem.le_refl _, by simpa using xS, Ch.nil, h0⟩, ?_⟩
 clear h0 xS
 rintro dd _ nn M ⟨j, l3, l4, R3, he, hd, hj, wW, Xq, X5, h⟩
 simp only [List.cons.injEq, Value.int.injEq, and_true, true_and] at he
 subst he
 refine aP.2 ⟨fun hlt => ?_, fun hge => ?_⟩
 ·obtain ⟨m, hm⟩ := aR (l := x.ms) (i := j) (by omega)
  have II := hv.ms m (List.mem_of_getElem? hm)
  obtain ⟨b3, hb3⟩ := h.bx (A := A3) (l := x.ms) (by omega) (by decide)
  subst hb3
  refine ⟨by omega, hlt, br ?_⟩
  refine aZ (Src.at (h.src (A := some ⟨b3, 0, none⟩)) h (i := j) (j := 0) hm rfl (by simp [fk])) ?_
  refine aZ (Src.at (h.src (A := some ⟨b3, 0, none⟩)) h (i := j) (j := 1) hm rfl rfl) ?_
  refine aZ (Src.at (h.src (A := some ⟨b3, 0, none⟩)) h (i := j) (j := 2) hm rfl rfl) ?_
  refine aq h ?_
  clear h
  intro vw M h
  repeat (refine av h ?_; clear h; intro M h)
  refine aH h ?_
  have e1 : (x.ms.take (j + 1)).flatMap (fun m => dB m.g) = (x.ms.take j).flatMap (fun m => dB m.g) ++ dB m.g := by rw [cC hm, List.flatMap_append]; simp
  have e2 : (x.ms.take (j + 1)).flatMap (fun m => dB m.p) = (x.ms.take j).flatMap (fun m => dB m.p) ++ dB m.p := by rw [cC hm, List.flatMap_append]; simp
  have hlg : ((x.ms.take j).flatMap fun m => dB m.g).length ≤ x.ms.length := Nat.le_trans (D7 _) (by rw [List.length_take]; omega)
  refine ⟨fun ws M => ws = [] ∧ ∃ l, Ch l (x.gl ++ (x.ps.map cX.q).flatMap Loc.rev ++ (x.ms.take (j + 1)).flatMap fun m => dB m.g) ∧
   Hp R3 (ob k1 (dY l) :: pt vw [.int .i64 m.p, .int .i64 m.g, .int .i64 m.left] 55 :: ob k3 (dY l4) :: bD fk 55 (some ⟨b3, 0, none⟩) c3 x.ms :: aB (dD pa p wb db) b x :: L') M, ?_, ?_⟩
  ·rw [e1, ← List.append_assoc]
   refine cK.2 ⟨fun hne => ?_, fun heq => ?_⟩
   ·refine aH h ?_
    refine D6 h Xq (by simp only [List.length_append]; omega) ?_
    clear h; intro l5 M hc5 h
    refine ⟨rfl, l5, ?_, h.sub bz⟩
    have : dB m.g = [m.g] := by unfold dB; rw [if_pos (by rcases II with e | e <;> omega)]
    rw [this]; exact hc5
   ·refine ⟨rfl, l3, ?_, h.sub bz⟩
    have : dB m.g = [] := by unfold dB; rw [if_neg (by omega)]
    rw [this, List.append_nil]; exact Xq
  ·clear h
   rintro nn M ⟨_, l5, hc5, h⟩
   refine aH h ?_
   refine aY.2 ⟨fun heq => ?_, fun hne => ?_⟩
   ·rcases II with ⟨_, g1, g2⟩ | g1
    ·refine aH h ?_
     rw [g1]
     refine cK.2 ⟨fun hne => absurd rfl hne, fun _ => ?_⟩
     refine aH h ?_
     rw [g2]
     refine cK.2 ⟨fun hne => absurd rfl hne, fun _ => ?_⟩
     refine ⟨x.ms.length - (j + 1), by omega, j + 1, l5, l4, R3, by rw [aU (by omega)], rfl, by omega, wW, hc5, ?_, h.sub bz⟩
     have : dB m.p = [] := by unfold dB; rw [if_neg (by omega)]
     rw [e2, this, List.append_nil]; exact X5
    ·omega
   ·have WS : 0 ≤ m.p ∧ m.p < x.ps.length := by rcases II with e | e <;> omega
    have hby := hv.gH j m hm hne
    have hnot : ((x.ms.take j).flatMap fun m => dB m.p).count m.p = 0 := by
     refine List.count_eq_zero.2 fun hmem => ?_
     obtain ⟨m', hm', yy⟩ := List.mem_flatMap.1 hmem
     obtain ⟨j', hj'⟩ := List.getElem?_of_mem hm'
     rw [List.getElem?_take] at hj'
     split at hj'
     ·rename_i Yg
      have hp' : m'.p = m.p := by
       unfold dB at yy
       split at yy
       ·exact (List.mem_singleton.1 yy).symm
       ·cases yy
      have := hv.gH j' m' hj' (by omega)
      rw [hp', hby] at this
      omega
     ·cases hj'
    have hg8 : dB m.p = [m.p] := by unfold dB; rw [if_pos WS.1]
    have hlp : ((x.ms.take j).flatMap fun m => dB m.p).length ≤ 1000000 := by
     have : ∀ l : List CG, (l.flatMap fun m => dB m.p).length ≤ l.length := by
      intro l
      induction l with
      | nil => simp
      | cons a l ih =>
       have h3 : (dB a.p).length ≤ 1 := by unfold dB; split <;> simp
       rw [List.flatMap_cons, List.length_append, List.length_cons]; omega
     have h4 := this (x.ms.take j)
     rw [List.length_take] at h4; omega
    refine aH h ?_
    refine D6 h X5 (by omega) ?_
    clear h; intro l6 M hc6 h
    refine aH h ?_
    refine PW h hc6 ?_
    rw [List.count_append, hnot]
    refine aP.2 ⟨fun hgt => absurd hgt (by simp), fun _ => ?_⟩
    refine aH h ?_
    refine nx (b := b) h (by omega) ?_
    clear h; intro R4 A4 c4 us M hle4 Qh h
    refine aT ⟨aA h, WS.1, WS.2, ?_⟩
    obtain ⟨jp, hjp⟩ := Int.eq_ofNat_of_zero_le WS.1
    obtain ⟨u, hu⟩ := aR (l := us) (i := jp) (by rw [Qh.1]; omega)
    obtain ⟨pr, jC⟩ := aR (l := x.ps) (i := jp) (by omega)
    obtain ⟨w1, w2, w3, w4, w5⟩ := Qh.2 jp u pr hu jC
    obtain ⟨b4, hb4⟩ := h.bx (A := A4) (l := us) (by rw [Qh.1]; omega) (by decide)
    subst hb4
    refine br ?_
    rw [hjp, Int.toNat_natCast]
    refine aZ (Src.at (h.src (A := some ⟨b4, 0, none⟩)) h (i := jp) (j := 3) hu rfl rfl) ?_
    rw [w5]
    have hb5 : pr.gH = (j : Int) := by
     have e : aJ x m.p = pr := by simp [aJ, hjp, jC]
     rw [← e]; exact hby
    refine cK.2 ⟨fun hne2 => absurd hb5 hne2, fun _ => ?_⟩
    refine ⟨x.ms.length - (j + 1), by omega, j + 1, l5, l6, R4, by rw [aU (by omega)], rfl, by omega, Mem.le_trans wW hle4, hc5, ?_, h.sub bz⟩
    rw [e2, hg8]; exact hc6
 ·have yj : j = x.ms.length := by omega
  subst yj
  rw [List.take_of_length_le (Nat.le_refl _)] at Xq
  have GI : ∀ a, (x.gl ++ (x.ps.map cX.q).flatMap Loc.rev ++ x.ms.flatMap fun m => dB m.g).count a = lG x a := fun a => by
   unfold lG lO DX
   rw [List.count_append, List.count_append, AE]; omega
  refine qA (b := b) h (g8 ?_)
  have h0 : Hp R3 (aB (dD pa p wb db) b x :: ob k1 (dY l3) :: L') M := h.sub bz
  clear h
  obtain ⟨a, hla, h⟩ := ei h0 (b := b)
  clear h0
  refine Lt h (ck ?_)
  have fe : ∀ M, Hp R3 (fR (dM b wb db a x) x.gl :: aB (bG pa p) wb x.w :: aB (cu .nilFunc) db x.d :: dU a x (ob k1 (dY l3) :: L')) M → K (.bool true) M := fun M h => k R3 M (Mem.le_trans wS wW) ((gh hla h).sub bz)
  have hw := hv.w
  have yf := hw.n2
  refine ⟨fun dd ws M => ∃ g : Nat, ws = [.int .i64 (g : Int)] ∧ dd = x.w.gs.length - g ∧ g ≤ x.w.gs.length ∧ Hp R3 (fR (dM b wb db a x) x.gl :: aB (bG pa p) wb x.w :: aB (cu .nilFunc) db x.d :: dU a x (ob k1 (dY l3) :: L')) M, ⟨_, 0, rfl, rfl, by omega, h⟩, ?_⟩
  clear h
  rintro dd _ nn M ⟨g, he, hd, hg, h⟩
  simp only [List.cons.injEq, Value.int.injEq, and_true, true_and] at he
  subst he
  refine aP.2 ⟨fun hlt => ?_, fun hge => fe M h⟩
  have TB : ∀ M, Hp R3 (fR (dM b wb db a x) x.gl :: aB (bG pa p) wb x.w :: aB (cu .nilFunc) db x.d :: dU a x (ob k1 (dY l3) :: L')) M → ∃ k : Nat, k < dd ∧ ∃ g' : Nat, [Value.int .i64 (IntKind.wrap .i64 ((g : Int) + 1))] = [.int .i64 (g' : Int)] ∧ k = x.w.gs.length - g' ∧ g' ≤ x.w.gs.length ∧ Hp R3 (fR (dM b wb db a x) x.gl :: aB (bG pa p) wb x.w :: aB (cu .nilFunc) db x.d :: dU a x (ob k1 (dY l3) :: L')) M :=
   fun M h => ⟨x.w.gs.length - (g + 1), by omega, g + 1, by rw [aU (by omega)], rfl, by omega, h⟩
  refine u6 h (by omega) (by omega) (ck ?_)
  refine ⟨fun ws M => ws = [.int .i64 (if (au x.w g).st = 1 then 1 else 0)] ∧ Hp R3 (fR (dM b wb db a x) x.gl :: aB (bG pa p) wb x.w :: aB (cu .nilFunc) db x.d :: dU a x (ob k1 (dY l3) :: L')) M, ?_, ?_⟩
  ·exact aY.2 ⟨fun e => ⟨by rw [if_pos e], h⟩, fun e => ⟨by rw [if_neg e], h⟩⟩
  clear h
  rintro nn n2 M ⟨he, h⟩
  simp only [List.cons.injEq, Value.int.injEq, and_true, true_and] at he
  subst he
  refine Cw h ?_
  refine ⟨_, _, rfl, aY.2 ⟨fun e => ?_, fun e => TB M h⟩⟩
  refine PW h Xq ?_
  rw [GI]
  have e2 : ((lG x g : Nat) : Int) = if (au x.w g).st = 1 then 1 else 0 := by
   by_cases hs : (au x.w g).st = 1
   ·rw [if_pos hs, hv.one g ⟨by omega, by omega, hs⟩]; rfl
   ·rw [if_neg hs, hv.zero g fun h => hs h.2.2]; rfl
  exact cK.2 ⟨fun hne => absurd e2 hne, fun _ => TB M h⟩
end
def Mx : List Value := [.int .i64 0, .int .i64 0, .int .i64 0, .int .i64 0, .int .u64 0]
inductive pq : List PanicEntry → Int → List Value → Prop
 | d1 : pq DU 1 Mx
 | d2 : pq (wQ DU) 1 Mx
 | u1 (a q n k x : Int) : pq (XX a q n k x) 2 [.int .i64 a, .int .i64 q, .int .i64 n, .int .i64 k, .int .u64 x]
 | u2 (a q n k x : Int) : pq (wQ (XX a q n k x)) 2 [.int .i64 a, .int .i64 q, .int .i64 n, .int .i64 k, .int .u64 x]
section
variable {R : Mem} {L L' L2 : List HP} {M : Mem} {K : Value → Mem → Prop} {Kp : List PanicEntry → Mem → Prop} {u0 : Value} {S : Mem → List HP → Prop} {D : Mem → List PanicEntry → List HP → Prop}
def J5 (R : Mem) (L : List HP) (u0 : Value) (S : Mem → List HP → Prop) (D : Mem → List PanicEntry → List HP → Prop) : Prop := ∀ (Q : HP) (M : Mem) (K : Value → Mem → Prop) (Kp : List PanicEntry → Mem → Prop), Hp R (Q :: L) M →
 (∀ R' L' M', S R' L' → Hp R' (Q :: L') M' → K (.tuple #[]) M') → (∀ R' l L' M', D R' l L' → Hp R' (Q :: L') M' → Kp l M') → iF Cx u0 [] M K Kp
theorem Bx {b1 b2 : Nat} (h : Hp R (pt b1 [.int .i64 0] 3 :: pt b2 Mx 155 :: L) M) (hc : J5 R L u0 S D) (hd : ∀ R' l L', D R' l L' → ∃ e vs, pq l e vs)
  (k : ∀ R' L' M', S R' L' → Hp R' (pt b1 [.int .i64 0] 3 :: pt b2 Mx 155 :: L') M' → K (.tuple #[]) M')
  (kd : ∀ R' l L' M' e vs, D R' l L' → pq l e vs → Hp R' (pt b1 [.int .i64 e] 3 :: pt b2 vs 155 :: L') M' → K (.tuple #[]) M') :
  aa Tryz.prog 104 #[u0, .pointer (some ⟨b1, 0, none⟩), .pointer (some ⟨b2, 0, none⟩)] M K Kp := by
 refine wA ?_
 refine aq h ?_
 clear h
 intro k1 M h
 refine aq h ?_
 clear h
 intro k3 M h
 refine hc (sep [pt k3 [.pointer (some ⟨b2, 0, none⟩)] _, pt k1 [.pointer (some ⟨b1, 0, none⟩)] _, pt b1 [.int .i64 0] 3, pt b2 Mx 155]) M _ _ (Hp.bk.2 h) ?_ ?_
 ·clear h
  intro R' L' M' hs h
  have h := Hp.bk.1 h
  exact ⟨rfl, Lj (k R' L' M' hs h.drop.drop)⟩
 ·clear h
  intro R' l L' M hs h
  replace h := Hp.bk.1 h
  obtain ⟨e, vs, hg⟩ := hd _ _ _ hs
  have kd' := kd R' l L'
  simp only [List.cons_append, List.nil_append, Mx] at h kd'
  clear kd k hc hd
  cases hg with
  | d1 =>
   refine HQ ?_
   repeat (first | (refine aq h ?_; clear h; intro kb M h) | (refine av h ?_; clear h; intro M h) | refine St.to h ?_ | (apply Exists.intro; (repeat apply Exists.intro); refine And.intro rfl ?_) | (refine And.intro ?_ ?_; first | exact rfl | ((repeat (refine ay (aA h) ?_)); exact ae) | omega) | refine ai ?_ | refine aj ?_)
   exact kd' _ _ _ hs .d1 (h.sub bz)
  | d2 =>
   refine Fk ?_
   repeat (first | (refine aq h ?_; clear h; intro kb M h) | (refine av h ?_; clear h; intro M h) | refine St.to h ?_ | (apply Exists.intro; (repeat apply Exists.intro); refine And.intro rfl ?_) | (refine And.intro ?_ ?_; first | exact rfl | ((repeat (refine ay (aA h) ?_)); exact ae) | omega) | refine ai ?_ | refine aj ?_)
   exact kd' _ _ _ hs .d2 (h.sub bz)
  | u1 a q n k x =>
   refine Br ?_
   repeat (first | (refine aq h ?_; clear h; intro kb M h) | (refine av h ?_; clear h; intro M h) | refine St.to h ?_ | (apply Exists.intro; (repeat apply Exists.intro); refine And.intro rfl ?_) | (refine And.intro ?_ ?_; first | exact rfl | ((repeat (refine ay (aA h) ?_)); exact ae) | omega) | refine ai ?_ | refine aj ?_)
   exact kd' _ _ _ hs (.u1 a q n k x) (h.sub bz)
  | u2 a q n k x =>
   refine zK ?_
   repeat (first | (refine aq h ?_; clear h; intro kb M h) | (refine av h ?_; clear h; intro M h) | refine St.to h ?_ | (apply Exists.intro; (repeat apply Exists.intro); refine And.intro rfl ?_) | (refine And.intro ?_ ?_; first | exact rfl | ((repeat (refine ay (aA h) ?_)); exact ae) | omega) | refine ai ?_ | refine aj ?_)
   exact kd' _ _ _ hs (.u2 a q n k x) (h.sub bz)
theorem pq.shape {l : List PanicEntry} {e : Int} {vs : List Value} (h : pq l e vs) : (e = 1 ∨ e = 2) ∧ ∃ a q n k x : Int, vs = [.int .i64 a, .int .i64 q, .int .i64 n, .int .i64 k, .int .u64 x] := by
 cases h with
 | d1 => exact ⟨.inl rfl, 0, 0, 0, 0, 0, rfl⟩
 | d2 => exact ⟨.inl rfl, 0, 0, 0, 0, 0, rfl⟩
 | u1 a q n k x => exact ⟨.inr rfl, a, q, n, k, x, rfl⟩
 | u2 a q n k x => exact ⟨.inr rfl, a, q, n, k, x, rfl⟩
theorem vu (h : Hp R L M) (hc : J5 R L u0 S D) (hd : ∀ R' l L', D R' l L' → ∃ e vs, pq l e vs)
  (k : ∀ R' L' M', S R' L' → Hp R' L' M' → K (.tuple #[.int .i64 0, .agg #[.int .i64 0, .int .i64 0, .int .i64 0, .int .i64 0, .int .u64 0]]) M')
  (kd : ∀ R' l L' M' e a q n k x, D R' l L' → pq l e [.int .i64 a, .int .i64 q, .int .i64 n, .int .i64 k, .int .u64 x] → Hp R' L' M' → K (.tuple #[.int .i64 e, .agg #[.int .i64 a, .int .i64 q, .int .i64 n, .int .i64 k, .int .u64 x]]) M') :
  aa Tryz.prog 56 #[u0] M K Kp := by
 refine xZ ?_
 refine aq h ?_
 clear h
 intro k1 M h
 refine aq h ?_
 clear h
 intro k3 M h
 refine aq h ?_
 clear h
 intro k5 M h
 repeat (refine av h ?_; clear h; intro M h)
 refine Bx (S := fun R' L2 => ∃ L', S R' L' ∧ L2 = pt k1 Mx 155 :: L') (D := fun R' l L2 => ∃ L', D R' l L' ∧ L2 = pt k1 Mx 155 :: L') (L := pt k1 Mx 155 :: L) (h.sub bz) ?_ ?_ ?_ ?_
 ·intro Q M K Kp h k1' k2
  refine hc (sep [Q, pt k1 Mx 155]) M K Kp (Hp.bk.2 h) ?_ ?_
  ·intro R' L' M' hs h
   exact k1' R' _ M' ⟨L', hs, rfl⟩ (Hp.bk.1 h)
  ·intro R' l L' M' hs h
   exact k2 R' l _ M' ⟨L', hs, rfl⟩ (Hp.bk.1 h)
 ·rintro R' l _ ⟨L', hs, _⟩
  exact hd _ _ _ hs
 ·rintro R' _ M ⟨L', hs, rfl⟩ h
  clear hc hd kd
  simp only [Mx] at h
  refine ⟨rfl, ?_⟩
  repeat (first | (refine aq h ?_; clear h; intro kb M h) | (refine av h ?_; clear h; intro M h) | refine St.to h ?_ | (apply Exists.intro; (repeat apply Exists.intro); refine And.intro rfl ?_) | (refine And.intro ?_ ?_; first | exact rfl | ((repeat (refine ay (aA h) ?_)); exact ae) | omega) | refine ai ?_ | refine aj ?_)
  exact k _ _ _ hs (h.sub bz)
 ·rintro R' l _ M e vs ⟨L', hs, rfl⟩ hg h
  obtain ⟨_, a, q, n, kk, x, rfl⟩ := hg.shape
  clear hc hd k
  simp only [Mx] at h
  refine ⟨rfl, ?_⟩
  repeat (first | (refine aq h ?_; clear h; intro kb M h) | (refine av h ?_; clear h; intro M h) | refine St.to h ?_ | (apply Exists.intro; (repeat apply Exists.intro); refine And.intro rfl ?_) | (refine And.intro ?_ ?_; first | exact rfl | ((repeat (refine ay (aA h) ?_)); exact ae) | omega) | refine ai ?_ | refine aj ?_)
  exact kd _ _ _ _ _ _ _ _ _ _ hs hg (h.sub bz)
theorem Mf {k k' : fy} {kind m : Int} {l : List PanicEntry} (h : k.next kind m = (k', .cO l)) : ∃ e vs, pq l e vs ∧ pq (wQ l) e vs := by
 cases k with
 | vB t i =>
  unfold fy.next at h
  dsimp only at h
  split at h
  ·cases h; exact ⟨_, _, .d1, .d2⟩
  ·cases h
 | tape t i =>
  unfold fy.next at h
  dsimp only at h
  split at h
  ·cases h; exact ⟨_, _, .d1, .d2⟩
  ·split at h
   ·cases h; exact ⟨_, _, .u1 _ _ _ _ _, .u2 _ _ _ _ _⟩
   ·split at h
    ·cases h; exact ⟨_, _, .u1 _ _ _ _ _, .u2 _ _ _ _ _⟩
    ·cases h
theorem wX {x x' : iD} {kind n : Int} {l : List PanicEntry} (h : x.draw kind n = (x', .cO l)) : ∃ e vs, pq l e vs ∧ pq (wQ l) e vs := by
 unfold iD.draw at h
 split at h
 ·cases h
 ·rename_i k' l' hn
  cases h
  exact Mf hn
theorem PX {d d' : iD} {a : Option (Int × Int)} {l : List PanicEntry} (h : bR d a = (d', .cO l)) : ∃ e vs, pq l e vs ∧ pq (wQ l) e vs := by
 cases a with
 | none => cases h
 | some q => exact wX h
theorem SB {z y : Sc} {o : lF} {l : List PanicEntry} (h : DW (z, o) = (y, .cO l)) : o = .cO l := by
 cases o with
 | ev e => cases h
 | cO l' => cases h; rfl
theorem PY {p : b6} {x y : Sc} {l : List PanicEntry} (he : x.step p = some (y, .cO l)) : ∃ e vs, pq l e vs := by
 unfold Sc.step at he
 split at he
 ·split at he
  ·cases he
  ·split at he
   ·rename_i hd
    cases he
    obtain ⟨e, vs, h, _⟩ := wX hd
    exact ⟨e, vs, h⟩
   ·rename_i d' m hd
    simp only [Option.map_eq_some_iff] at he
    obtain ⟨⟨z, o⟩, ha, hi⟩ := he
    have ho := SB hi
    subst ho
    clear hi hd
    unfold Sc.act at ha
    split at ha
    ·split at ha
     ·cases ha
     ·cases ha
    ·split at ha
     ·cases ha
     ·split at ha
      ·split at ha
       ·simp only [Option.some.injEq] at ha
        unfold Sc.find at ha
        dsimp only at ha
        split at ha
        ·cases ha
        ·split at ha
         ·split at ha
          ·rename_i hd
           cases ha
           obtain ⟨e, vs, h, _⟩ := wX hd
           exact ⟨e, vs, h⟩
          ·split at ha <;> cases ha
         ·cases ha
       ·cases ha
      ·unfold Sc.run at ha
       split at ha
       ·split at ha
        ·split at ha
         ·cases ha
         ·rename_i l' w rest hex
          cases ha
          obtain ⟨vA, _⟩ := CL hex
          obtain ⟨e, vs, _, h⟩ := PX (d' := _) (by rw [← vA])
          exact ⟨e, vs, h⟩
         ·unfold gk at ha
          split at ha <;> cases ha
         ·unfold gk at ha
          split at ha <;> cases ha
        ·cases ha
       ·cases ha
 ·cases he
def GsEnd (R : Mem) (pa : PA) (p : b6) (b wb db : Nat) (L' : List HP) (K : Value → Mem → Prop) (y : Sc) : lF → Prop
 | .ev e => ∀ R' A c M', R.le R' → RS bl R' A c e.ready → y.d.k.Ok → Hp R' (aB (dD pa p wb db) b y :: L') M' → K (.tuple #[IA e A c, .int .i64 0]) M'
 | .cO l => ∀ e vs M', pq l e vs → y.d.k.Ok → Hp R (aB (dD pa p wb db) b y :: L') M' → K (.tuple #[IA ⟨0, 0, 0, []⟩ none 0, .int .i64 e]) M'
theorem tS {pa : PA} {p : b6} {b wb db : Nat} {x y : Sc} {o : lF} (h : Hp R L M) [q : lE b L pa p wb db x L'] (hp : kF R pa p) (hd : x.d.k.Ok) (he : x.step p = some (y, o)) (k : GsEnd R pa p b wb db L' K y o) :
  aa Tryz.prog 18 #[.pointer (some ⟨b, 0, none⟩)] M K Kp := by
 refine ql ?_
 replace h := h.pick q.pick
 refine aq h ?_
 clear h
 intro k1 M h
 refine aq h ?_
 clear h
 intro k3 M h
 refine aq h ?_
 clear h
 intro k5 M h
 have hsk := vn hd he
 cases o with
 | ev e =>
  refine vu (D := fun _ _ _ => False) (S := fun R' L2 => R.le R' ∧ ∃ A c, RS bl R' A c e.ready ∧ L2 = aB (dD pa p wb db) b y :: pt k5 [.int .i64 e.kind, .int .i64 e.m, .int .i64 e.g, .slice A e.ready.length c] 47 :: pt k3 [.int .i64 0, .int .i64 0, .int .i64 0, .slice none 0 0] 47 :: L') h ?_ ?_ ?_ ?_
  ·intro Q M K Kp h kk _
   refine Ci (args := []) ⟨by decide, by show _ < 228; decide⟩ ?_
   refine iO ?_
   refine um h ?_
   refine vp h hp hd he ?_
   clear h; intro R' A c M hle kN hk h
   refine ⟨_, _, _, _, _, _, rfl, ?_⟩
   repeat (refine av h ?_; clear h; intro M h)
   exact kk R' _ M ⟨hle, A, c, kN, rfl⟩ (h.sub bz)
  ·exact fun _ _ _ hs => hs.elim
  ·rintro R' _ M ⟨hle, A, c, kN, rfl⟩ h
   refine ⟨_, _, _, _, _, _, rfl, ?_⟩
   refine aq h ?_
   clear h
   intro gj M h
   repeat (first | (refine aq h ?_; clear h; intro kb M h) | (refine av h ?_; clear h; intro M h) | refine St.to h ?_ | (apply Exists.intro; (repeat apply Exists.intro); refine And.intro rfl ?_) | (refine And.intro ?_ ?_; first | exact rfl | ((repeat (refine ay (aA h) ?_)); exact ae) | omega) | refine ai ?_ | refine aj ?_)
   exact k R' A c _ hle kN hsk (h.sub bz)
  ·exact fun _ _ _ _ _ _ _ _ _ _ hs => hs.elim
 | cO l =>
  obtain ⟨e, vs, hg⟩ := PY he
  refine vu (S := fun _ _ => False) (D := fun R' l' L2 => R' = R ∧ l' = l ∧ L2 = aB (dD pa p wb db) b y :: pt k5 [.int .i64 0, .int .i64 0, .int .i64 0, .slice none 0 0] 47 :: pt k3 [.int .i64 0, .int .i64 0, .int .i64 0, .slice none 0 0] 47 :: L') h ?_ ?_ ?_ ?_
  ·intro Q M K Kp h _ kk
   refine Ci (args := []) ⟨by decide, by show _ < 228; decide⟩ ?_
   refine iO ?_
   refine um h ?_
   refine Av h hp hd he ?_
   intro M h
   exact kk R _ _ M ⟨rfl, rfl, rfl⟩ (h.sub bz)
  ·rintro R' l' L2 ⟨_, rfl, _⟩
   exact ⟨e, vs, hg⟩
  ·exact fun _ _ _ hs => hs.elim
  ·rintro R' l' _ M e a q n kx xx ⟨rfl, rfl, rfl⟩ hg h
   refine ⟨_, _, _, _, _, _, rfl, ?_⟩
   refine aq h ?_
   clear h
   intro gj M h
   repeat (first | (refine aq h ?_; clear h; intro kb M h) | (refine av h ?_; clear h; intro M h) | refine St.to h ?_ | (apply Exists.intro; (repeat apply Exists.intro); refine And.intro rfl ?_) | (refine And.intro ?_ ?_; first | exact rfl | ((repeat (refine ay (aA h) ?_)); exact ae) | omega) | refine ai ?_ | refine aj ?_)
   exact k _ _ _ hg hsk (h.sub bz)
end
end Go.Proofs
