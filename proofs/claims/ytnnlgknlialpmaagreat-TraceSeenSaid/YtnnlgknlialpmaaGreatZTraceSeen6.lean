/- A part of proofs about one program. -/
import Derived.Test.YtnnlgknlialpmaaGreatZTraceSeen5
set_option linter.unusedVariables false
namespace Go.Proofs
open Go.AF
set_option maxRecDepth 100000
set_option maxHeartbeats 1000000
attribute [local irreducible] aI c7 fm cy aB eN aE aM aX bk bJ aP
def aH (n m : Int) : Int := if m < 1 then 0 else Int.tmod (IntKind.wrap .i64 (Int.tmod n m + m)) m
theorem c5 {n m : Int} (hm : 1 ≤ m) (hb : m < 4611686018427387904) : 0 ≤ aH n m ∧ aH n m < m := by
 have h1 := Int.tmod_lt_of_pos n (show 0 < m by omega)
 have h2 := Int.lt_tmod_of_pos n (show 0 < m by omega)
 unfold aH
 rw [if_neg (by omega), cC (by omega) (by omega)]
 have h3 : 0 ≤ Int.tmod n m + m := by omega
 exact ⟨Int.tmod_nonneg m h3, Int.tmod_lt_of_pos _ (by omega)⟩
def xX (nf nc iy lk lf : Int) (x : cI) : cI :=
 if aH x.op 23 = 1 then ⟨1, aH x.a 8, x.b, 0⟩
 else if aH x.op 23 = 2 then ⟨2, aH x.a 8, aH x.b 8, 0⟩
 else if aH x.op 23 = 3 then ⟨aH x.op 23, aH x.a 8, aH x.b 8, aH x.c 8⟩
 else if aH x.op 23 = 4 then ⟨aH x.op 23, aH x.a 8, aH x.b 8, aH x.c 8⟩
 else if aH x.op 23 = 5 then ⟨aH x.op 23, aH x.a 8, aH x.b 8, aH x.c 8⟩
 else if aH x.op 23 = 6 then ⟨aH x.op 23, aH x.a 8, aH x.b 8, aH x.c 8⟩
 else if aH x.op 23 = 7 then ⟨7, aH x.a lf, 0, 0⟩
 else if aH x.op 23 = 8 then ⟨8, aH x.a 8, aH x.b lf, 0⟩
 else if aH x.op 23 = 9 then ⟨aH x.op 23, aH x.a nf, aH x.b 8, aH x.c 8⟩
 else if aH x.op 23 = 11 then ⟨aH x.op 23, aH x.a nf, aH x.b 8, aH x.c 8⟩
 else if aH x.op 23 = 10 then ⟨aH x.op 23, aH x.a 8, 0, 0⟩
 else if aH x.op 23 = 17 then ⟨aH x.op 23, aH x.a 8, 0, 0⟩
 else if aH x.op 23 = 20 then ⟨aH x.op 23, aH x.a 8, 0, 0⟩
 else if aH x.op 23 = 13 then (if nc = 0 then .zero else ⟨aH x.op 23, aH x.a nc, aH x.b 8, 0⟩)
 else if aH x.op 23 = 14 then (if nc = 0 then .zero else ⟨aH x.op 23, aH x.a nc, aH x.b 8, aH x.c 8⟩)
 else if aH x.op 23 = 15 then (if nc = 0 then .zero else ⟨aH x.op 23, aH x.a nc, 0, 0⟩)
 else if aH x.op 23 = 16 then (if iy = 0 then .zero else ⟨16, aH x.a iy, 1 + aH x.b (iy - aH x.a iy), aH x.c 8⟩)
 else if aH x.op 23 = 18 then (if lk = 0 then .zero else ⟨aH x.op 23, aH x.a lk, 0, 0⟩)
 else if aH x.op 23 = 19 then (if lk = 0 then .zero else ⟨aH x.op 23, aH x.a lk, 0, 0⟩)
 else if aH x.op 23 = 21 then ⟨21, aH x.a 8, 1 + aH x.b 1000, 0⟩
 else if aH x.op 23 = 22 then ⟨22, aH x.a 1000, 0, 0⟩
 else ⟨aH x.op 23, 0, 0, 0⟩
def cZ (nf nc iy lk lf : Int) (i : cI) : Prop := 0 ≤ i.op ∧ i.op < 23 ∧ i.cB ∧ (i.op = 7 → 0 ≤ i.a ∧ i.a < lf) ∧ (i.op = 8 → 0 ≤ i.b ∧ i.b < lf) ∧
 (i.op = 9 ∨ i.op = 11 → 0 ≤ i.a ∧ i.a < nf ∧ aZ i.b ∧ aZ i.c) ∧ (i.op = 10 ∨ i.op = 17 ∨ i.op = 20 ∨ i.op = 21 → aZ i.a) ∧
 (i.op = 13 ∨ i.op = 14 ∨ i.op = 15 → 0 ≤ i.a ∧ i.a < nc) ∧ (i.op = 13 ∨ i.op = 14 → aZ i.b) ∧ (i.op = 14 ∨ i.op = 16 → aZ i.c) ∧
 (i.op = 16 → 0 ≤ i.a ∧ 1 ≤ i.b ∧ i.a + i.b ≤ iy) ∧ (i.op = 18 ∨ i.op = 19 → 0 ≤ i.a ∧ i.a < lk) ∧ (i.op = 21 → 1 ≤ i.b ∧ i.b < 1099511627776)
theorem cZ.ok {p : bZ} {f : List cI} {i : cI} (h : cZ p.funcs.length p.dx.length p.cases.length p.aK f.length i) : jR p f i := h
theorem cZ.zero {nf nc iy lk lf : Int} : cZ nf nc iy lk lf .zero := by
 simp [cZ, cI.cB, cI.zero]
theorem jF {nf nc iy lk lf : Int} {p : Prop} [Decidable p] {x y : cI} (h1 : p → cZ nf nc iy lk lf x) (h2 : ¬ p → cZ nf nc iy lk lf y) : cZ nf nc iy lk lf (if p then x else y) := by
 split
 ·exact h1 ‹_›
 ·exact h2 ‹_›
theorem O5 {nf nc iy lk lf : Int} {x : cI} (hf : 1 ≤ nf ∧ nf ≤ 5) (hc : 0 ≤ nc ∧ nc ≤ 4) (hcs : 0 ≤ iy ∧ iy ≤ 8) (hl : 0 ≤ lk ∧ lk ≤ 3) (hlf : 1 ≤ lf ∧ lf ≤ 20) : cZ nf nc iy lk lf (xX nf nc iy lk lf x) := by
 have a8 := c5 (n := x.a) (m := 8) (by omega) (by omega)
 have b8 := c5 (n := x.b) (m := 8) (by omega) (by omega)
 have c8 := c5 (n := x.c) (m := 8) (by omega) (by omega)
 have o23 := c5 (n := x.op) (m := 23) (by omega) (by omega)
 have af := c5 (n := x.a) (m := lf) (by omega) (by omega)
 have bf := c5 (n := x.b) (m := lf) (by omega) (by omega)
 have an := c5 (n := x.a) (m := nf) (by omega) (by omega)
 have b1000 := c5 (n := x.b) (m := 1000) (by omega) (by omega)
 have ac : nc ≠ 0 → _ := fun e => c5 (n := x.a) (m := nc) (by omega) (by omega)
 have al : lk ≠ 0 → _ := fun e => c5 (n := x.a) (m := lk) (by omega) (by omega)
 have yA : iy ≠ 0 → _ := fun e => c5 (n := x.a) (m := iy) (by omega) (by omega)
 have Az : iy ≠ 0 → _ := fun e => c5 (n := x.b) (m := iy - aH x.a iy) (by have := yA e; omega) (by have := yA e; omega)
 have p1 : cZ nf nc iy lk lf ⟨1, aH x.a 8, x.b, 0⟩ := by clear ac al yA Az; simp [cZ, cI.cB, aZ] <;> omega
 have p2 : cZ nf nc iy lk lf ⟨2, aH x.a 8, aH x.b 8, 0⟩ := by clear ac al yA Az; simp [cZ, cI.cB, aZ] <;> omega
 have p3 : cZ nf nc iy lk lf ⟨3, aH x.a 8, aH x.b 8, aH x.c 8⟩ := by clear ac al yA Az; simp [cZ, cI.cB, aZ] <;> omega
 have p4 : cZ nf nc iy lk lf ⟨4, aH x.a 8, aH x.b 8, aH x.c 8⟩ := by clear ac al yA Az; simp [cZ, cI.cB, aZ] <;> omega
 have p5 : cZ nf nc iy lk lf ⟨5, aH x.a 8, aH x.b 8, aH x.c 8⟩ := by clear ac al yA Az; simp [cZ, cI.cB, aZ] <;> omega
 have p6 : cZ nf nc iy lk lf ⟨6, aH x.a 8, aH x.b 8, aH x.c 8⟩ := by clear ac al yA Az; simp [cZ, cI.cB, aZ] <;> omega
 have p7 : cZ nf nc iy lk lf ⟨7, aH x.a lf, 0, 0⟩ := by clear ac al yA Az; simp [cZ, cI.cB, aZ] <;> omega
 have p8 : cZ nf nc iy lk lf ⟨8, aH x.a 8, aH x.b lf, 0⟩ := by clear ac al yA Az; simp [cZ, cI.cB, aZ] <;> omega
 have p9 : cZ nf nc iy lk lf ⟨9, aH x.a nf, aH x.b 8, aH x.c 8⟩ := by clear ac al yA Az; simp [cZ, cI.cB, aZ] <;> omega
 have p11 : cZ nf nc iy lk lf ⟨11, aH x.a nf, aH x.b 8, aH x.c 8⟩ := by clear ac al yA Az; simp [cZ, cI.cB, aZ] <;> omega
 have p10 : cZ nf nc iy lk lf ⟨10, aH x.a 8, 0, 0⟩ := by clear ac al yA Az; simp [cZ, cI.cB, aZ] <;> omega
 have p17 : cZ nf nc iy lk lf ⟨17, aH x.a 8, 0, 0⟩ := by clear ac al yA Az; simp [cZ, cI.cB, aZ] <;> omega
 have p20 : cZ nf nc iy lk lf ⟨20, aH x.a 8, 0, 0⟩ := by clear ac al yA Az; simp [cZ, cI.cB, aZ] <;> omega
 have p13 : nc ≠ 0 → cZ nf nc iy lk lf ⟨13, aH x.a nc, aH x.b 8, 0⟩ := fun z => by have := ac z; clear ac al yA Az; simp [cZ, cI.cB, aZ] <;> omega
 have p14 : nc ≠ 0 → cZ nf nc iy lk lf ⟨14, aH x.a nc, aH x.b 8, aH x.c 8⟩ := fun z => by have := ac z; clear ac al yA Az; simp [cZ, cI.cB, aZ] <;> omega
 have p15 : nc ≠ 0 → cZ nf nc iy lk lf ⟨15, aH x.a nc, 0, 0⟩ := fun z => by have := ac z; clear ac al yA Az; simp [cZ, cI.cB, aZ] <;> omega
 have p16 : iy ≠ 0 → cZ nf nc iy lk lf ⟨16, aH x.a iy, 1 + aH x.b (iy - aH x.a iy), aH x.c 8⟩ := fun z => by have := yA z; have := Az z; clear ac al yA Az; simp [cZ, cI.cB, aZ] <;> omega
 have o6 : lk ≠ 0 → cZ nf nc iy lk lf ⟨18, aH x.a lk, 0, 0⟩ := fun z => by have := al z; clear ac al yA Az; simp [cZ, cI.cB, aZ] <;> omega
 have p19 : lk ≠ 0 → cZ nf nc iy lk lf ⟨19, aH x.a lk, 0, 0⟩ := fun z => by have := al z; clear ac al yA Az; simp [cZ, cI.cB, aZ] <;> omega
 have p21 : cZ nf nc iy lk lf ⟨21, aH x.a 8, 1 + aH x.b 1000, 0⟩ := by clear ac al yA Az; simp [cZ, cI.cB, aZ] <;> omega
 have p22 : cZ nf nc iy lk lf ⟨22, aH x.a 1000, 0, 0⟩ := by clear ac al yA Az; simp [cZ, cI.cB, aZ] <;> omega
 clear a8 b8 c8 af bf an b1000 ac al yA Az
 unfold xX
 refine jF (fun e => p1) fun n1 => ?_
 refine jF (fun e => p2) fun n2 => ?_
 refine jF (fun e => e ▸ p3) fun n3 => ?_
 refine jF (fun e => e ▸ p4) fun n4 => ?_
 refine jF (fun e => e ▸ p5) fun n5 => ?_
 refine jF (fun e => e ▸ p6) fun n6 => ?_
 refine jF (fun e => p7) fun n7 => ?_
 refine jF (fun e => p8) fun n8 => ?_
 refine jF (fun e => e ▸ p9) fun n9 => ?_
 refine jF (fun e => e ▸ p11) fun ig => ?_
 refine jF (fun e => e ▸ p10) fun lE => ?_
 refine jF (fun e => e ▸ p17) fun jH => ?_
 refine jF (fun e => e ▸ p20) fun eR => ?_
 refine jF (fun e => jF (fun _ => cZ.zero) fun z => e ▸ p13 z) fun j6 => ?_
 refine jF (fun e => jF (fun _ => cZ.zero) fun z => e ▸ p14 z) fun nx => ?_
 refine jF (fun e => jF (fun _ => cZ.zero) fun z => e ▸ p15 z) fun lB => ?_
 refine jF (fun e => jF (fun _ => cZ.zero) fun z => p16 z) fun oH => ?_
 refine jF (fun e => jF (fun _ => cZ.zero) fun z => e ▸ o6 z) fun lQ => ?_
 refine jF (fun e => jF (fun _ => cZ.zero) fun z => e ▸ p19 z) fun xF => ?_
 refine jF (fun e => p21) fun oG => ?_
 refine jF (fun e => p22) fun rq => ?_
 generalize aH x.op 23 = o at *
 have : o = 0 ∨ o = 12 := by omega
 rcases this with rfl | rfl <;> simp [cZ, cI.cB]
section
variable {M : Mem} {K : Value → Mem → Prop} {Kp : List PanicEntry → Mem → Prop}
theorem bG {n m : Int} (k : K (.int .i64 (aH n m)) M) : aa Tryz.prog 66 #[.int .i64 n, .int .i64 m] M K Kp := by
 refine sG ?_
 unfold aH at k
 exact aN.2 ⟨fun h => by rw [if_pos h] at k; exact k, fun h => ⟨by omega, by omega, by rw [if_neg h] at k; exact k⟩⟩
variable {R : Mem} {L : List HP}
abbrev insV (i : cI) : Value := .agg #[.int .i64 i.op, .int .i64 i.a, .int .i64 i.b, .int .i64 i.c]
theorem RY {A B C F : Option Addr} {nf cf nc cc iy ccs lf cl : Nat} {lk o a b c : Int} (h : Hp R L M) (hcs : iy ≤ 8)
  (k : ∀ M', Hp R L M' → K (insV (xX nf nc iy lk lf ⟨o, a, b, c⟩)) M') :
  aa Tryz.prog 67 #[.agg #[.slice A nf cf, .slice B nc cc, .int .i64 lk, .slice C iy ccs], .slice F lf cl, .agg #[.int .i64 o, .int .i64 a, .int .i64 b, .int .i64 c]] M K Kp := by
 refine sH ?_
 have w1000 : IntKind.wrap .i64 (1 + aH b 1000) = 1 + aH b 1000 := by
  have := c5 (n := b) (m := 1000) (by omega) (by omega)
  exact cC (by omega) (by omega)
 have as_ : (iy : Int) ≠ 0 → IntKind.wrap .i64 ((iy : Int) - aH a iy) = iy - aH a iy ∧ IntKind.wrap .i64 (1 + aH b (iy - aH a iy)) = 1 + aH b (iy - aH a iy) := fun e => by
  have h1 := c5 (n := a) (m := (iy : Int)) (by omega) (by omega)
  have h2 := c5 (n := b) (m := (iy : Int) - aH a iy) (by omega) (by omega)
  exact ⟨cC (by omega) (by omega), cC (by omega) (by omega)⟩
 unfold xX at k
 dsimp only at k
 repeat (first|refine bG ?_|(refine aj h ?_;clear h;intro kb M h)|(refine au h ?_;clear h;intro M h)|refine St.to h ?_|(apply Exists.intro;(repeat apply Exists.intro);refine And.intro rfl ?_)|refine av ?_|refine ai ?_|refine ae ?_)
 refine aY.2 ⟨fun e => ?_, fun e => ?_⟩
 ·rw [if_pos e] at k
  repeat (first|refine bG ?_|(refine aj h ?_;clear h;intro kb M h)|(refine au h ?_;clear h;intro M h)|refine St.to h ?_|(apply Exists.intro;(repeat apply Exists.intro);refine And.intro rfl ?_)|refine av ?_|refine ai ?_|refine ae ?_)
  exact k _ (h.sub br)
 rw [if_neg e] at k
 clear e
 refine aY.2 ⟨fun e => ?_, fun e => ?_⟩
 ·rw [if_pos e] at k
  repeat (first|refine bG ?_|(refine aj h ?_;clear h;intro kb M h)|(refine au h ?_;clear h;intro M h)|refine St.to h ?_|(apply Exists.intro;(repeat apply Exists.intro);refine And.intro rfl ?_)|refine av ?_|refine ai ?_|refine ae ?_)
  exact k _ (h.sub br)
 rw [if_neg e] at k
 clear e
 refine aY.2 ⟨fun e => ?_, fun e => ?_⟩
 ·rw [if_pos e] at k
  repeat (first|refine bG ?_|(refine aj h ?_;clear h;intro kb M h)|(refine au h ?_;clear h;intro M h)|refine St.to h ?_|(apply Exists.intro;(repeat apply Exists.intro);refine And.intro rfl ?_)|refine av ?_|refine ai ?_|refine ae ?_)
  exact k _ (h.sub br)
 rw [if_neg e] at k
 clear e
 refine aY.2 ⟨fun e => ?_, fun e => ?_⟩
 ·rw [if_pos e] at k
  repeat (first|refine bG ?_|(refine aj h ?_;clear h;intro kb M h)|(refine au h ?_;clear h;intro M h)|refine St.to h ?_|(apply Exists.intro;(repeat apply Exists.intro);refine And.intro rfl ?_)|refine av ?_|refine ai ?_|refine ae ?_)
  exact k _ (h.sub br)
 rw [if_neg e] at k
 clear e
 refine aY.2 ⟨fun e => ?_, fun e => ?_⟩
 ·rw [if_pos e] at k
  repeat (first|refine bG ?_|(refine aj h ?_;clear h;intro kb M h)|(refine au h ?_;clear h;intro M h)|refine St.to h ?_|(apply Exists.intro;(repeat apply Exists.intro);refine And.intro rfl ?_)|refine av ?_|refine ai ?_|refine ae ?_)
  exact k _ (h.sub br)
 rw [if_neg e] at k
 clear e
 refine aY.2 ⟨fun e => ?_, fun e => ?_⟩
 ·rw [if_pos e] at k
  repeat (first|refine bG ?_|(refine aj h ?_;clear h;intro kb M h)|(refine au h ?_;clear h;intro M h)|refine St.to h ?_|(apply Exists.intro;(repeat apply Exists.intro);refine And.intro rfl ?_)|refine av ?_|refine ai ?_|refine ae ?_)
  exact k _ (h.sub br)
 rw [if_neg e] at k
 clear e
 refine aY.2 ⟨fun e => ?_, fun e => ?_⟩
 ·rw [if_pos e] at k
  repeat (first|refine bG ?_|(refine aj h ?_;clear h;intro kb M h)|(refine au h ?_;clear h;intro M h)|refine St.to h ?_|(apply Exists.intro;(repeat apply Exists.intro);refine And.intro rfl ?_)|refine av ?_|refine ai ?_|refine ae ?_)
  exact k _ (h.sub br)
 rw [if_neg e] at k
 clear e
 refine aY.2 ⟨fun e => ?_, fun e => ?_⟩
 ·rw [if_pos e] at k
  repeat (first|refine bG ?_|(refine aj h ?_;clear h;intro kb M h)|(refine au h ?_;clear h;intro M h)|refine St.to h ?_|(apply Exists.intro;(repeat apply Exists.intro);refine And.intro rfl ?_)|refine av ?_|refine ai ?_|refine ae ?_)
  exact k _ (h.sub br)
 rw [if_neg e] at k
 clear e
 refine aY.2 ⟨fun e => ?_, fun e => ?_⟩
 ·rw [if_pos e] at k
  repeat (first|refine bG ?_|(refine aj h ?_;clear h;intro kb M h)|(refine au h ?_;clear h;intro M h)|refine St.to h ?_|(apply Exists.intro;(repeat apply Exists.intro);refine And.intro rfl ?_)|refine av ?_|refine ai ?_|refine ae ?_)
  exact k _ (h.sub br)
 rw [if_neg e] at k
 clear e
 refine aY.2 ⟨fun e => ?_, fun e => ?_⟩
 ·rw [if_pos e] at k
  repeat (first|refine bG ?_|(refine aj h ?_;clear h;intro kb M h)|(refine au h ?_;clear h;intro M h)|refine St.to h ?_|(apply Exists.intro;(repeat apply Exists.intro);refine And.intro rfl ?_)|refine av ?_|refine ai ?_|refine ae ?_)
  exact k _ (h.sub br)
 rw [if_neg e] at k
 clear e
 refine aY.2 ⟨fun e => ?_, fun e => ?_⟩
 ·rw [if_pos e] at k
  repeat (first|refine bG ?_|(refine aj h ?_;clear h;intro kb M h)|(refine au h ?_;clear h;intro M h)|refine St.to h ?_|(apply Exists.intro;(repeat apply Exists.intro);refine And.intro rfl ?_)|refine av ?_|refine ai ?_|refine ae ?_)
  exact k _ (h.sub br)
 rw [if_neg e] at k
 clear e
 refine aY.2 ⟨fun e => ?_, fun e => ?_⟩
 ·rw [if_pos e] at k
  repeat (first|refine bG ?_|(refine aj h ?_;clear h;intro kb M h)|(refine au h ?_;clear h;intro M h)|refine St.to h ?_|(apply Exists.intro;(repeat apply Exists.intro);refine And.intro rfl ?_)|refine av ?_|refine ai ?_|refine ae ?_)
  exact k _ (h.sub br)
 rw [if_neg e] at k
 clear e
 refine aY.2 ⟨fun e => ?_, fun e => ?_⟩
 ·rw [if_pos e] at k
  repeat (first|refine bG ?_|(refine aj h ?_;clear h;intro kb M h)|(refine au h ?_;clear h;intro M h)|refine St.to h ?_|(apply Exists.intro;(repeat apply Exists.intro);refine And.intro rfl ?_)|refine av ?_|refine ai ?_|refine ae ?_)
  exact k _ (h.sub br)
 rw [if_neg e] at k
 clear e
 refine aY.2 ⟨fun e => ?_, fun e => ?_⟩
 ·rw [if_pos e] at k
  refine aY.2 ⟨fun z => ?_, fun z => ?_⟩
  ·rw [if_pos z] at k
   repeat (first|refine bG ?_|(refine aj h ?_;clear h;intro kb M h)|(refine au h ?_;clear h;intro M h)|refine St.to h ?_|(apply Exists.intro;(repeat apply Exists.intro);refine And.intro rfl ?_)|refine av ?_|refine ai ?_|refine ae ?_)
   exact k _ (h.sub br)
  rw [if_neg z] at k
  repeat (first|refine bG ?_|(refine aj h ?_;clear h;intro kb M h)|(refine au h ?_;clear h;intro M h)|refine St.to h ?_|(apply Exists.intro;(repeat apply Exists.intro);refine And.intro rfl ?_)|refine av ?_|refine ai ?_|refine ae ?_)
  refine aN.2 ⟨fun _ => ?_, fun e2 => absurd (show aH o 23 < 15 by omega) e2⟩
  repeat (first|refine bG ?_|(refine aj h ?_;clear h;intro kb M h)|(refine au h ?_;clear h;intro M h)|refine St.to h ?_|(apply Exists.intro;(repeat apply Exists.intro);refine And.intro rfl ?_)|refine av ?_|refine ai ?_|refine ae ?_)
  refine aY.2 ⟨fun e2 => absurd e2 (by omega), fun _ => ?_⟩
  repeat (first|refine bG ?_|(refine aj h ?_;clear h;intro kb M h)|(refine au h ?_;clear h;intro M h)|refine St.to h ?_|(apply Exists.intro;(repeat apply Exists.intro);refine And.intro rfl ?_)|refine av ?_|refine ai ?_|refine ae ?_)
  exact k _ (h.sub br)
 rw [if_neg e] at k
 clear e
 refine aY.2 ⟨fun e => ?_, fun e => ?_⟩
 ·rw [if_pos e] at k
  refine aY.2 ⟨fun z => ?_, fun z => ?_⟩
  ·rw [if_pos z] at k
   repeat (first|refine bG ?_|(refine aj h ?_;clear h;intro kb M h)|(refine au h ?_;clear h;intro M h)|refine St.to h ?_|(apply Exists.intro;(repeat apply Exists.intro);refine And.intro rfl ?_)|refine av ?_|refine ai ?_|refine ae ?_)
   exact k _ (h.sub br)
  rw [if_neg z] at k
  repeat (first|refine bG ?_|(refine aj h ?_;clear h;intro kb M h)|(refine au h ?_;clear h;intro M h)|refine St.to h ?_|(apply Exists.intro;(repeat apply Exists.intro);refine And.intro rfl ?_)|refine av ?_|refine ai ?_|refine ae ?_)
  refine aN.2 ⟨fun _ => ?_, fun e2 => absurd (show aH o 23 < 15 by omega) e2⟩
  repeat (first|refine bG ?_|(refine aj h ?_;clear h;intro kb M h)|(refine au h ?_;clear h;intro M h)|refine St.to h ?_|(apply Exists.intro;(repeat apply Exists.intro);refine And.intro rfl ?_)|refine av ?_|refine ai ?_|refine ae ?_)
  refine aY.2 ⟨fun _ => ?_, fun e2 => absurd e e2⟩
  repeat (first|refine bG ?_|(refine aj h ?_;clear h;intro kb M h)|(refine au h ?_;clear h;intro M h)|refine St.to h ?_|(apply Exists.intro;(repeat apply Exists.intro);refine And.intro rfl ?_)|refine av ?_|refine ai ?_|refine ae ?_)
  exact k _ (h.sub br)
 rw [if_neg e] at k
 clear e
 refine aY.2 ⟨fun e => ?_, fun e => ?_⟩
 ·rw [if_pos e] at k
  refine aY.2 ⟨fun z => ?_, fun z => ?_⟩
  ·rw [if_pos z] at k
   repeat (first|refine bG ?_|(refine aj h ?_;clear h;intro kb M h)|(refine au h ?_;clear h;intro M h)|refine St.to h ?_|(apply Exists.intro;(repeat apply Exists.intro);refine And.intro rfl ?_)|refine av ?_|refine ai ?_|refine ae ?_)
   exact k _ (h.sub br)
  rw [if_neg z] at k
  repeat (first|refine bG ?_|(refine aj h ?_;clear h;intro kb M h)|(refine au h ?_;clear h;intro M h)|refine St.to h ?_|(apply Exists.intro;(repeat apply Exists.intro);refine And.intro rfl ?_)|refine av ?_|refine ai ?_|refine ae ?_)
  refine aN.2 ⟨fun e2 => absurd e2 (by omega), fun _ => ?_⟩
  repeat (first|refine bG ?_|(refine aj h ?_;clear h;intro kb M h)|(refine au h ?_;clear h;intro M h)|refine St.to h ?_|(apply Exists.intro;(repeat apply Exists.intro);refine And.intro rfl ?_)|refine av ?_|refine ai ?_|refine ae ?_)
  refine aY.2 ⟨fun e2 => absurd e2 (by omega), fun _ => ?_⟩
  repeat (first|refine bG ?_|(refine aj h ?_;clear h;intro kb M h)|(refine au h ?_;clear h;intro M h)|refine St.to h ?_|(apply Exists.intro;(repeat apply Exists.intro);refine And.intro rfl ?_)|refine av ?_|refine ai ?_|refine ae ?_)
  exact k _ (h.sub br)
 rw [if_neg e] at k
 clear e
 refine aY.2 ⟨fun e => ?_, fun e => ?_⟩
 ·rw [if_pos e] at k
  refine aY.2 ⟨fun z => ?_, fun z => ?_⟩
  ·rw [if_pos z] at k
   repeat (first|refine bG ?_|(refine aj h ?_;clear h;intro kb M h)|(refine au h ?_;clear h;intro M h)|refine St.to h ?_|(apply Exists.intro;(repeat apply Exists.intro);refine And.intro rfl ?_)|refine av ?_|refine ai ?_|refine ae ?_)
   exact k _ (h.sub br)
  rw [if_neg z] at k
  obtain ⟨e1, e2⟩ := as_ z
  repeat (first|refine bG ?_|(refine aj h ?_;clear h;intro kb M h)|(refine au h ?_;clear h;intro M h)|refine St.to h ?_|(apply Exists.intro;(repeat apply Exists.intro);refine And.intro rfl ?_)|refine av ?_|refine ai ?_|refine ae ?_)
  rw [e1]
  repeat (first|refine bG ?_|(refine aj h ?_;clear h;intro kb M h)|(refine au h ?_;clear h;intro M h)|refine St.to h ?_|(apply Exists.intro;(repeat apply Exists.intro);refine And.intro rfl ?_)|refine av ?_|refine ai ?_|refine ae ?_)
  rw [e2]
  repeat (first|refine bG ?_|(refine aj h ?_;clear h;intro kb M h)|(refine au h ?_;clear h;intro M h)|refine St.to h ?_|(apply Exists.intro;(repeat apply Exists.intro);refine And.intro rfl ?_)|refine av ?_|refine ai ?_|refine ae ?_)
  exact k _ (h.sub br)
 rw [if_neg e] at k
 clear e
 refine aY.2 ⟨fun e => ?_, fun e => ?_⟩
 ·rw [if_pos e] at k
  repeat (first|refine bG ?_|(refine aj h ?_;clear h;intro kb M h)|(refine au h ?_;clear h;intro M h)|refine St.to h ?_|(apply Exists.intro;(repeat apply Exists.intro);refine And.intro rfl ?_)|refine av ?_|refine ai ?_|refine ae ?_)
  refine aY.2 ⟨fun z => ?_, fun z => ?_⟩
  ·rw [if_pos z] at k
   repeat (first|refine bG ?_|(refine aj h ?_;clear h;intro kb M h)|(refine au h ?_;clear h;intro M h)|refine St.to h ?_|(apply Exists.intro;(repeat apply Exists.intro);refine And.intro rfl ?_)|refine av ?_|refine ai ?_|refine ae ?_)
   exact k _ (h.sub br)
  rw [if_neg z] at k
  repeat (first|refine bG ?_|(refine aj h ?_;clear h;intro kb M h)|(refine au h ?_;clear h;intro M h)|refine St.to h ?_|(apply Exists.intro;(repeat apply Exists.intro);refine And.intro rfl ?_)|refine av ?_|refine ai ?_|refine ae ?_)
  exact k _ (h.sub br)
 rw [if_neg e] at k
 clear e
 refine aY.2 ⟨fun e => ?_, fun e => ?_⟩
 ·rw [if_pos e] at k
  repeat (first|refine bG ?_|(refine aj h ?_;clear h;intro kb M h)|(refine au h ?_;clear h;intro M h)|refine St.to h ?_|(apply Exists.intro;(repeat apply Exists.intro);refine And.intro rfl ?_)|refine av ?_|refine ai ?_|refine ae ?_)
  refine aY.2 ⟨fun z => ?_, fun z => ?_⟩
  ·rw [if_pos z] at k
   repeat (first|refine bG ?_|(refine aj h ?_;clear h;intro kb M h)|(refine au h ?_;clear h;intro M h)|refine St.to h ?_|(apply Exists.intro;(repeat apply Exists.intro);refine And.intro rfl ?_)|refine av ?_|refine ai ?_|refine ae ?_)
   exact k _ (h.sub br)
  rw [if_neg z] at k
  repeat (first|refine bG ?_|(refine aj h ?_;clear h;intro kb M h)|(refine au h ?_;clear h;intro M h)|refine St.to h ?_|(apply Exists.intro;(repeat apply Exists.intro);refine And.intro rfl ?_)|refine av ?_|refine ai ?_|refine ae ?_)
  exact k _ (h.sub br)
 rw [if_neg e] at k
 clear e
 refine aY.2 ⟨fun e => ?_, fun e => ?_⟩
 ·rw [if_pos e] at k
  repeat (first|refine bG ?_|(refine aj h ?_;clear h;intro kb M h)|(refine au h ?_;clear h;intro M h)|refine St.to h ?_|(apply Exists.intro;(repeat apply Exists.intro);refine And.intro rfl ?_)|refine av ?_|refine ai ?_|refine ae ?_)
  rw [w1000]
  exact k _ (h.sub br)
 rw [if_neg e] at k
 clear e
 refine aY.2 ⟨fun e => ?_, fun e => ?_⟩
 ·rw [if_pos e] at k
  repeat (first|refine bG ?_|(refine aj h ?_;clear h;intro kb M h)|(refine au h ?_;clear h;intro M h)|refine St.to h ?_|(apply Exists.intro;(repeat apply Exists.intro);refine And.intro rfl ?_)|refine av ?_|refine ai ?_|refine ae ?_)
  exact k _ (h.sub br)
 rw [if_neg e] at k
 clear e
 repeat (first|refine bG ?_|(refine aj h ?_;clear h;intro kb M h)|(refine au h ?_;clear h;intro M h)|refine St.to h ?_|(apply Exists.intro;(repeat apply Exists.intro);refine And.intro rfl ?_)|refine av ?_|refine ai ?_|refine ae ?_)
 exact k _ (h.sub br)
end
end Go.Proofs
namespace Go.Proofs
open Go.AF Go.Deep
def FR : List IntKind := [.i64, .i64, .i64, .i64]
def Td : List IntKind := [.i64, .i64, .i64]
def Te (g : Nat → Int) : cI := ⟨g 0, g 1, g 2, g 3⟩
def Tf (g : Nat → Int) : oy := ⟨g 0, g 1, g 2⟩
theorem Lj (l : List (Nat → Int)) : (kE FR).cells l = jm.cells (l.map Te) := by
 induction l with
 | nil => rfl
 | cons g l ih => rw [hU.bX, List.map_cons, hU.bX, ih]; rfl
theorem Ll (l : List (Nat → Int)) : (kE Td).cells l = ij.cells (l.map Tf) := by
 induction l with
 | nil => rfl
 | cons g l ih => rw [hU.bX, List.map_cons, hU.bX, ih]; rfl
theorem Lm (l : List (Nat → Int)) : (kE [.i64]).cells l = bl.cells (l.map (· 0)) := by
 induction l with
 | nil => rfl
 | cons g l ih => rw [hU.bX, List.map_cons, hU.bX, ih]; rfl
structure qI (M : Mem) (pa : PA) (p : bZ) : Prop where
 n1 : p.funcs.length ≤ 9223372036854775807
 n2 : p.dx.length ≤ 9223372036854775807
 n3 : p.cases.length ≤ 9223372036854775807
 le1 : p.funcs.length ≤ pa.fc
 funcs : 0 < p.funcs.length → ∃ ts : List (Option Addr × Nat × Nat), RS xQ M pa.f pa.fc ts ∧ ts.length = p.funcs.length ∧ ∀ (i : Nat) t f, ts[i]? = some t → p.funcs[i]? = some f → t.2.1 = f.length ∧ f.length ≤ 9223372036854775807 ∧ f.length ≤ t.2.2 ∧ (0 < f.length → RS jm M t.1 t.2.2 f)
 dx : 0 < p.dx.length → RS bl M pa.c pa.cc p.dx
 cases : 0 < p.cases.length → RS ij M pa.k pa.kc p.cases
theorem qI.le {M M' : Mem} {pa : PA} {p : bZ} (h : qI M pa p) (hle : M.le M') : qI M' pa p := by
 obtain ⟨a1, a2, a3, a4, a5, a6, a7⟩ := h
 refine ⟨a1, a2, a3, a4, fun h0 => ?_, fun h0 => (a6 h0).le hle, fun h0 => (a7 h0).le hle⟩
 obtain ⟨ts, t1, t2, t3⟩ := a5 h0
 exact ⟨ts, t1.le hle, t2, fun i t f a b => ⟨(t3 i t f a b).1, (t3 i t f a b).2.1, (t3 i t f a b).2.2.1, fun h => ((t3 i t f a b).2.2.2 h).le hle⟩⟩
theorem mW.rs {α : Type} {E : hU α} {M : Mem} {A : Option Addr} {n c : Nat} {ks : List IntKind} (h : mW M A n c ks) (f : (Nat → Int) → α) (hc : ∀ l, (kE ks).cells l = E.cells (l.map f)) : ∃ l : List α, l.length = n ∧ n ≤ c ∧ n ≤ 9223372036854775807 ∧ (0 < n → RS E M A c l) := by
 obtain ⟨l, rfl, h1, h2, h3, _⟩ := h
 refine ⟨l.map f, by simp, h1, Nat.le_trans h2 (by decide), fun h0 => ⟨?_, by simpa using h1⟩⟩
 rw [← hc]
 exact h3 h0
section
variable {H : Type} {enc : TypeId × Value → H} {P : Program} {w : World} {base : Nat} {spare : Nat → Bool} {held : Bool}
theorem Bp {t e e2 : TypeId} {A : Option Addr} {n c fuel : Nat} {x : DataW H × List MemPlace} (ht : P.underlying t = some (.slice e)) (he : P.underlying e = some (.slice e2)) (Wl : P.cellsOf e = 1) (hk : iS P 8 e2 = some FR) (hc : P.cellsOf e2 = FR.length ∧ 0 < FR.length)
  (h : DataW.trod enc P w base spare held fuel t [.slice A n c] = some x) : ∃ fs : List (List cI), fs.length = n ∧ n ≤ c ∧ n ≤ 9223372036854775807 ∧ (0 < n → ∃ ts : List (Option Addr × Nat × Nat), RS xQ (jK w) A c ts ∧ ts.length = n ∧ ∀ (i : Nat) t f, ts[i]? = some t → fs[i]? = some f → t.2.1 = f.length ∧ f.length ≤ 9223372036854775807 ∧ f.length ≤ t.2.2 ∧ (0 < f.length → RS jm (jK w) t.1 t.2.2 f)) := by
 rcases open_slice1 ht Wl h with ⟨h0, _⟩ | ⟨a, len, cap, m, n', V, D, Pl, hcs, hb, hl, hm, GF, hx, hel⟩
 ·cases h0
  exact ⟨[], rfl, Nat.le_refl _, by omega, fun h => absurd h (by omega)⟩
 ·cases hcs
  have hlm : n ≤ m := by rw [GF]; split <;> omega
  have each : ∀ i, i < n → ∃ q : (Option Addr × Nat × Nat) × List cI, w.cell? (a.add i) = some (.slice q.1.1 q.1.2.1 q.1.2.2) ∧ q.1.2.1 = q.2.length ∧ q.2.length ≤ 9223372036854775807 ∧ q.2.length ≤ q.1.2.2 ∧ (0 < q.2.length → RS jm (jK w) q.1.1 q.1.2.2 q.2) := by
   intro i hi
   obtain ⟨h1, h2⟩ := hel i (by omega)
   rcases Go.Deep.open_slice he h2 with ⟨h0, _⟩ | ⟨a', len', cap', _, _, _, _, MC, _, _, _, _, _, _⟩
   ·refine ⟨((none, 0, 0), []), ?_, rfl, by simp, by simp, fun h => by simp at h⟩
    rw [h1]; simpa using h0
   ·have hv : V i = .slice (some a') len' cap' := by simpa using MC
    rw [hv] at h2 h1
    obtain ⟨l, l1, l2, l3, l4⟩ := mW.rs (E := jm) (mW.uA he hk hc ⟨n', h2⟩) Te Lj
    subst l1
    exact ⟨((some a', l.length, cap'), l), h1, rfl, l3, l2, l4⟩
  obtain ⟨q, hq⟩ := Go.Deep.choose_lt each
  refine ⟨(List.range n).map fun i => (q i).2, by simp, hl, Nat.le_trans hl (Nat.le_trans hm (by decide)), fun hn => ⟨(List.range n).map fun i => (q i).1, ⟨?_, by simpa using hl⟩, by simp, fun i t f h1 h2 => ?_⟩⟩
  ·have hs := World.cell?_spot (hq 0 hn).1
   obtain ⟨b, o, sp⟩ := a
   have hsp : sp = none := by simpa [Addr.add] using hs
   subst hsp
   intro i hi
   rw [hU.dI, List.length_map, List.length_range] at hi
   have hi' : i < n := by simpa [xQ] using hi
   have h3 := (hq i hi').1
   rw [add_eq] at h3
   show (jK w).ld ⟨b, o + i, none⟩ = _
   have h4 := hU.mV (E := xQ) (l := (List.range n).map fun i => (q i).1) (i := i) (j := 0) (a := (q i).1) (by rw [List.getElem?_map, List.getElem?_range hi']; rfl) rfl
   have e : i * xQ.z + 0 = i := by simp [xQ]
   rw [e] at h4
   rw [h4]
   exact h3
  ·rw [List.getElem?_map] at h1 h2
   obtain ⟨j, hj, rfl⟩ := Option.map_eq_some_iff.1 h1
   obtain ⟨j', hj', rfl⟩ := Option.map_eq_some_iff.1 h2
   obtain ⟨hl1, e1⟩ := List.getElem?_eq_some_iff.1 hj
   rw [hj] at hj'
   cases hj'
   have WW : j < n := by rw [← e1]; simpa using hl1
   exact (hq j WW).2
theorem FT {t t1 t2 t3 t4 e1 e11 e2 e4 : TypeId} {fs : Array Field} {v : Value} {d : DataW H} {ps : List MemPlace} (hu : P.underlying t = some (.struct fs)) (hf : fs.toList.map (fun (f : Field) => (f.offset, f.type)) = [(0, t1), (1, t2), (2, t3), (3, t4)])
  (u1 : P.underlying t1 = some (.slice e1)) (u11 : P.underlying e1 = some (.slice e11)) (u2 : P.underlying t2 = some (.slice e2)) (u3 : P.underlying t3 = some (.int .i64)) (u4 : P.underlying t4 = some (.slice e4))
  (c1 : P.cellsOf t1 = 1) (c2 : P.cellsOf t2 = 1) (c3 : P.cellsOf t3 = 1) (c4 : P.cellsOf t4 = 1) (c11 : P.cellsOf e1 = 1) (k1 : iS P 8 e11 = some FR) (k2 : iS P 8 e2 = some [.i64]) (k4 : iS P 8 e4 = some Td)
  (d1 : P.cellsOf e11 = 4) (d2 : P.cellsOf e2 = 1) (d4 : P.cellsOf e4 = 3) (ct : P.cellsOf t = 4)
  (hs : ∃ cs, v = .agg cs ∧ cs.size = P.cellsOf t)
  (h : DataW.Trod enc P w base spare held t v d ps) : ∃ (pa : PA) (p : bZ), v = .agg #[.slice pa.f p.funcs.length pa.fc, .slice pa.c p.dx.length pa.cc, .int .i64 p.aK, .slice pa.k p.cases.length pa.kc] ∧ qI (jK w) pa p := by
 obtain ⟨cs, rfl, hsz⟩ := hs
 obtain ⟨fuel, hh⟩ := h
 obtain ⟨xs, m, _, _, hl, Sw, MB⟩ := DataW.trod_struct hu hh
 have e0 : (Value.agg cs).cells = cs := rfl
 rw [e0] at MB hl
 rw [ct] at hsz
 obtain ⟨cl⟩ := cs
 simp only [List.size_toArray] at hsz
 have hfl : fs.size = 4 := by have := congrArg List.length hf; simpa using this
 have fld : ∀ (i o : Nat) (ty : TypeId), ([(0, t1), (1, t2), (2, t3), (3, t4)] : List (Nat × TypeId))[i]? = some (o, ty) → ∃ (f : Field) (x : DataW H × List MemPlace), fs[i]? = some f ∧ f.offset = o ∧ f.type = ty ∧ DataW.trod enc P w base spare held m ty ((cl.drop o).take (P.cellsOf ty)) = some x := by
  intro i o ty hi
  rw [← hf, List.getElem?_map] at hi
  obtain ⟨f, JN, Ek⟩ := Option.map_eq_some_iff.1 hi
  cases Ek
  have hf3 : fs[i]? = some f := by simpa using JN
  have := MB i f hf3
  have hi4 : i < xs.length := by rw [Sw]; exact (Array.getElem?_eq_some_iff.1 hf3).1
  rw [List.getElem?_eq_getElem hi4] at this
  exact ⟨f, _, hf3, rfl, rfl, this⟩
 match cl, hsz with
 | [w0, w1, w2, w3], _ =>
  obtain ⟨_, x1, _, _, _, a1⟩ := fld 0 0 t1 rfl
  obtain ⟨_, x2, _, _, _, a2⟩ := fld 1 1 t2 rfl
  obtain ⟨_, x3, _, _, _, a3⟩ := fld 2 2 t3 rfl
  obtain ⟨_, x4, _, _, _, a4⟩ := fld 3 3 t4 rfl
  rw [c1] at a1
  rw [c2] at a2
  rw [c3] at a3
  rw [c4] at a4
  have sl : ∀ {ty e : TypeId} {u : Value} {x : DataW H × List MemPlace}, P.underlying ty = some (.slice e) → DataW.trod enc P w base spare held m ty [u] = some x → ∃ A n c, u = .slice A n c := by
   intro ty e u x hu h
   rcases Go.Deep.open_slice hu h with ⟨h0, _⟩ | ⟨a, len, cap, _, _, _, _, h0, _⟩
   ·cases h0; exact ⟨_, _, _, rfl⟩
   ·cases h0; exact ⟨_, _, _, rfl⟩
  obtain ⟨A1, n1, q1, rfl⟩ := sl u1 a1
  obtain ⟨A2, n2, q2, rfl⟩ := sl u2 a2
  obtain ⟨A4, n4, q4, rfl⟩ := sl u4 a4
  obtain ⟨lk, b3, _⟩ := DataW.trod_int u3 a3
  have b3' : w2 = .int .i64 lk := by simpa using b3
  subst b3'
  obtain ⟨fs', f1, f2, f3, f4⟩ := Bp u1 u11 c11 k1 ⟨d1, by decide⟩ a1
  obtain ⟨l2, g1, g2, g3, g4⟩ := mW.rs (E := bl) (mW.uA u2 k2 ⟨d2, by decide⟩ ⟨m, a2⟩) (· 0) Lm
  obtain ⟨l4, j1, j2, j3, j4⟩ := mW.rs (E := ij) (mW.uA u4 k4 ⟨d4, by decide⟩ ⟨m, a4⟩) Tf Ll
  subst f1; subst g1; subst j1
  exact ⟨⟨A1, q1, A2, q2, A4, q4⟩, ⟨fs', l2, lk, l4⟩, rfl, ⟨f3, g3, j3, f2, f4, g4, j4⟩⟩
end
end Go.Proofs
namespace Go.Proofs
open Go.AF
set_option maxRecDepth 100000
set_option maxHeartbeats 1000000
attribute [local irreducible] aI c7 fm cy aB eN aE aM aX bk bJ aP
def cH (p : bZ) : List Int := (p.dx.take 4).map (aH · 4)
def ku (nc : Nat) (c : oy) : oy := if nc = 0 then ⟨2, 0, 0⟩ else ⟨aH c.way 3, aH c.ch nc, aH c.bS 8⟩
def fU (p : bZ) : List oy := (p.cases.take 8).map (ku (cH p).length)
def dk (p : bZ) : List (List cI) := if (p.funcs.take 5).length = 0 then [[.zero]] else p.funcs.take 5
def gI (f : List cI) : List cI := if (f.take 20).length = 0 then [.zero] else f.take 20
def ua (p : bZ) (f : List cI) : List cI := (gI f).map (xX (dk p).length (cH p).length (fU p).length (aH p.aK 4) (gI f).length)
def ee (p : bZ) : bZ := ⟨(dk p).map (ua p), cH p, aH p.aK 4, fU p⟩
theorem xk (p : bZ) : 1 ≤ (dk p).length ∧ (dk p).length ≤ 5 := by
 unfold dk
 split
 ·simp
 ·rename_i h; rw [List.length_take] at h ⊢; omega
theorem CC (f : List cI) : 1 ≤ (gI f).length ∧ (gI f).length ≤ 20 := by
 unfold gI
 split
 ·simp
 ·rename_i h; rw [List.length_take] at h ⊢; omega
theorem CD (p : bZ) : (cH p).length ≤ 4 := by unfold cH; rw [List.length_map, List.length_take]; omega
theorem CE (p : bZ) : (fU p).length ≤ 8 := by unfold fU; rw [List.length_map, List.length_take]; omega
theorem lk10 (p : bZ) : 0 ≤ aH p.aK 4 ∧ aH p.aK 4 ≤ 3 := by have := c5 (n := p.aK) (m := 4) (by omega) (by omega); omega
theorem CF (p : bZ) : ej (ee p) := by
 have h1 := xk p
 have h2 := CD p
 have h3 := CE p
 have h4 := lk10 p
 refine ⟨by simp [ee]; omega, by show (cH p).length ≤ 8; omega, by show 0 ≤ aH p.aK 4 ∧ aH p.aK 4 ≤ 8; omega, by show (fU p).length ≤ 32; omega, fun c hc => ?_, fun f hf => ?_⟩
 ·obtain ⟨c0, _, rfl⟩ := List.mem_map.1 hc
  have a3 := c5 (n := c0.way) (m := 3) (by omega) (by omega)
  have a8 := c5 (n := c0.bS) (m := 8) (by omega) (by omega)
  unfold ku
  split
  ·exact ⟨⟨by decide, by decide, fun h => absurd rfl h⟩, by decide, by decide⟩
  ·rename_i hn
   have ac := c5 (n := c0.ch) (m := ((cH p).length : Int)) (by omega) (by omega)
   exact ⟨⟨by dsimp only; omega, by dsimp only; omega, fun _ => ⟨ac.1, ac.2, a8.1, a8.2⟩⟩, a8.1, a8.2⟩
 ·obtain ⟨f0, _, rfl⟩ := List.mem_map.1 hf
  have h5 := CC f0
  have hl : (ua p f0).length = (gI f0).length := by simp [ua]
  refine ⟨by omega, by omega, fun i hi => ?_⟩
  obtain ⟨i0, _, rfl⟩ := List.mem_map.1 hi
  refine cZ.ok ?_
  have e1 : (ee p).funcs.length = (dk p).length := by simp [ee]
  rw [e1, hl]
  show cZ _ ((cH p).length : Nat) ((fU p).length : Nat) (aH p.aK 4) _ _
  exact O5 (by omega) (by omega) (by omega) h4 (by omega)
theorem RZ : bj Tryz.prog 61 63 4 32 [.int .i64 0, .int .i64 0, .int .i64 0, .int .i64 0] := bj.mk' (zv := .agg #[.int .i64 0, .int .i64 0, .int .i64 0, .int .i64 0]) (by kernel_rfl) (by kernel_rfl) rfl (by omega)
theorem R7 : bj Tryz.prog 57 163 3 24 [.int .i64 0, .int .i64 0, .int .i64 0] := bj.mk' (zv := .agg #[.int .i64 0, .int .i64 0, .int .i64 0]) (by kernel_rfl) (by kernel_rfl) rfl (by omega)
theorem Ww : bj Tryz.prog 56 61 1 24 [.slice none 0 0] := bj.mk' (zv := .slice none 0 0) (by kernel_rfl) (by kernel_rfl) rfl (by omega)
abbrev yB (pa : PA) (p : bZ) : Value := .agg #[.slice pa.f p.funcs.length pa.fc, .slice pa.c p.dx.length pa.cc, .int .i64 p.aK, .slice pa.k p.cases.length pa.kc]
abbrev prgC (A : Option Addr) (n c : Nat) (B : Option Addr) (m d : Nat) (lk : Int) (C : Option Addr) (q e : Nat) : List Value := [.slice A n c, .slice B m d, .int .i64 lk, .slice C q e]
section
variable {R : Mem} {L L' : List HP} {M : Mem} {K : Value → Mem → Prop} {Kp : List PanicEntry → Mem → Prop} {pa : PA} {p : bZ}
theorem take_succ {α : Type} {l : List α} {j : Nat} {v : α} (h : l[j]? = some v) : l.take (j + 1) = l.take j ++ [v] := by
 obtain ⟨hj, rfl⟩ := List.getElem?_eq_some_iff.1 h
 rw [List.take_add_one, List.getElem?_eq_getElem hj]; rfl
def xY (R : Mem) (A : Option Addr) (c : Nat) (fs : List (List cI)) : Prop := ∃ ts : List (Option Addr × Nat × Nat), RS xQ R A c ts ∧ ts.length = fs.length ∧ ∀ (i : Nat) t f, ts[i]? = some t → fs[i]? = some f → t.2.1 = f.length ∧ f.length ≤ 9223372036854775807 ∧ f.length ≤ t.2.2 ∧ (0 < f.length → RS jm R t.1 t.2.2 f)
theorem xY.le {R R' : Mem} {A : Option Addr} {c : Nat} {fs : List (List cI)} (h : xY R A c fs) (hle : R.le R') : xY R' A c fs := by
 obtain ⟨ts, h1, h2, h3⟩ := h
 exact ⟨ts, h1.le hle, h2, fun i t f a b => ⟨(h3 i t f a b).1, (h3 i t f a b).2.1, (h3 i t f a b).2.2.1, fun h => ((h3 i t f a b).2.2.2 h).le hle⟩⟩
theorem xY.cut {R : Mem} {A : Option Addr} {c : Nat} {fs : List (List cI)} (h : xY R A c fs) (q : Nat) : xY R (lO A 0 c 1) (c - 0) (fs.take q) := by
 obtain ⟨ts, h1, h2, h3⟩ := h
 have h4 := (h1.drop 0 (Nat.zero_le _)).take q
 rw [List.drop_zero] at h4
 refine ⟨ts.take q, h4, by rw [List.length_take, List.length_take, h2], fun i t f a b => ?_⟩
 rw [List.getElem?_take] at a b
 split at a
 ·rename_i hi
  rw [if_pos hi] at b
  exact h3 i t f a b
 ·cases a
theorem RS.cut {α : Type} {E : hU α} {R : Mem} {A : Option Addr} {c : Nat} {l : List α} (h : RS E R A c l) (q : Nat) : RS E R (lO A 0 c E.z) (c - 0) (l.take q) := by
 have h4 := (h.drop 0 (Nat.zero_le _)).take q
 rwa [List.drop_zero] at h4
abbrev dB (k : Nat) (A : Option Addr) (n c : Nat) (B : Option Addr) (m d : Nat) (lk : Int) (C : Option Addr) (q e : Nat) : HP := pt k (prgC A n c B m d lk C q e) 59
theorem Ln (h : Hp R L M) (ha : qI R pa p) (k : ∀ R' CG q us M', R.le R' → CG.f = some ⟨q, 0, none⟩ → us.length = (ee p).funcs.length → (∀ (i : Nat) t f, us[i]? = some t → (ee p).funcs[i]? = some f → RS jm R' t.1 t.2.2 f ∧ t.2.1 = f.length) → RS ij R' CG.k CG.kc (ee p).cases → RS bl R' CG.c CG.cc (ee p).dx →
  Hp R' (bE xQ 61 (some ⟨q, 0, none⟩) CG.fc us :: L) M' → K (yB CG (ee p)) M') :
  aa Tryz.prog 24 #[yB pa p] M K Kp := by
 refine qj ?_
 have SU := CD p
 have hkl := CE p
 have n1 := ha.n1
 have n2 := ha.n2
 have n3 := ha.n3
 have le1 := ha.le1
 refine aj h ?_
 clear h
 intro k1 M h
 refine aj h ?_
 clear h
 intro k3 M h
 refine aG h (bG (c6 ?_))
 refine aj h ?_
 clear h
 intro k9 M h
 repeat (refine au h ?_; clear h; intro M h)
 generalize hlk : aH p.aK 4 = lk at h
 have h0 : Hp R (bE bl 3 none 0 [] :: dB k9 none 0 0 none 0 0 lk none 0 0 :: dB k3 none 0 0 none 0 0 0 none 0 0 :: dB k1 pa.f p.funcs.length pa.fc pa.c p.dx.length pa.cc p.aK pa.k p.cases.length pa.kc :: L) M := h.bY bl 3
 clear h
 refine ⟨fun vs M => vs = [] ∧ ∃ B c, Hp R (bE bl 3 B c (cH p) :: dB k9 none 0 0 B (cH p).length c lk none 0 0 :: dB k3 none 0 0 none 0 0 0 none 0 0 :: dB k1 pa.f p.funcs.length pa.fc pa.c p.dx.length pa.cc p.aK pa.k p.cases.length pa.kc :: L) M,
  ⟨fun dd vs M => ∃ (j : Nat) (B : Option Addr) (c : Nat), vs = [.int .i64 (j : Int)] ∧ dd = 4 - j ∧ j ≤ 4 ∧ j ≤ p.dx.length ∧ Hp R (bE bl 3 B c ((p.dx.take j).map (aH · 4)) :: dB k9 none 0 0 B j c lk none 0 0 :: dB k3 none 0 0 none 0 0 0 none 0 0 :: dB k1 pa.f p.funcs.length pa.fc pa.c p.dx.length pa.cc p.aK pa.k p.cases.length pa.kc :: L) M, ⟨_, 0, none, 0, rfl, rfl, by omega, by omega, h0⟩, ?_⟩, ?_⟩
 ·clear h0
  rintro dd _ nn M ⟨j, B, c, he, hd, hj, Lr, h⟩
  simp only [List.cons.injEq, Value.int.injEq, and_true, true_and] at he
  subst he
  have hlen : ((p.dx.take j).map (aH · 4)).length = j := by rw [List.length_map, List.length_take]; omega
  have hout : ¬ (j < p.dx.length ∧ j < 4) → (p.dx.take j).map (aH · 4) = cH p ∧ j = (cH p).length := fun hn => by
   have e : p.dx.take j = p.dx.take 4 := by
    rcases Nat.lt_or_ge j 4 with h4 | h4
    ·rw [List.take_of_length_le (by omega), List.take_of_length_le (by omega)]
    ·rw [show j = 4 from by omega]
   refine ⟨by rw [cH, e], ?_⟩
   rw [← hlen, e]; rfl
  refine aF h ?_
  by_cases hc : j < p.dx.length ∧ j < 4
  ·obtain ⟨c1, c2⟩ := hc
   refine wc (by simp; omega) (wc (by simp; omega) ?_)
   have hr := ha.dx (by omega)
   obtain ⟨b, o, hb⟩ := hr.some (by omega) (by decide)
   rw [hb] at hr h
   obtain ⟨v, hv⟩ := aU c1
   have R8 : (p.dx.take (j + 1)).map (aH · 4) = (p.dx.take j).map (aH · 4) ++ [aH v 4] := by rw [take_succ hv, List.map_append]; rfl
   have hstep : ∀ M B c, Hp R (bE bl 3 B c ((p.dx.take j).map (aH · 4) ++ [aH v 4]) :: dB k9 none 0 0 B (j + 1) c lk none 0 0 :: dB k3 none 0 0 none 0 0 0 none 0 0 :: dB k1 pa.f p.funcs.length pa.fc (some ⟨b, o, none⟩) p.dx.length pa.cc p.aK pa.k p.cases.length pa.kc :: L) M →
     ∃ (j' : Nat) (B : Option Addr) (c : Nat), [Value.int .i64 (IntKind.wrap .i64 ((j : Int) + 1))] = [.int .i64 (j' : Int)] ∧ 4 - (j + 1) = 4 - j' ∧ j' ≤ 4 ∧ j' ≤ p.dx.length ∧ Hp R (bE bl 3 B c ((p.dx.take j').map (aH · 4)) :: dB k9 none 0 0 B j' c lk none 0 0 :: dB k3 none 0 0 none 0 0 0 none 0 0 :: dB k1 pa.f p.funcs.length pa.fc pa.c p.dx.length pa.cc p.aK pa.k p.cases.length pa.kc :: L) M := by
    intro M B c h
    refine ⟨j + 1, B, c, by rw [aW (by omega)], rfl, by omega, by omega, ?_⟩
    rw [R8, hb]
    exact h
   refine ⟨fun vs M => vs = [] ∧ ∃ B c, Hp R (bE bl 3 B c ((p.dx.take j).map (aH · 4) ++ [aH v 4]) :: dB k9 none 0 0 B (j + 1) c lk none 0 0 :: dB k3 none 0 0 none 0 0 0 none 0 0 :: dB k1 pa.f p.funcs.length pa.fc (some ⟨b, o, none⟩) p.dx.length pa.cc p.aK pa.k p.cases.length pa.kc :: L) M, ?_, ?_⟩
   ·refine aF h ⟨by omega, by omega, bg ?_⟩
    refine be (Src.at hr.src h (i := j) (j := 0) hv rfl (by simp [bl])) ?_
    refine ⟨?_, ?_, trivial⟩
    ·refine aF h (bG (c6 ?_))
     refine aj h ?_
     clear h
     intro AG M h
     refine h.eF (A := B) dX [aH v 4] rfl hlen.symm rfl (by simp; omega) ?_
     clear h; intro A' c' M h
     refine aQ ?_
     refine au h ?_
     clear h
     intro M h
     exact ⟨rfl, _, _, h.sub br⟩
    ·refine bG (c6 (aF h ?_))
     refine aj h ?_
     clear h
     intro AG M h
     refine h.eF (A := B) dX [aH v 4] rfl hlen.symm rfl (by simp; omega) ?_
     clear h; intro A' c' M h
     refine aQ ?_
     refine au h ?_
     clear h
     intro M h
     exact ⟨rfl, _, _, h.sub br⟩
   ·clear h
    rintro nn M ⟨_, B', c', h⟩
    exact ⟨4 - (j + 1), by omega, hstep M B' c' h⟩
  ·have ho := hout hc
   obtain ⟨e1, e2⟩ := ho
   rw [e1] at h
   refine IU ⟨rfl, B, c, ?_⟩ fun h1 h2 => absurd ⟨by omega, by omega⟩ hc
   rw [← e2]; exact h
 clear h0
 rintro nn M ⟨_, B, c, h⟩
 clear nn
 have h0 : Hp R (bE ij 163 none 0 [] :: bE bl 3 B c (cH p) :: dB k9 none 0 0 B (cH p).length c lk none 0 0 :: dB k3 none 0 0 none 0 0 0 none 0 0 :: dB k1 pa.f p.funcs.length pa.fc pa.c p.dx.length pa.cc p.aK pa.k p.cases.length pa.kc :: L) M := h.bY ij _
 clear h
 refine ⟨fun vs M => vs = [] ∧ ∃ C d, Hp R (bE ij 163 C d (fU p) :: bE bl 3 B c (cH p) :: dB k9 none 0 0 B (cH p).length c lk C (fU p).length d :: dB k3 none 0 0 none 0 0 0 none 0 0 :: dB k1 pa.f p.funcs.length pa.fc pa.c p.dx.length pa.cc p.aK pa.k p.cases.length pa.kc :: L) M,
  ⟨fun dd vs M => ∃ (j : Nat) (C : Option Addr) (d : Nat), vs = [.int .i64 (j : Int)] ∧ dd = 8 - j ∧ j ≤ 8 ∧ j ≤ p.cases.length ∧ Hp R (bE ij 163 C d ((p.cases.take j).map (ku (cH p).length)) :: bE bl 3 B c (cH p) :: dB k9 none 0 0 B (cH p).length c lk C j d :: dB k3 none 0 0 none 0 0 0 none 0 0 :: dB k1 pa.f p.funcs.length pa.fc pa.c p.dx.length pa.cc p.aK pa.k p.cases.length pa.kc :: L) M, ⟨_, 0, none, 0, rfl, rfl, by omega, by omega, h0⟩, ?_⟩, ?_⟩
 ·clear h0
  rintro dd _ nn M ⟨j, C, d, he, hd, hj, Lr, h⟩
  simp only [List.cons.injEq, Value.int.injEq, and_true, true_and] at he
  subst he
  have hlen : ((p.cases.take j).map (ku (cH p).length)).length = j := by rw [List.length_map, List.length_take]; omega
  have hout : ¬ (j < p.cases.length ∧ j < 8) → (p.cases.take j).map (ku (cH p).length) = fU p ∧ j = (fU p).length := fun hn => by
   have e : p.cases.take j = p.cases.take 8 := by
    rcases Nat.lt_or_ge j 8 with h4 | h4
    ·rw [List.take_of_length_le (by omega), List.take_of_length_le (by omega)]
    ·rw [show j = 8 from by omega]
   refine ⟨by rw [fU, e], ?_⟩
   rw [← hlen, e]; rfl
  refine aF h ?_
  by_cases hc : j < p.cases.length ∧ j < 8
  ·obtain ⟨c1, c2⟩ := hc
   refine wc (by simp; omega) (wc (by simp; omega) ?_)
   have hr := ha.cases (by omega)
   obtain ⟨b, o, hb⟩ := hr.some (by omega) (by decide)
   rw [hb] at hr h
   obtain ⟨v, hv⟩ := aU c1
   have R8 : (p.cases.take (j + 1)).map (ku (cH p).length) = (p.cases.take j).map (ku (cH p).length) ++ [ku (cH p).length v] := by rw [take_succ hv, List.map_append]; rfl
   refine aF h ⟨by omega, by omega, bg ?_⟩
   refine be (Src.at hr.src h (i := j) (j := 0) hv rfl (by simp [ij])) ?_
   refine be (Src.at hr.src h (i := j) (j := 1) hv rfl (by simp [ij]; omega)) ?_
   refine be (Src.at hr.src h (i := j) (j := 2) hv rfl (by simp [ij]; omega)) ?_
   refine aj h ?_
   clear h
   intro EO M h
   repeat (first|refine bG ?_|(refine aj h ?_;clear h;intro kb M h)|(refine au h ?_;clear h;intro M h)|refine St.to h ?_|(apply Exists.intro;(repeat apply Exists.intro);refine And.intro rfl ?_)|refine av ?_|refine ai ?_|refine ae ?_)
   refine ⟨fun vs M => vs = [] ∧ Hp R (pt kb (ij.f (ku (cH p).length v)) 163 :: bE ij 163 C d ((p.cases.take j).map (ku (cH p).length)) :: bE bl 3 B c (cH p) :: dB k9 none 0 0 B (cH p).length c lk C j d :: dB k3 none 0 0 none 0 0 0 none 0 0 :: dB k1 pa.f p.funcs.length pa.fc pa.c p.dx.length pa.cc p.aK (some ⟨b, o, none⟩) p.cases.length pa.kc :: L) M, ?_, ?_⟩
   ·refine aY.2 ⟨fun hz => ?_, fun hz => ?_⟩
    ·have ez : ku (cH p).length v = ⟨2, 0, 0⟩ := by unfold ku; rw [if_pos (by omega)]
     rw [ez]
     repeat (first|(refine aj h ?_;clear h;intro kb M h)|(refine au h ?_;clear h;intro M h)|refine St.to h ?_|(apply Exists.intro;(repeat apply Exists.intro);refine And.intro rfl ?_)|refine av ?_|refine ai ?_|refine ae ?_)
     exact h.sub br
    ·have ez : ku (cH p).length v = ⟨aH v.way 3, aH v.ch (cH p).length, aH v.bS 8⟩ := by unfold ku; rw [if_neg (by omega)]
     rw [ez]
     exact ⟨rfl, h.sub br⟩
   ·clear h
    rintro nn M ⟨_, h⟩
    generalize ku (cH p).length v = w at h R8
    have h : Hp R (pt kb [.int .i64 w.way, .int .i64 w.ch, .int .i64 w.bS] 163 :: bE ij 163 C d ((p.cases.take j).map (ku (cH p).length)) :: bE bl 3 B c (cH p) :: dB k9 none 0 0 B (cH p).length c lk C j d :: dB k3 none 0 0 none 0 0 0 none 0 0 :: dB k1 pa.f p.funcs.length pa.fc pa.c p.dx.length pa.cc p.aK (some ⟨b, o, none⟩) p.cases.length pa.kc :: L) M := h
    refine aF h (aG h (aG h (aG h ?_)))
    refine aj h ?_
    clear h
    intro W6 M h
    refine h.eF (A := C) R7 [w] rfl hlen.symm rfl (by simp; omega) ?_
    clear h; intro C' d' M h
    refine aQ ?_
    refine au h ?_
    clear h
    intro M h
    refine ⟨8 - (j + 1), by omega, j + 1, C', d', by rw [aW (by omega)], rfl, by omega, by omega, ?_⟩
    rw [R8, hb]
    exact h.sub br
  ·have ho := hout hc
   obtain ⟨e1, e2⟩ := ho
   rw [e1] at h
   refine IU ⟨rfl, C, d, ?_⟩ fun h1 h2 => absurd ⟨by omega, by omega⟩ hc
   rw [← e2]; exact h
 clear h0
 rintro nn M ⟨_, C, d, h⟩
 clear nn
 obtain ⟨R1, l1, rC, h1⟩ := h.cW C
 obtain ⟨R2, l2, rB, h2⟩ := h1.cW B
 clear h h1
 replace rC := rC.le l2
 have lD : R.le R2 := Mem.le_trans l1 l2
 replace h := h2
 clear h2 l1 l2
 have e5 : Int.toNat (if (5 : Int) < ((p.funcs.length : Nat) : Int) then 5 else ((p.funcs.length : Nat) : Int)) - 0 = min 5 p.funcs.length := by split <;> omega
 refine aF h (aF h ⟨by omega, by omega, by split <;> omega, by split <;> omega, by omega, by split <;> omega, ?_⟩)
 simp only [e5, Int.toNat_natCast]
 refine ⟨fun vs M => ∃ R' A c', vs = [.slice A (dk p).length c'] ∧ R2.le R' ∧ xY R' A c' (dk p) ∧ Hp R' (dB k9 none 0 0 B (cH p).length c lk C (fU p).length d :: dB k3 none 0 0 none 0 0 0 none 0 0 :: dB k1 pa.f p.funcs.length pa.fc pa.c p.dx.length pa.cc p.aK pa.k p.cases.length pa.kc :: L) M, ?_, ?_⟩
 ·refine aY.2 ⟨fun hz => ?_, fun hz => ?_⟩
  ·have ez : dk p = [[.zero]] := by unfold dk; rw [if_pos (by rw [List.length_take]; omega)]
   rw [ez]
   refine aj h ?_
   clear h
   intro ka M h
   obtain ⟨R3, l3, r3, h3⟩ := ((h.pt ka).gW (E := jm) (l := [.zero]) rfl).cW (some ⟨ka, 0, none⟩)
   clear h
   refine aj h3 ?_
   clear h3; intro kb M h
   obtain ⟨R4, l4, r4, h4⟩ := ((h.pt kb).gW (E := xQ) (l := [(some ⟨ka, 0, none⟩, 1, 1)]) rfl).cW (some ⟨kb, 0, none⟩)
   clear h
   refine ⟨R4, _, _, rfl, Mem.le_trans l3 l4, ⟨_, r4, rfl, fun i t f a b => ?_⟩, h4⟩
   match i, a, b with
   | 0, a, b => cases a; cases b; exact ⟨rfl, by simp, by simp, fun _ => r3.le l4⟩
   | i + 1, a, b => simp at a
  ·have ez : dk p = p.funcs.take 5 := by unfold dk; rw [if_neg (by rw [List.length_take]; omega)]
   have hf : xY R pa.f pa.fc p.funcs := ha.funcs (by omega)
   rw [ez]
   refine ⟨R2, _, _, by rw [List.length_take], Mem.le_refl _, (hf.cut 5).le lD, h⟩
 clear h
 rintro nn A' n' c' M ⟨R3, A, cA, he, l3, hrows, h⟩
 simp only [List.cons.injEq, Value.slice.injEq, and_true] at he
 obtain ⟨rfl, rfl, rfl⟩ := he
 clear nn e5
 replace rC := rC.le l3
 replace rB := rB.le l3
 have Rj : R.le R3 := Mem.le_trans lD l3
 clear l3 lD
 have hfl := xk p
 refine h.yH (E := xQ) (a := (none, 0, 0)) Ww (by omega) ?_
 clear h; intro q M h
 refine aQ ?_
 refine au h ?_
 clear h
 intro M h
 obtain ⟨ts, hts1, hts2, hts3⟩ := hrows
 refine ⟨fun dd vs M => ∃ (j : Nat) (R4 : Mem) (us : List (Option Addr × Nat × Nat)), vs = [.int .i64 (j : Int)] ∧ dd = (dk p).length - j ∧ j ≤ (dk p).length ∧ R3.le R4 ∧ us.length = (dk p).length ∧ (∀ (i : Nat) t f, i < j → us[i]? = some t → (dk p)[i]? = some f → RS jm R4 t.1 t.2.2 (ua p f) ∧ t.2.1 = (ua p f).length) ∧
  Hp R4 (bE xQ 61 (some ⟨q, 0, none⟩) (dk p).length us :: dB k9 (some ⟨q, 0, none⟩) (dk p).length (dk p).length B (cH p).length c lk C (fU p).length d :: dB k3 none 0 0 none 0 0 0 none 0 0 :: dB k1 pa.f p.funcs.length pa.fc pa.c p.dx.length pa.cc p.aK pa.k p.cases.length pa.kc :: L) M,
  ⟨_, 0, R3, List.replicate (dk p).length (none, 0, 0), rfl, rfl, by omega, Mem.le_refl _, by simp, fun i t f hi => absurd hi (by omega), h.sub br⟩, ?_⟩
 clear h
 rintro dd _ nn M ⟨j, R4, us, he, hd, hj, l4, Tg, FU, h⟩
 simp only [List.cons.injEq, Value.int.injEq, and_true, true_and] at he
 subst he
 refine aN.2 ⟨fun hlt => ?_, fun hge => ?_⟩
 ·obtain ⟨t, ht⟩ := aU (l := ts) (i := j) (by omega)
  obtain ⟨f, hf⟩ := aU (l := dk p) (i := j) (by omega)
  obtain ⟨u1, u2, u3, u4⟩ := hts3 j t f ht hf
  obtain ⟨tA, tn, tc⟩ := t
  dsimp only at u1 u3 u4
  subst u1
  have Ie := hts1.le l4
  obtain ⟨b, o, hb⟩ := Ie.some (by omega) (by decide)
  rw [hb] at Ie
  rw [hb]
  refine ⟨by omega, hlt, bg ?_⟩
  refine GB (Src.at Ie.src h (i := j) (j := 0) ht rfl (by simp [xQ])) ?_
  dsimp only
  have e20 : Int.toNat (if (20 : Int) < ((f.length : Nat) : Int) then 20 else ((f.length : Nat) : Int)) - 0 = min 20 f.length := by split <;> omega
  refine ⟨by omega, by omega, by split <;> omega, by split <;> omega, by omega, by split <;> omega, ?_⟩
  simp only [e20, Int.toNat_natCast]
  refine ⟨fun vs M => ∃ R' A c', vs = [.slice A (gI f).length c'] ∧ R4.le R' ∧ RS jm R' A c' (gI f) ∧ Hp R' (bE xQ 61 (some ⟨q, 0, none⟩) (dk p).length us :: dB k9 (some ⟨q, 0, none⟩) (dk p).length (dk p).length B (cH p).length c lk C (fU p).length d :: dB k3 none 0 0 none 0 0 0 none 0 0 :: dB k1 pa.f p.funcs.length pa.fc pa.c p.dx.length pa.cc p.aK pa.k p.cases.length pa.kc :: L) M, ?_, ?_⟩
  ·refine aY.2 ⟨fun hz => ?_, fun hz => ?_⟩
   ·have ez : gI f = [.zero] := by unfold gI; rw [if_pos (by rw [List.length_take]; omega)]
    rw [ez]
    refine aj h ?_
    clear h
    intro ka M h
    obtain ⟨R5, l5, r5, h5⟩ := ((h.pt ka).gW (E := jm) (l := [.zero]) rfl).cW (some ⟨ka, 0, none⟩)
    clear h
    exact ⟨R5, _, _, rfl, l5, r5, h5⟩
   ·have ez : gI f = f.take 20 := by unfold gI; rw [if_neg (by rw [List.length_take]; omega)]
    rw [ez]
    refine ⟨R4, _, _, by rw [List.length_take]; rfl, Mem.le_refl _, RS.le (RS.cut (E := jm) (u4 (by omega)) 20) l4, h⟩
  clear h
  rintro nn R9 AJ c'' M ⟨R5, F, cF, he, l5, hF, h⟩
  simp only [List.cons.injEq, Value.slice.injEq, and_true] at he
  obtain ⟨rfl, rfl, rfl⟩ := he
  clear nn e20
  have h5 := CC f
  refine aj h ?_
  clear h
  intro kr M h
  have h0 := (h.pt kr).gW (E := jm) (l := []) rfl
  clear h
  refine ⟨fun dd vs M => ∃ (i : Nat) (A : Option Addr) (c' : Nat), vs = [.slice A i c', .int .i64 (i : Int)] ∧ dd = (gI f).length - i ∧ i ≤ (gI f).length ∧ Hp R5 (bE jm 63 A c' (((gI f).take i).map (xX (dk p).length (cH p).length (fU p).length lk (gI f).length)) :: bE xQ 61 (some ⟨q, 0, none⟩) (dk p).length us :: dB k9 (some ⟨q, 0, none⟩) (dk p).length (dk p).length B (cH p).length c lk C (fU p).length d :: dB k3 none 0 0 none 0 0 0 none 0 0 :: dB k1 pa.f p.funcs.length pa.fc pa.c p.dx.length pa.cc p.aK pa.k p.cases.length pa.kc :: L) M,
   ⟨_, 0, _, _, rfl, rfl, by omega, h0⟩, ?_⟩
  clear h0
  rintro dd _ R9 AJ c'' nn M ⟨i, A2, c2, he, Py, hi, h⟩
  simp only [List.cons.injEq, Value.int.injEq, Value.slice.injEq, and_true, true_and] at he
  obtain ⟨⟨rfl, rfl, rfl⟩, rfl⟩ := he
  have hlen : (((gI f).take AJ).map (xX (dk p).length (cH p).length (fU p).length lk (gI f).length)).length = AJ := by rw [List.length_map, List.length_take]; omega
  refine aN.2 ⟨fun HV => ?_, fun RL => ?_⟩
  ·obtain ⟨x, hx⟩ := aU (l := gI f) (i := AJ) (by omega)
   obtain ⟨b', o', hb'⟩ := hF.some (by omega) (by decide)
   rw [hb'] at hF
   rw [hb']
   refine ⟨by omega, HV, bg ?_⟩
   refine be (Src.at hF.src h (i := AJ) (j := 0) hx rfl (by simp [jm])) ?_
   refine be (Src.at hF.src h (i := AJ) (j := 1) hx rfl (by simp [jm]; omega)) ?_
   refine be (Src.at hF.src h (i := AJ) (j := 2) hx rfl (by simp [jm]; omega)) ?_
   refine be (Src.at hF.src h (i := AJ) (j := 3) hx rfl (by simp [jm]; omega)) ?_
   repeat (first|(refine aj h ?_;clear h;intro kb M h)|(refine au h ?_;clear h;intro M h)|refine St.to h ?_|(apply Exists.intro;(repeat apply Exists.intro);refine And.intro rfl ?_)|refine av ?_|refine ai ?_|refine ae ?_)
   refine RY h (by omega) ?_
   clear h; intro M h
   refine ⟨_, _, _, _, rfl, ?_⟩
   refine aj h ?_
   clear h
   intro kz M h
   refine h.eF (A := R9) RZ [xX (dk p).length (cH p).length (fU p).length lk (gI f).length x] rfl hlen.symm rfl (by simp; omega) ?_
   clear h; intro A3 c3 M h
   refine aQ ⟨(gI f).length - (AJ + 1), by omega, AJ + 1, A3, c3, ?_, rfl, by omega, ?_⟩
   ·rw [aW (by omega)]
   ·rw [take_succ hx, List.map_append]
    exact h.sub br
  ·have hin : AJ = (gI f).length := by omega
   subst hin
   rw [List.take_of_length_le (Nat.le_refl _)] at h
   obtain ⟨R6, l6, r6, h6⟩ := h.cW R9
   clear h
   refine aF h6 ⟨by omega, by omega, bg ?_⟩
   obtain ⟨u, hu⟩ := aU (l := us) (i := j) (by omega)
   refine iR (a' := (R9, (gI f).length, c'')) j 0 h6 hu (by decide) rfl (by simp [xQ]) ?_
   clear h6; intro M h
   refine ⟨(dk p).length - (j + 1), by omega, j + 1, R6, _, by rw [aW (by omega)], rfl, by omega, Mem.le_trans l4 (Mem.le_trans l5 l6), ?_, ?_, h.sub br⟩
   ·simp [Tg]
   ·intro i t' f' hi' ht' Gh
    by_cases hij : i = j
    ·subst hij
     rw [List.getElem?_set_self (by omega)] at ht'
     cases ht'
     rw [hf] at Gh
     cases Gh
     subst hlk
     exact ⟨r6, by simp [ua]⟩
    ·rw [List.getElem?_set_ne (by omega)] at ht'
     obtain ⟨g1, g2⟩ := FU i t' f' (by omega) ht' Gh
     exact ⟨g1.le (Mem.le_trans l5 l6), g2⟩
 ·have h5 : Hp R4 (dB k9 (some ⟨q, 0, none⟩) (dk p).length (dk p).length B (cH p).length c lk C (fU p).length d :: dB k3 none 0 0 none 0 0 0 none 0 0 :: bE xQ 61 (some ⟨q, 0, none⟩) (dk p).length us :: L) M := h.sub br
  clear h
  replace h := h5
  clear h5
  repeat (first|(refine aj h ?_;clear h;intro kb M h)|(refine au h ?_;clear h;intro M h)|refine St.to h ?_|(apply Exists.intro;(repeat apply Exists.intro);refine And.intro rfl ?_)|refine av ?_|refine ai ?_|refine ae ?_)
  subst hlk
  have ef : (ee p).funcs.length = (dk p).length := by simp [ee]
  have hk := k R4 ⟨some ⟨q, 0, none⟩, (dk p).length, B, c, C, d⟩ q us M (Mem.le_trans Rj l4) rfl (by rw [Tg, ef]) (fun i t f a b => ?_) (rC.le l4) (rB.le l4) (h.sub br)
  ·rw [yB, ef] at hk
   exact hk
  ·have b' : ((dk p).map (ua p))[i]? = some f := b
   rw [List.getElem?_map] at b'
   obtain ⟨f0, b1, rfl⟩ := Option.map_eq_some_iff.1 b'
   exact FU i t f0 (by have := (List.getElem?_eq_some_iff.1 b1).1; omega) a b1
theorem O6 (h : Hp R L M) (ha : qI R pa p) (k : ∀ R' CG M', R.le R' → kJ R' CG (ee p) → RS bl R' CG.c CG.cc (ee p).dx → Hp R' L M' → K (yB CG (ee p)) M') :
  aa Tryz.prog 24 #[yB pa p] M K Kp := by
 refine Ln h ha ?_
 clear h; intro R1 pa1 q us M l1 e Tg hd rC rB h
 obtain ⟨R2, l2, r2, h2⟩ := h.cW (some ⟨q, 0, none⟩)
 refine k R2 pa1 M (Mem.le_trans l1 l2) ⟨⟨us, by rw [e]; exact r2, Tg, fun i t f a b => ?_⟩, rC.le l2⟩ (rB.le l2) h2
 obtain ⟨g1, g2⟩ := hd i t f a b
 exact ⟨g1.le l2, g2⟩
end
end Go.Proofs
namespace Go.Proofs
open Go.AF
set_option maxRecDepth 100000
set_option maxHeartbeats 1000000
attribute [local irreducible] aI c7 fm cy aB eN aE aM aX bk bJ aP
attribute [local irreducible] D0 DN
def Th : Sc := Sc.new o6 ⟨1, 1, 2, 9⟩ ⟨.xU [0, 0, 0, 0, 0, 0, 0, 0, 0] 0, [], none⟩
def Sa (w : Nat) (x : Sc) : Sc × Ev := (evOf ((x.watch w).step o6)).getD (x, ⟨0, 0, 0, []⟩)
def Iy (w : Nat) : Sc × Ev := Sa w Th
def Pz (w : Nat) : Sc × Ev := Sa w (Iy w).1
def PB (w : Nat) : Sc × Ev := Sa w (Pz w).1
def d20 (w : Nat) : Sc × Ev := Sa w (PB w).1
section
variable {w : Nat}
theorem O7 : (Th.watch w).step o6 = some ((Iy w).1, .ev (Iy w).2) := by kernel_rfl
theorem O8 : ((Iy w).1.watch w).step o6 = some ((Pz w).1, .ev (Pz w).2) := by kernel_rfl
theorem O9 : ((Pz w).1.watch w).step o6 = some ((PB w).1, .ev (PB w).2) := by kernel_rfl
theorem Pa : ((PB w).1.watch w).step o6 = some ((d20 w).1, .ev (d20 w).2) := by kernel_rfl
theorem s20 : Th.status = 0 ∧ (Iy w).1.status = 0 ∧ (Pz w).1.status = 0 ∧ (PB w).1.status = 0 ∧ (d20 w).1.status = 1 := ⟨by kernel_rfl, by kernel_rfl, by kernel_rfl, by kernel_rfl, by kernel_rfl⟩
def Wx (w : Nat) : Tr := (⟨[], []⟩ : Tr).add (Iy w).2.kind (Iy w).2.g (IntKind.wrap .i64 ((Iy w).1.steps - 1)) (yz (Iy w).1.d)
def Wy (w : Nat) : Tr := (Wx w).add (Pz w).2.kind (Pz w).2.g (IntKind.wrap .i64 ((Pz w).1.steps - 1)) (yz (Pz w).1.d)
def Wz (w : Nat) : Tr := (Wy w).add (PB w).2.kind (PB w).2.g (IntKind.wrap .i64 ((PB w).1.steps - 1)) (yz (PB w).1.d)
def WB (w : Nat) : Tr := (Wz w).add (d20 w).2.kind (d20 w).2.g (IntKind.wrap .i64 ((d20 w).1.steps - 1)) (yz (d20 w).1.d)
theorem Sb : WB w = ⟨[(false, 0, 0), (false, 0, 0)], [2, 3]⟩ := by kernel_rfl
theorem ts20 {j : Nat} {x : Sc} {t : Tr} {s : iL} (h : TS o6 w Th j x t s) : (j = 0 ∧ x = Th ∧ t = ⟨[], []⟩) ∨ (j = 1 ∧ x = (Iy w).1 ∧ t = Wx w) ∨ (j = 2 ∧ x = (Pz w).1 ∧ t = Wy w) ∨ (j = 3 ∧ x = (PB w).1 ∧ t = Wz w) ∨ (j = 4 ∧ x = (d20 w).1 ∧ t = WB w) := by
 induction h with
 | zero => exact .inl ⟨rfl, rfl, rfl⟩
 | succ hw hs he ih =>
  rcases ih with ⟨e1, e2, e3⟩ | ⟨e1, e2, e3⟩ | ⟨e1, e2, e3⟩ | ⟨e1, e2, e3⟩ | ⟨e1, e2, e3⟩
  ·rw [e2, O7] at he
   simp only [Option.some.injEq, Prod.mk.injEq, iK.ev.injEq] at he
   obtain ⟨h1, h2⟩ := he
   exact .inr (.inl ⟨by omega, h1.symm, by rw [e3, ← h1, ← h2]; unfold Wx; rfl⟩)
  ·rw [e2, O8] at he
   simp only [Option.some.injEq, Prod.mk.injEq, iK.ev.injEq] at he
   obtain ⟨h1, h2⟩ := he
   exact .inr (.inr (.inl ⟨by omega, h1.symm, by rw [e3, ← h1, ← h2]; unfold Wy; rfl⟩))
  ·rw [e2, O9] at he
   simp only [Option.some.injEq, Prod.mk.injEq, iK.ev.injEq] at he
   obtain ⟨h1, h2⟩ := he
   exact .inr (.inr (.inr (.inl ⟨by omega, h1.symm, by rw [e3, ← h1, ← h2]; unfold Wz; rfl⟩)))
  ·rw [e2, Pa] at he
   simp only [Option.some.injEq, Prod.mk.injEq, iK.ev.injEq] at he
   obtain ⟨h1, h2⟩ := he
   exact .inr (.inr (.inr (.inr ⟨by omega, h1.symm, by rw [e3, ← h1, ← h2]; unfold WB; rfl⟩)))
  ·rw [e2, s20.2.2.2.2] at hs
   exact absurd hs (by decide)
theorem wt20 {y : Sc} {t : Tr} {s : iL} {e : Int} (h : WT o6 w Th 9 y t s e) : e = 0 ∧ t = ⟨[(false, 0, 0), (false, 0, 0)], [2, 3]⟩ := by
 obtain ⟨q1, q2, q3, q4, q5⟩ := s20 (w := w)
 cases h with
 | Ws hw hj hh =>
  rcases ts20 hw with ⟨e1, e2, e3⟩ | ⟨e1, e2, e3⟩ | ⟨e1, e2, e3⟩ | ⟨e1, e2, e3⟩ | ⟨e1, e2, e3⟩
  ·rw [e1, e2] at hh; exact absurd q1 (hh.resolve_left (by decide))
  ·rw [e1, e2] at hh; exact absurd q2 (hh.resolve_left (by decide))
  ·rw [e1, e2] at hh; exact absurd q3 (hh.resolve_left (by decide))
  ·rw [e1, e2] at hh; exact absurd q4 (hh.resolve_left (by decide))
  ·exact ⟨rfl, by rw [e3]; exact Sb⟩
 | dh hw hj hst FV =>
  rcases ts20 hw with ⟨e1, e2, e3⟩ | ⟨e1, e2, e3⟩ | ⟨e1, e2, e3⟩ | ⟨e1, e2, e3⟩ | ⟨e1, e2, e3⟩
  ·rw [e2, O7] at FV; simp at FV
  ·rw [e2, O8] at FV; simp at FV
  ·rw [e2, O9] at FV; simp at FV
  ·rw [e2, Pa] at FV; simp at FV
  ·rw [e2, q5] at hst; exact absurd hst (by decide)
end
theorem ok18 : ej o6 := by
 refine ⟨by decide, by decide, by decide, by decide, fun c hc => (nomatch hc), fun f hf => ?_⟩
 simp only [o6, List.mem_singleton] at hf
 subst hf
 refine ⟨by decide, by decide, fun i hi => ?_⟩
 simp only [List.mem_cons, List.not_mem_nil, or_false] at hi
 rcases hi with rfl | rfl <;> simp [jR, cI.cB, aZ, o6]
def onOf (d : Wd) : Option (Out Wd × Bool) → Wd
 | some (.on y, _) => y
 | _ => d
def w0 : Wd := Wd.new o6
def w1 : Wd := onOf w0 (lH o6 w0 0 (.num 0))
def w2 : Wd := onOf w1 (lH o6 w1 0 (.num 0))
def Pb : Option (Out Wd × Bool) → Bool
 | some (_, r) => r
 | none => false
theorem w1_eq : lH o6 w0 0 (.num 0) = some (.on w1, Pb (lH o6 w0 0 (.num 0))) := by kernel_rfl
theorem w2_eq : lH o6 w1 0 (.num 0) = some (.on w2, Pb (lH o6 w1 0 (.num 0))) := by kernel_rfl
theorem Jq : asks o6 { w0 with ready := [] } 0 = none ∧ asks o6 { w1 with ready := [] } 0 = none ∧ w0.end_ = 0 ∧ w1.end_ = 0 ∧ w2.end_ = 1 ∧ w0.gs.length = 1 ∧ w1.gs.length = 1 ∧ (aq w0 0).st = 1 ∧ (aq w1 0).st = 1 :=
 ⟨by kernel_rfl, by kernel_rfl, by kernel_rfl, by kernel_rfl, by kernel_rfl, by kernel_rfl, by kernel_rfl, by kernel_rfl, by kernel_rfl⟩
section
variable {R : Mem} {L L' : List HP} {M : Mem} {K : Value → Mem → Prop} {Kp : List PanicEntry → Mem → Prop} {pa : PA} {p : bZ}
theorem Bq {B : Option Addr} {c1 : Nat} (h : Hp R L M) (hp : kJ R pa o6) (xO : RS bl R pa.c pa.cc o6.dx) (hB : RS jU R B c1 [(false, 0, 0), (false, 0, 0)])
  (k : ∀ R' b M', R.le R' → Hp R' (ay (bu pa o6) b w2 :: L) M' → K (.tuple #[.pointer (some ⟨b, 0, none⟩), .int .i64 2]) M') :
  aa Tryz.prog 77 #[yB pa o6, .slice B 2 c1] M K Kp := by
 refine yn ?_
 obtain ⟨q1, q2, q3, q4, q5, q6, q7, q8, q9⟩ := Jq
 obtain ⟨b0, o0, rfl⟩ := hB.src.g8 h (by decide) (by decide)
 refine aj h ?_
 clear h
 intro k1 M h
 refine aF h (aF h (aG h (aF h ?_)))
 refine Cj (p := o6) (pa := pa) h xO (by decide) (by decide) ?_
 clear h; intro b M h
 refine jL ?_
 have h0 : Hp R (ay (bu pa o6) b w0 :: L) M := h.sub br
 clear h
 refine ⟨fun dd vs M' => ∃ (j : Nat) (z : Wd) (R' : Mem), vs = [.int .i64 (j : Int)] ∧ dd = 2 - j ∧ R.le R' ∧ ((j = 0 ∧ z = w0) ∨ (j = 1 ∧ z = w1) ∨ (j = 2 ∧ z = w2)) ∧ Hp R' (ay (bu pa o6) b z :: L) M', ⟨_, 0, w0, R, rfl, rfl, Mem.le_refl _, .inl ⟨rfl, rfl⟩, h0⟩, ?_⟩
 clear h0
 rintro dd _ nn M8 ⟨j, z, R3, he, hd, hle, hc, h⟩
 simp only [List.cons.injEq, Value.int.injEq, and_true, true_and] at he
 subst he
 refine aN.2 ⟨fun hlt => ?_, fun hge => ?_⟩
 ·have hj : j < 2 := by omega
  have hz : z.end_ = 0 ∧ z.gs.length = 1 ∧ (aq z 0).st = 1 ∧ asks o6 { z with ready := [] } 0 = none ∧ ∃ z' rest, lH o6 z 0 (.num 0) = some (.on z', rest) ∧ ((j + 1 = 1 ∧ z' = w1) ∨ (j + 1 = 2 ∧ z' = w2)) := by
   rcases hc with ⟨rfl, rfl⟩ | ⟨rfl, rfl⟩ | ⟨rfl, rfl⟩
   ·exact ⟨q3, q6, q8, q1, w1, _, w1_eq, .inl ⟨rfl, rfl⟩⟩
   ·exact ⟨q4, q7, q9, q2, w2, _, w2_eq, .inr ⟨rfl, rfl⟩⟩
   ·omega
  obtain ⟨z1, z2, z3, z4, z', rest, z5, z6⟩ := hz
  have vN : ([(false, 0, 0), (false, 0, 0)] : List (Bool × Int × Int))[j]? = some (false, 0, 0) := by
   rcases (by omega : j = 0 ∨ j = 1) with rfl | rfl <;> rfl
  have hB3 : Src R3 (ay (bu pa o6) b z :: L) (some ⟨b0, o0, none⟩) (jU.cells [(false, 0, 0), (false, 0, 0)]) := (hB.le hle).src
  refine ⟨by omega, hlt, bg ?_⟩
  simp only [Int.toNat_natCast]
  refine Ms (hB3.at h (j := 0) vN rfl (by simp [jU])) ?_
  refine be (hB3.at h (j := 1) vN rfl (by simp [jU]; omega)) ?_
  refine be (hB3.at h (j := 2) vN rfl (by simp [jU]; omega)) ?_
  clear hB3
  refine aj h ?_
  clear h; intro lP M h
  repeat (refine au h ?_; clear h; intro M h)
  refine wZ (b := b) h ⟨_, _, rfl, ?_⟩
  rw [z1]
  refine lu (by decide) (BK h (ae (aG h ?_)))
  refine vo (b := b) h (by decide) (by rw [z2]; decide) (c6 ?_)
  rw [z3]
  refine lu (by decide) ?_
  refine aj h ?_
  clear h; intro EF M h
  refine au h ?_
  clear h; intro M h
  refine aG h ?_
  refine Cm (b := b) (L2 := pt EF [.bool true] 4 :: pt lP [.bool false, .int .i64 0, .int .i64 0] 102 :: L) (h.sub br) (hp.le hle) ⟨_, _, _, rfl⟩ z5 (by rw [z4]) ?_
  clear h
  intro R4 A4 c4 M h1 h2 h
  refine ⟨_, _, _, _, rfl, BK h ?_⟩
  refine ae ?_
  refine ⟨2 - (j + 1), by omega, j + 1, z', R4, by rw [aW (by omega)], rfl, Mem.le_trans hle h1, .inr z6, h.sub br⟩
 ·have hj : j = 2 := by omega
  subst hj
  have : z = w2 := by
   rcases hc with ⟨e, _⟩ | ⟨e, _⟩ | ⟨_, e⟩
   ·omega
   ·omega
   ·exact e
  subst this
  exact k R3 b M8 hle h
end
section
variable {R : Mem} {L L' : List HP} {M : Mem} {K : Value → Mem → Prop} {Kp : List PanicEntry → Mem → Prop} {pa : PA} {p : bZ}
theorem FW (h : Hp R L M) (k : ∀ R' M', R.le R' → Hp R' L M' → K (.bool true) M') : aa Tryz.prog 31 #[] M K Kp := by
 refine oT ?_
 obtain ⟨q1, q2, q3, q4, q5, q6, q7, q8, q9⟩ := Jq
 refine aj h ?_
 clear h
 intro k1 M h
 refine aj h ?_
 clear h
 intro k3 M h
 have h1 := (h.pt k1).gW (E := jm) (l := [⟨20, 0, 0, 0⟩, ⟨10, 0, 0, 0⟩]) rfl
 obtain ⟨R1, hle1, zT, h2⟩ := h1.cW (some ⟨k1, 0, none⟩)
 have h3 := h2.gW (E := xQ) (l := [(some ⟨k1, 0, none⟩, 2, 2)]) rfl
 obtain ⟨R2, FO, SW, h4⟩ := h3.cW (some ⟨k3, 0, none⟩)
 clear h h1 h2 h3
 have hp : kJ R2 ⟨some ⟨k3, 0, none⟩, 1, none, 0, none, 0⟩ o6 := ⟨⟨_, SW, rfl, fun i t f a b => by
  match i, a, b with
  | 0, a, b => simp at a; cases b; subst a; exact ⟨zT.le FO, rfl⟩
  | i + 1, a, b => simp at a⟩, RS.nil _ _⟩
 have hle : R.le R2 := Mem.le_trans hle1 FO
 refine aj h4 ?_
 clear h4; intro k5 M h
 repeat (refine au h ?_; clear h; intro M h)
 refine h.yH (E := AR) (n := 9) (a := 0) OL (by omega) ?_
 clear h
 intro eu M h
 rw [show List.replicate 9 (0 : Int) = [0, 0, 0, 0, 0, 0, 0, 0, 0] from rfl] at h
 refine aQ ?_
 refine sZ (l := [0, 0, 0, 0, 0, 0, 0, 0, 0]) h (Src.row (A := some ⟨eu, 0, none⟩)) rfl (by decide) ?_
 clear h; intro db M h
 refine jL (aF h (aF h (aG h (aF h ?_))))
 refine Cz (p := o6) (pa := ⟨some ⟨k3, 0, none⟩, 1, none, 0, none, 0⟩) (c := ⟨1, 1, 2, 9⟩) h (RS.nil _ _) (by decide) (by decide) (by decide) (by decide) ?_
 clear h; intro b wb M h
 refine jL ?_
 have h0 : SV o6 0 Th := SV.new ok18 (by decide) (by decide) (by decide) rfl ⟨by decide, by decide, fun v hv => by simp at hv; subst hv; decide⟩
 have hq := Hp.aS (l := []).2 h
 clear h
 have oX : Hp R2 (ay (dZ ⟨some ⟨k3, 0, none⟩, 1, none, 0, none, 0⟩ o6 wb db) b Th :: sep [] :: pt k5 [.slice (some ⟨k3, 0, none⟩) 1 1, .slice none 0 0, .int .i64 0, .slice none 0 0] 39 :: L) M := hq.sub br
 clear hq
 refine CB (S := fun _ => sep []) (most := 9) oX hp ok18 h0 rfl rfl (by decide) (.inl ⟨rfl, fun _ _ _ => rfl⟩) rfl ?_
 clear oX; intro R3 w y t s e a q n kk xx A c B d M l3 hw h
 obtain ⟨e1, e2⟩ := wt20 hw
 subst e1
 subst e2
 have h' := h.cW A
 clear h
 obtain ⟨R4, l4, hrA, h⟩ := h'
 have h' := h.cW B
 clear h
 obtain ⟨R5, l5, hrB, h⟩ := h'
 refine ⟨_, _, _, _, _, _, _, _, _, _, _, _, rfl, ?_⟩
 refine aj h ?_
 clear h
 intro AA M h
 refine aj h ?_
 clear h
 intro Lu M h
 repeat (refine au h ?_; clear h; intro M h)
 refine aF h (aF h (aG h (aF h (aF h ?_))))
 refine Bq (pa := ⟨some ⟨k3, 0, none⟩, 1, none, 0, none, 0⟩) h (hp.le (Mem.le_trans l3 (Mem.le_trans l4 l5))) (RS.nil _ _) (hrA.le l5) ?_
 clear h; intro R6 b2 M l6 h
 obtain ⟨b3, o3, rfl⟩ := (hrB.le l6).src.g8 h (by decide) (by decide)
 refine ⟨_, _, rfl, lu (by decide) (aF h (lu (by decide) (lu (by decide) (ae (aF h ⟨by decide, by decide, bg ?_⟩)))))⟩
 refine be ((hrB.le l6).src.at h (i := 0) (j := 0) rfl rfl (by simp [bl])) ?_
 refine lu (by decide) ?_
 refine wZ (b := b2) h ⟨_, _, rfl, ?_⟩
 rw [q5]
 exact k R6 M (Mem.le_trans hle (Mem.le_trans l3 (Mem.le_trans l4 (Mem.le_trans l5 l6)))) (h.sub br)
end
end Go.Proofs
namespace Go.Proofs
open Go.AF
set_option maxRecDepth 100000
set_option maxHeartbeats 1000000
attribute [local irreducible] aI c7 fm cy aB eN aE aM aX bk bJ aP
theorem Sd : bj Tryz.prog 28 27 4 32 [.int .i64 0, .int .i64 0, .int .i64 0, .int .i64 0] := bj.mk' (zv := .agg #[.int .i64 0, .int .i64 0, .int .i64 0, .int .i64 0]) (by kernel_rfl) (by kernel_rfl) rfl (by omega)
theorem Se : bj Tryz.prog 37 165 3 24 [.int .i64 0, .int .i64 0, .int .i64 0] := bj.mk' (zv := .agg #[.int .i64 0, .int .i64 0, .int .i64 0]) (by kernel_rfl) (by kernel_rfl) rfl (by omega)
theorem WC : bj Tryz.prog 35 28 1 24 [.slice none 0 0] := bj.mk' (zv := .slice none 0 0) (by kernel_rfl) (by kernel_rfl) rfl (by omega)
theorem DJ {A : Option Addr} {b o : Nat} {G : Nat → Nat → Prop} (e : A = some ⟨b, o, none⟩) (g : G b o) : aE A G := by subst e; exact bg g
abbrev Br (k : Nat) (A : Option Addr) (n c : Nat) (B : Option Addr) (m d : Nat) (lk : Int) (C : Option Addr) (q e : Nat) : HP := pt k (prgC A n c B m d lk C q e) 39
section
variable {R : Mem} {L L' : List HP} {M : Mem} {K : Value → Mem → Prop} {Kp : List PanicEntry → Mem → Prop} {pa : PA} {p : bZ}
theorem Sf (h : Hp R L M) (ha : kJ R pa p) (hc : RS bl R pa.c pa.cc p.dx) (hp : ej p) (hfn : p.funcs.length ≤ 1000000) (k : ∀ R' CG M', R.le R' → kJ R' CG p → RS bl R' CG.c CG.cc p.dx → Hp R' L M' → K (yB CG p) M') :
  aa Tryz.prog 25 #[yB pa p] M K Kp := by
 refine sF ?_
 have p1 := hp.ch
 have p2 := hp.cs
 obtain ⟨ts, t1, t2, t3⟩ := ha.funcs
 have t4 := t1.2
 refine aj h ?_
 clear h
 intro k1 M h
 refine aj h ?_
 clear h
 intro k3 M h
 refine aF h (aG h ?_)
 refine aj h ?_
 clear h
 intro k9 M h
 refine ⟨trivial, ?_⟩
 refine h.lY bl dX p.dx hc.src rfl (by omega) ?_
 clear h; intro B c M h
 refine aQ ⟨bO h, ?_⟩
 refine aj h ?_
 clear h
 intro eX M h
 repeat (refine au h ?_; clear h; intro M h)
 refine ⟨bO h, aF h ?_⟩
 obtain ⟨R1, l1, rB, h1⟩ := h.cW B
 clear h
 have h0 : Hp R1 (bE xQ 28 none 0 [] :: Br eX none 0 0 B p.dx.length c p.aK none 0 0 :: Br k3 none 0 0 none 0 0 0 none 0 0 :: dB k1 pa.f p.funcs.length pa.fc pa.c p.dx.length pa.cc p.aK pa.k p.cases.length pa.kc :: L) M := (h1.bY xQ _).sub br
 clear h1
 refine ⟨fun dd vs M => ∃ (j : Nat) (R2 : Mem) (A : Option Addr) (cA : Nat) (us : List (Option Addr × Nat × Nat)), vs = [.int .i64 (j : Int)] ∧ dd = p.funcs.length - j ∧ j ≤ p.funcs.length ∧ R1.le R2 ∧ us.length = j ∧ (∀ (i : Nat) t f, us[i]? = some t → p.funcs[i]? = some f → RS jm R2 t.1 t.2.2 f ∧ t.2.1 = f.length) ∧
  Hp R2 (bE xQ 28 A cA us :: Br eX A j cA B p.dx.length c p.aK none 0 0 :: Br k3 none 0 0 none 0 0 0 none 0 0 :: dB k1 pa.f p.funcs.length pa.fc pa.c p.dx.length pa.cc p.aK pa.k p.cases.length pa.kc :: L) M,
  ⟨_, 0, R1, none, 0, [], rfl, rfl, by omega, Mem.le_refl _, rfl, fun i t f a => by simp at a, h0⟩, ?_⟩
 clear h0
 rintro dd _ nn M ⟨j, R2, A, cA, us, he, hd, hj, l2, Tg, FU, h⟩
 simp only [List.cons.injEq, Value.int.injEq, and_true, true_and] at he
 subst he
 refine aN.2 ⟨fun hlt => ?_, fun hge => ?_⟩
 ·obtain ⟨t, ht⟩ := aU (l := ts) (i := j) (by omega)
  obtain ⟨f, hf⟩ := aU (l := p.funcs) (i := j) (by omega)
  obtain ⟨u1, u2⟩ := t3 j t f ht hf
  have hfl := (hp.code f (List.mem_of_getElem? hf)).2.1
  obtain ⟨tA, tn, tc⟩ := t
  dsimp only at u1 u2
  subst u2
  have Ie := t1.le (Mem.le_trans l1 l2)
  obtain ⟨b, o, hb⟩ := Ie.some (by omega) (by decide)
  rw [hb] at Ie
  refine ⟨by omega, hlt, DJ hb ?_⟩
  refine GB (Src.at Ie.src h (i := j) (j := 0) ht rfl (by simp [xQ])) ?_
  dsimp only
  have hF := u1.le (Mem.le_trans l1 l2)
  refine aj h ?_
  clear h
  intro kr M h
  have h0 := (h.pt kr).gW (E := jm) (l := []) rfl
  clear h
  refine ⟨fun dd vs M => ∃ (i : Nat) (A2 : Option Addr) (c' : Nat), vs = [.slice A2 i c', .int .i64 (i : Int)] ∧ dd = f.length - i ∧ i ≤ f.length ∧ Hp R2 (bE jm 27 A2 c' (f.take i) :: bE xQ 28 A cA us :: Br eX A j cA B p.dx.length c p.aK none 0 0 :: Br k3 none 0 0 none 0 0 0 none 0 0 :: dB k1 pa.f p.funcs.length pa.fc pa.c p.dx.length pa.cc p.aK pa.k p.cases.length pa.kc :: L) M,
   ⟨_, 0, _, _, rfl, rfl, by omega, h0⟩, ?_⟩
  clear h0
  rintro dd _ R9 AJ c'' nn M ⟨i, A2, c2, he, Py, hi, h⟩
  simp only [List.cons.injEq, Value.int.injEq, Value.slice.injEq, and_true, true_and] at he
  obtain ⟨⟨rfl, rfl, rfl⟩, rfl⟩ := he
  have hlen : (f.take AJ).length = AJ := by rw [List.length_take]; omega
  refine aN.2 ⟨fun HV => ?_, fun RL => ?_⟩
  ·obtain ⟨x, hx⟩ := aU (l := f) (i := AJ) (by omega)
   obtain ⟨b', o', hb'⟩ := hF.some (by omega) (by decide)
   rw [hb'] at hF
   refine ⟨by omega, HV, DJ hb' ?_⟩
   refine be (Src.at hF.src h (i := AJ) (j := 0) hx rfl (by simp [jm])) ?_
   refine be (Src.at hF.src h (i := AJ) (j := 1) hx rfl (by simp [jm]; omega)) ?_
   refine be (Src.at hF.src h (i := AJ) (j := 2) hx rfl (by simp [jm]; omega)) ?_
   refine be (Src.at hF.src h (i := AJ) (j := 3) hx rfl (by simp [jm]; omega)) ?_
   repeat (first|(refine aj h ?_;clear h;intro kb M h)|(refine au h ?_;clear h;intro M h)|refine St.to h ?_|(apply Exists.intro;(repeat apply Exists.intro);refine And.intro rfl ?_)|refine av ?_|refine ai ?_|refine ae ?_)
   refine h.eF (A := R9) Sd [x] rfl hlen.symm rfl (by simp; omega) ?_
   clear h; intro A3 c3 M h
   refine aQ ⟨f.length - (AJ + 1), by omega, AJ + 1, A3, c3, ?_, rfl, by omega, ?_⟩
   ·rw [aW (by omega)]
   ·rw [take_succ hx]
    exact h.sub br
  ·have hin : AJ = f.length := by omega
   subst hin
   rw [List.take_of_length_le (Nat.le_refl _)] at h
   obtain ⟨R6, l6, r6, h6⟩ := h.cW R9
   clear h
   refine aF h6 ?_
   refine aj h6 ?_
   clear h6; intro kz M h
   refine h.eF (A := A) WC [(R9, f.length, c'')] rfl Tg.symm rfl (by simp; omega) ?_
   clear h; intro A3 c3 M h
   refine aQ ?_
   refine au h ?_
   clear h
   intro M h
   refine ⟨p.funcs.length - (j + 1), by omega, j + 1, R6, A3, c3, us ++ [(R9, f.length, c'')], by rw [aW (by omega)], rfl, by omega, Mem.le_trans l2 l6, by simp [Tg], ?_, h.sub br⟩
   intro i t' f' ht' Gh
   rcases Nat.lt_or_ge i us.length with hi' | hi'
   ·rw [List.getElem?_append_left hi'] at ht'
    obtain ⟨g1, g2⟩ := FU i t' f' ht' Gh
    exact ⟨g1.le l6, g2⟩
   ·rw [List.getElem?_append_right hi'] at ht'
    have hi0 : i - us.length = 0 := by
     rcases Nat.eq_zero_or_pos (i - us.length) with e | e
     ·exact e
     ·rw [List.getElem?_eq_none (by simp; omega)] at ht'; cases ht'
    rw [hi0] at ht'
    cases ht'
    have : i = j := by omega
    subst this
    rw [hf] at Gh
    cases Gh
    exact ⟨r6, rfl⟩
 ·have F1 : j = p.funcs.length := by omega
  subst F1
  obtain ⟨R3, l3, rA, h3⟩ := h.cW A
  clear h
  refine aF h3 ?_
  have h0 : Hp R3 (bE ij 165 none 0 [] :: Br eX A p.funcs.length cA B p.dx.length c p.aK none 0 0 :: Br k3 none 0 0 none 0 0 0 none 0 0 :: dB k1 pa.f p.funcs.length pa.fc pa.c p.dx.length pa.cc p.aK pa.k p.cases.length pa.kc :: L) M := h3.bY ij _
  clear h3
  have l123 := Mem.le_trans l1 (Mem.le_trans l2 l3)
  have hk := ha.cases.le l123
  refine ⟨fun dd vs M => ∃ (i : Nat) (A2 : Option Addr) (c' : Nat), vs = [.int .i64 (i : Int)] ∧ dd = p.cases.length - i ∧ i ≤ p.cases.length ∧ Hp R3 (bE ij 165 A2 c' (p.cases.take i) :: Br eX A p.funcs.length cA B p.dx.length c p.aK A2 i c' :: Br k3 none 0 0 none 0 0 0 none 0 0 :: dB k1 pa.f p.funcs.length pa.fc pa.c p.dx.length pa.cc p.aK pa.k p.cases.length pa.kc :: L) M,
   ⟨_, 0, none, 0, rfl, rfl, by omega, h0⟩, ?_⟩
  clear h0
  rintro dd _ nn M ⟨i, A2, c2, he, Py, hi, h⟩
  simp only [List.cons.injEq, Value.int.injEq, and_true, true_and] at he
  subst he
  have hlen : (p.cases.take i).length = i := by rw [List.length_take]; omega
  refine aN.2 ⟨fun HV => ?_, fun RL => ?_⟩
  ·obtain ⟨x, hx⟩ := aU (l := p.cases) (i := i) (by omega)
   obtain ⟨b', o', hb'⟩ := hk.some (by omega) (by decide)
   rw [hb'] at hk
   refine ⟨by omega, HV, DJ hb' ?_⟩
   refine be (Src.at hk.src h (i := i) (j := 0) hx rfl (by simp [ij])) ?_
   refine be (Src.at hk.src h (i := i) (j := 1) hx rfl (by simp [ij]; omega)) ?_
   refine be (Src.at hk.src h (i := i) (j := 2) hx rfl (by simp [ij]; omega)) ?_
   repeat (first|(refine aj h ?_;clear h;intro kb M h)|(refine au h ?_;clear h;intro M h)|refine St.to h ?_|(apply Exists.intro;(repeat apply Exists.intro);refine And.intro rfl ?_)|refine av ?_|refine ai ?_|refine ae ?_)
   refine h.eF (A := A2) Se [x] rfl hlen.symm rfl (by simp; omega) ?_
   clear h; intro A3 c3 M h
   refine aQ ?_
   refine au h ?_
   clear h
   intro M h
   refine ⟨p.cases.length - (i + 1), by omega, i + 1, A3, c3, ?_, rfl, by omega, ?_⟩
   ·rw [aW (by omega)]
   ·rw [take_succ hx]
    exact h.sub br
  ·have hin : i = p.cases.length := by omega
   subst hin
   rw [List.take_of_length_le (Nat.le_refl _)] at h
   obtain ⟨R6, l6, r6, h6⟩ := h.cW A2
   clear h
   replace h := h6
   clear h6
   repeat (first|(refine aj h ?_;clear h;intro kb M h)|(refine au h ?_;clear h;intro M h)|refine St.to h ?_|(apply Exists.intro;(repeat apply Exists.intro);refine And.intro rfl ?_)|refine av ?_|refine ai ?_|refine ae ?_)
   have l16 := Mem.le_trans l123 l6
   refine k R6 ⟨A, cA, B, c, A2, c2⟩ _ l16 ⟨⟨us, rA.le l6, Tg, fun i t f a b => ?_⟩, r6⟩ (rB.le (Mem.le_trans l2 (Mem.le_trans l3 l6))) (h.sub br)
   obtain ⟨g1, g2⟩ := FU i t f a b
   exact ⟨g1.le (Mem.le_trans l3 l6), g2⟩
end
def DK {ρ α : Type} (P : Mem → ρ → α → Prop) (R : Mem) (xs : List ρ) (ys : List α) : Prop := xs.length = ys.length ∧ ∀ (i : Nat) (r : ρ) (a : α), xs[i]? = some r → ys[i]? = some a → P R r a
section
variable {ρ α : Type} {P : Mem → ρ → α → Prop} {R R' : Mem} {xs : List ρ} {ys : List α}
theorem DK.nil (P : Mem → ρ → α → Prop) (R : Mem) : DK P R [] [] := ⟨rfl, fun i r c h => by simp at h⟩
theorem DK.le (hm : ∀ R R' r a, R.le R' → P R r a → P R' r a) (h : DK P R xs ys) (hle : R.le R') : DK P R' xs ys := ⟨h.1, fun i r c h1 h2 => hm _ _ _ _ hle (h.2 i r c h1 h2)⟩
theorem DK.snoc {r : ρ} {c : α} (h : DK P R xs ys) (hr : P R r c) : DK P R (xs ++ [r]) (ys ++ [c]) := by
 refine ⟨by simp [h.1], fun i r' c' h1 h2 => ?_⟩
 rcases Nat.lt_or_ge i xs.length with hl | hl
 ·rw [List.getElem?_append_left hl] at h1; rw [List.getElem?_append_left (by rw [← h.1]; exact hl)] at h2; exact h.2 i _ _ h1 h2
 ·rw [List.getElem?_append_right hl] at h1; rw [List.getElem?_append_right (by rw [← h.1]; exact hl)] at h2
  have : i - xs.length = 0 := by
   obtain ⟨hh, _⟩ := List.getElem?_eq_some_iff.1 h1; simp at hh; omega
  rw [this] at h1; rw [← h.1, this] at h2
  cases h1; cases h2; exact hr
theorem DK.set {r : ρ} {c : α} (h : DK P R xs ys) (i : Nat) (hr : P R r c) : DK P R (xs.set i r) (ys.set i c) := by
 refine ⟨by simp [h.1], fun j r' c' h1 h2 => ?_⟩
 rw [List.getElem?_set] at h1 h2
 split at h1
 ·rename_i e; rw [if_pos e] at h2
  split at h1
  ·split at h2
   ·cases h1; cases h2; exact hr
   ·cases h2
  ·cases h1
 ·rename_i e; rw [if_neg e] at h2; exact h.2 j _ _ h1 h2
theorem DK.at {i : Nat} {a : α} (h : DK P R xs ys) (ha : ys[i]? = some a) : ∃ r, xs[i]? = some r ∧ P R r a := by
 have hi : i < xs.length := by rw [h.1]; exact (List.getElem?_eq_some_iff.1 ha).1
 exact ⟨xs[i], List.getElem?_eq_getElem hi, h.2 i _ _ (List.getElem?_eq_getElem hi) ha⟩
end
structure RG where
 st : Int
 A : Option Addr
 n : Nat
 c : Nat
 wt : cI
def rgE : hU RG := ⟨6, fun g => [.int .i64 g.st, .slice g.A g.n g.c, .int .i64 g.wt.op, .int .i64 g.wt.a, .int .i64 g.wt.b, .int .i64 g.wt.c], fun _ => rfl, fun w v hv => by
 simp only [List.mem_cons, List.not_mem_nil, or_false] at hv; obtain rfl | rfl | rfl | rfl | rfl | rfl := hv <;> rfl⟩
def Pc (R : Mem) (r : RG) (y : jr) : Prop := r.st = y.st ∧ r.n = y.fs.length ∧ RS jB R r.A r.c y.fs ∧ r.wt = y.wt
theorem Pc.le (R R' : Mem) (r : RG) (y : jr) (hle : R.le R') (h : Pc R r y) : Pc R' r y := ⟨h.1, h.2.1, h.2.2.1.le hle, h.2.2.2⟩
def lkL (l : Lk) : List Int := if l.owner = -1 then [] else l.owner :: l.waits
def RLk (R : Mem) (t : Option Addr × Nat × Nat) (l : Lk) : Prop := t.2.1 = (lkL l).length ∧ RS bl R t.1 t.2.2 (lkL l)
theorem RLk.le (R R' : Mem) (r : Option Addr × Nat × Nat) (y : Lk) (hle : R.le R') (h : RLk R r y) : RLk R' r y := ⟨h.1, h.2.le hle⟩
structure RWA where
 pa : PA
 ag : Option Addr
 cg : Nat
 ac : Option Addr
 cc : Nat
 al : Option Addr
 cl : Nat
 ah : Option Addr
 ch : Nat
 ao : Option Addr
 co : Nat
 ar : Option Addr
 cr : Nat
abbrev rwL (a : RWA) (p : bZ) (x : Wd) : List Value :=
 [.slice a.pa.f p.funcs.length a.pa.fc, .slice a.pa.c p.dx.length a.pa.cc, .int .i64 p.aK, .slice a.pa.k p.cases.length a.pa.kc, .slice a.ag x.gs.length a.cg, .int .u64 x.clock, .slice a.ac x.aC.length a.cc, .slice a.al x.aK.length a.cl, .slice a.ah x.hl.length a.ch, .int .u64 x.lG, .slice a.ao x.out.length a.co, .int .i64 x.end_, .int .i64 x.code, .slice a.ar x.ready.length a.cr]
structure Xj (R : Mem) (a : RWA) (p : bZ) (x : Wd) : Prop where
 prg : kJ R a.pa p
 dx : RS bl R a.pa.c a.pa.cc p.dx
 gs : ∃ rs, RS rgE R a.ag a.cg rs ∧ DK Pc R rs x.gs
 aC : ∃ rs, RS VO R a.ac a.cc rs ∧ Hi R rs x.aC
 aK : ∃ rs, RS xQ R a.al a.cl rs ∧ DK RLk R rs x.aK
 hl : RS sU R a.ah a.ch x.hl
 out : RS bl R a.ao a.co x.out
 ready : RS bl R a.ar a.cr x.ready
theorem Xj.le {R R' : Mem} {a : RWA} {p : bZ} {x : Wd} (h : Xj R a p x) (hle : R.le R') : Xj R' a p x := by
 obtain ⟨h1, h2, ⟨r3, a3, b3⟩, ⟨r4, a4, b4⟩, ⟨r5, a5, b5⟩, h6, h7, h8⟩ := h
 exact ⟨h1.le hle, h2.le hle, ⟨r3, a3.le hle, b3.le Pc.le hle⟩, ⟨r4, a4.le hle, b4.le hle⟩, ⟨r5, a5.le hle, b5.le RLk.le hle⟩, h6.le hle, h7.le hle, h8.le hle⟩
theorem Pd : bj Tryz.prog 75 318 5 88 [.int .i64 0, .slice none 0 0, .slice none 0 0, .slice none 0 0, .bool false] := bj.mk' (zv := .agg #[.int .i64 0, .slice none 0 0, .slice none 0 0, .slice none 0 0, .bool false]) (by kernel_rfl) (by kernel_rfl) rfl (by omega)
theorem WD : bj Tryz.prog 76 413 1 24 [.slice none 0 0] := bj.mk' (zv := .agg #[.slice none 0 0]) (by kernel_rfl) (by kernel_rfl) rfl (by omega)
end Go.Proofs
namespace Go.Proofs
open Go.AF
set_option maxRecDepth 100000
set_option maxHeartbeats 1000000
attribute [local irreducible] aI c7 fm cy aB eN aE aM aX bk bJ aP
attribute [local irreducible] D0 DN
section
variable {R : Mem} {L L' : List HP} {M : Mem} {K : Value → Mem → Prop} {Kp : List PanicEntry → Mem → Prop} {pa : PA} {p : bZ}
theorem FX {fn v : Int} (h : Hp R L M) (k : ∀ R' A c M', R.le R' → RS jB R' A c [gM.begin fn v] → Hp R' L M' → K (.slice A 1 c) M') : aa Tryz.prog 160 #[.int .i64 fn, .int .i64 v] M K Kp := by
 refine oV ?_
 repeat (first|(refine aj h ?_;clear h;intro kb M h)|(refine au h ?_;clear h;intro M h)|refine St.to h ?_|(apply Exists.intro;(repeat apply Exists.intro);refine And.intro rfl ?_)|refine av ?_|refine ai ?_|refine ae ?_)
 obtain ⟨R2, l2, r2, h2⟩ := ((h.pt kb).gW (E := jB) (l := [gM.begin fn v]) rfl).cW (some ⟨kb, 0, none⟩)
 clear h
 exact k R2 _ _ _ l2 r2 (h2.sub br)
theorem Lo (h : Hp R L M) (hp : kJ R pa p) (hc : RS bl R pa.c pa.cc p.dx) (hok : ej p) (k : ∀ R' a M', R.le R' → a.pa = pa → Xj R' a p (Wd.new p) → Hp R' L M' → K (.agg (rwL a p (Wd.new p)).toArray) M') :
  aa Tryz.prog 123 #[yB pa p] M K Kp := by
 refine sJ ?_
 have p1 := hok.ch
 have p2 := hok.lk
 refine aj h ?_
 clear h
 intro k1 M h
 refine aj h ?_
 clear h
 intro k3 M h
 refine aF h (aF h (aG h (aF h ⟨trivial, ?_⟩)))
 refine FX h ?_
 clear h; intro R1 A c M l1 r1 h
 refine aQ ⟨fC h rfl, ?_⟩
 refine aj h ?_
 clear h
 intro iU M h
 obtain ⟨R2, l2, r2, h2⟩ := ((h.pt iU).gW (E := rgE) (l := [⟨1, A, 1, c, .zero⟩]) rfl).cW (some ⟨iU, 0, none⟩)
 clear h
 refine aj h2 ?_
 clear h2; intro gO M h
 refine zj h rfl rfl rfl ?_
 clear h; intro M h
 refine ⟨fC h rfl, aF h ?_⟩
 have l12 := Mem.le_trans l1 l2
 have II := hc.le l12
 have W : Option Addr → Nat → Nat → List Value := fun B m d => []
 have h0 := h.bY VO 318
 clear h
 refine ⟨fun dd vs M => ∃ (j : Nat) (B : Option Addr) (d : Nat) (rs : List RC), vs = [.int .i64 (j : Int)] ∧ dd = p.dx.length - j ∧ j ≤ p.dx.length ∧ Hi R2 rs ((p.dx.take j).map aV.new) ∧
  Hp R2 (bE VO 318 B d rs :: pt gO [.slice pa.f p.funcs.length pa.fc, .slice pa.c p.dx.length pa.cc, .int .i64 p.aK, .slice pa.k p.cases.length pa.kc, .slice (some ⟨iU, 0, none⟩) 1 1, .int .u64 0, .slice B j d, .slice none 0 0, .slice none 0 0, .int .u64 0, .slice none 0 0, .int .i64 0, .int .i64 0, .slice none 0 0] 81 ::
   pt k3 [.slice none 0 0, .slice none 0 0, .int .i64 0, .slice none 0 0, .slice none 0 0, .int .u64 0, .slice none 0 0, .slice none 0 0, .slice none 0 0, .int .u64 0, .slice none 0 0, .int .i64 0, .int .i64 0, .slice none 0 0] 81 :: dB k1 pa.f p.funcs.length pa.fc pa.c p.dx.length pa.cc p.aK pa.k p.cases.length pa.kc :: L) M,
  ⟨_, 0, none, 0, [], rfl, rfl, by omega, Hi.nil _, h0.sub br⟩, ?_⟩
 clear h0 W
 rintro dd _ nn M ⟨j, B, d, rs, he, hd, hj, qY, h⟩
 simp only [List.cons.injEq, Value.int.injEq, and_true, true_and] at he
 subst he
 have hlen : rs.length = j := by rw [qY.1, List.length_map, List.length_take]; omega
 refine aN.2 ⟨fun hlt => ?_, fun hge => ?_⟩
 ·obtain ⟨v, hv⟩ := aU (l := p.dx) (i := j) (by omega)
  obtain ⟨b, o, hb⟩ := II.some (by omega) (by decide)
  rw [hb] at II
  refine ⟨by omega, hlt, DJ hb ?_⟩
  refine be (Src.at II.src h (i := j) (j := 0) hv rfl (by simp [bl])) ?_
  refine ⟨fun vs M => vs = [] ∧ ∃ (B : Option Addr) (d : Nat) (Sg : List RC), Hi R2 Sg ((p.dx.take (j + 1)).map aV.new) ∧
   Hp R2 (bE VO 318 B d Sg :: pt gO [.slice pa.f p.funcs.length pa.fc, .slice pa.c p.dx.length pa.cc, .int .i64 p.aK, .slice pa.k p.cases.length pa.kc, .slice (some ⟨iU, 0, none⟩) 1 1, .int .u64 0, .slice B (j + 1) d, .slice none 0 0, .slice none 0 0, .int .u64 0, .slice none 0 0, .int .i64 0, .int .i64 0, .slice none 0 0] 81 ::
   pt k3 [.slice none 0 0, .slice none 0 0, .int .i64 0, .slice none 0 0, .slice none 0 0, .int .u64 0, .slice none 0 0, .slice none 0 0, .slice none 0 0, .int .u64 0, .slice none 0 0, .int .i64 0, .int .i64 0, .slice none 0 0] 81 :: dB k1 pa.f p.funcs.length pa.fc pa.c p.dx.length pa.cc p.aK pa.k p.cases.length pa.kc :: L) M, ?_, ?_⟩
  ·have xO : (p.dx.take (j + 1)).map aV.new = (p.dx.take j).map aV.new ++ [aV.new v] := by rw [take_succ hv, List.map_append]; rfl
   rw [xO]
   refine ⟨?_, ?_, trivial⟩
   ·refine aF h ?_
    refine BZ h ?_
    clear h; intro vs M h hr
    obtain ⟨r, rfl, hr⟩ := hr.rc
    refine ⟨_, _, _, _, _, _, _, _, _, _, _, rfl, ?_⟩
    refine aj h ?_
    clear h
    intro kz M h
    refine h.eF (A := B) Pd [r] rfl hlen.symm rfl (by simp; omega) ?_
    clear h; intro A3 c3 M h
    refine aQ ?_
    refine au h ?_
    clear h
    intro M h
    exact ⟨rfl, A3, c3, _, qY.snoc hr, h.sub br⟩
   ·refine BZ h ?_
    clear h; intro vs M h hr
    obtain ⟨r, rfl, hr⟩ := hr.rc
    refine ⟨_, _, _, _, _, _, _, _, _, _, _, rfl, aF h ?_⟩
    refine aj h ?_
    clear h
    intro kz M h
    refine h.eF (A := B) Pd [r] rfl hlen.symm rfl (by simp; omega) ?_
    clear h; intro A3 c3 M h
    refine aQ ?_
    refine au h ?_
    clear h
    intro M h
    exact ⟨rfl, A3, c3, _, qY.snoc hr, h.sub br⟩
  ·clear h
   rintro nn M ⟨_, B', d', Sg, WE, h⟩
   exact ⟨p.dx.length - (j + 1), by omega, j + 1, B', d', Sg, by rw [aW (by omega)], rfl, by omega, WE, h⟩
 ·have F1 : j = p.dx.length := by omega
  subst F1
  rw [List.take_of_length_le (Nat.le_refl _)] at qY
  obtain ⟨R3, l3, r3, h3⟩ := h.cW B
  clear h
  obtain ⟨n, hn⟩ := Int.eq_ofNat_of_zero_le p2.1
  refine aG h3 ?_
  rw [hn] at h3 ⊢
  refine h3.yH (E := xQ) (a := (none, 0, 0)) WD (by omega) ?_
  clear h3; intro q M h
  refine aQ ?_
  refine au h ?_
  clear h
  intro M h
  obtain ⟨R4, l4, r4, h4⟩ := h.cW (some ⟨q, 0, none⟩)
  clear h
  refine BO h4 rfl ?_
  refine zj h4 rfl rfl rfl ?_
  clear h4; intro M h
  refine BO h rfl ?_
  have WG := Mem.le_trans l3 l4
  have l24 := Mem.le_trans l2 WG
  have Xk := Mem.le_trans l1 l24
  have hw : Xj R4 ⟨pa, some ⟨iU, 0, none⟩, 1, B, d, some ⟨q, 0, none⟩, n, none, 0, none, 0, none, 0⟩ p (Wd.new p) := by
   refine ⟨hp.le Xk, hc.le Xk, ⟨_, r2.le WG, ⟨rfl, fun i r a h1 h2 => ?_⟩⟩, ⟨rs, r3.le l4, qY.le WG⟩, ⟨_, r4, ⟨by simp [Wd.new, hn], fun i r a h1 h2 => ?_⟩⟩, RS.nil _ _, RS.nil _ _, RS.nil _ _⟩
   ·match i, h1, h2 with
    | 0, h1, h2 =>
     cases h1
     have : a = ⟨1, [gM.begin 0 0], .zero⟩ := by simpa [Wd.new] using h2.symm
     subst this
     exact ⟨rfl, rfl, r1.le l24, rfl⟩
    | i + 1, h1, h2 => simp at h1
   ·have e1 := List.eq_of_mem_replicate (List.mem_of_getElem? h1)
    have e2 := List.eq_of_mem_replicate (List.mem_of_getElem? h2)
    subst e1; subst e2
    exact ⟨rfl, RS.nil _ _⟩
  have hk := fun M' => k R4 _ M' Xk rfl hw
  have e1 : (Wd.new p).aC.length = p.dx.length := by simp [Wd.new]
  have e2 : (Wd.new p).aK.length = n := by simp [Wd.new, hn]
  simp only [rwL, e1, e2, hn] at hk
  exact hk _ (h.sub br)
end
structure RPr where
 next : Int
 A : Option Addr
 n : Nat
 c : Nat
 room : Int
 turns : Int
 ia : Int
def Pe : hU RPr := ⟨5, fun w => [.int .i64 w.next, .slice w.A w.n w.c, .int .i64 w.room, .int .i64 w.turns, .int .i64 w.ia], fun _ => rfl, fun w v hv => by
 simp only [List.mem_cons, List.not_mem_nil, or_false] at hv; obtain rfl | rfl | rfl | rfl | rfl := hv <;> rfl⟩
def DL (R : Mem) (r : RPr) (y : dU) : Prop := r.next = y.q.next ∧ r.n = y.q.l.length ∧ RS bl R r.A r.c y.q.l ∧ r.room = (y.q.room : Int) ∧ r.turns = y.turns ∧ r.ia = y.ia
theorem DL.le (R R' : Mem) (r : RPr) (y : dU) (hle : R.le R') (h : DL R r y) : DL R' r y := ⟨h.1, h.2.1, h.2.2.1.le hle, h.2.2.2⟩
def gE.qq : gE → List Int
 | .xU l i => l.drop i
 | .tape _ _ => []
def gE.Pf : gE → List (Int × Int)
 | .xU _ _ => []
 | .tape l i => l.drop i
def gE.isT : gE → Bool
 | .xU _ _ => false
 | .tape _ _ => true
structure Xl where
 an : Option Addr
 cn : Nat
 at_ : Option Addr
 ct : Nat
 ax : Option Addr
 cx : Nat
structure RSA where
 w : RWA
 ap : Option Addr
 cp : Nat
 am : Option Addr
 cm : Nat
 ag : Option Addr
 cg : Nat
 d : Xl
abbrev rdL (a : Xl) (d : jE) : List Value := [.slice a.an d.k.qq.length a.cn, .slice a.at_ d.k.Pf.length a.ct, .bool d.k.isT, .bool false, .slice a.ax d.taken.length a.cx]
abbrev rsL (a : RSA) (p : bZ) (x : Sc) : List Value :=
 [.int .i64 x.c.P, .int .i64 x.c.M, .int .i64 x.c.R, .int .i64 x.c.S, .slice a.w.pa.f p.funcs.length a.w.pa.fc, .slice a.w.pa.c p.dx.length a.w.pa.cc, .int .i64 p.aK, .slice a.w.pa.k p.cases.length a.w.pa.kc, .slice a.w.ag x.w.gs.length a.w.cg, .int .u64 x.w.clock, .slice a.w.ac x.w.aC.length a.w.cc, .slice a.w.al x.w.aK.length a.w.cl, .slice a.w.ah x.w.hl.length a.w.ch, .int .u64 x.w.lG, .slice a.w.ao x.w.out.length a.w.co, .int .i64 x.w.end_, .int .i64 x.w.code, .slice a.w.ar x.w.ready.length a.w.cr,
  .slice a.ap x.ps.length a.cp, .slice a.am x.ms.length a.cm, .slice a.ag x.gl.length a.cg, .slice a.d.an x.d.k.qq.length a.d.cn, .slice a.d.at_ x.d.k.Pf.length a.d.ct, .bool x.d.k.isT, .bool false, .slice a.d.ax x.d.taken.length a.d.cx, .int .i64 x.steps]
structure RDr (R : Mem) (a : Xl) (d : jE) : Prop where
 qq : RS AR R a.an a.cn d.k.qq
 Pf : RS K2 R a.at_ a.ct d.k.Pf
 taken : RS K2 R a.ax a.cx d.taken
theorem RDr.le {R R' : Mem} {a : Xl} {d : jE} (h : RDr R a d) (hle : R.le R') : RDr R' a d := ⟨h.1.le hle, h.2.le hle, h.3.le hle⟩
structure Xm (R : Mem) (a : RSA) (p : bZ) (x : Sc) : Prop where
 w : Xj R a.w p x.w
 ps : ∃ rs, RS Pe R a.ap a.cp rs ∧ DK DL R rs x.ps
 ms : RS ju R a.am a.cm x.ms
 gl : RS bl R a.ag a.cg x.gl
 d : RDr R a.d x.d
theorem Xm.le {R R' : Mem} {a : RSA} {p : bZ} {x : Sc} (h : Xm R a p x) (hle : R.le R') : Xm R' a p x := by
 obtain ⟨h1, ⟨r2, a2, b2⟩, h3, h4, h5⟩ := h
 exact ⟨h1.le hle, ⟨r2, a2.le hle, b2.le DL.le hle⟩, h3.le hle, h4.le hle, h5.le hle⟩
theorem Pg : bj Tryz.prog 82 257 5 56 [.int .i64 0, .slice none 0 0, .int .i64 0, .int .i64 0, .int .i64 0] := bj.mk' (zv := .agg #[.int .i64 0, .slice none 0 0, .int .i64 0, .int .i64 0, .int .i64 0]) (by kernel_rfl) (by kernel_rfl) rfl (by omega)
theorem WH : bj Tryz.prog 83 259 3 24 [.int .i64 0, .int .i64 0, .int .i64 0] := bj.mk' (zv := .agg #[.int .i64 0, .int .i64 0, .int .i64 0]) (by kernel_rfl) (by kernel_rfl) rfl (by omega)
abbrev cfgV (c : Jm) : Value := .agg #[.int .i64 c.P, .int .i64 c.M, .int .i64 c.R, .int .i64 c.S]
abbrev Ph (c : Jm) : List Value := [.int .i64 c.P, .int .i64 c.M, .int .i64 c.R, .int .i64 c.S]
section
variable {R : Mem} {L L' : List HP} {M : Mem} {K : Value → Mem → Prop} {Kp : List PanicEntry → Mem → Prop} {pa : PA} {p : bZ}
abbrev Pj : List Value := [.int .i64 0, .int .i64 0, .int .i64 0, .int .i64 0, .slice none 0 0, .slice none 0 0, .int .i64 0, .slice none 0 0, .slice none 0 0, .int .u64 0, .slice none 0 0, .slice none 0 0, .slice none 0 0, .int .u64 0, .slice none 0 0, .int .i64 0, .int .i64 0, .slice none 0 0, .slice none 0 0, .slice none 0 0, .slice none 0 0, .slice none 0 0, .slice none 0 0, .bool false, .bool false, .slice none 0 0, .int .i64 0]
abbrev rs0 (a : RWA) (p : bZ) (c : Jm) (d : Xl) (ds : jE) (g : Nat) (A : Option Addr) (n e : Nat) (B : Option Addr) (m f : Nat) : List Value :=
 [.int .i64 c.P, .int .i64 c.M, .int .i64 c.R, .int .i64 c.S, .slice a.pa.f p.funcs.length a.pa.fc, .slice a.pa.c p.dx.length a.pa.cc, .int .i64 p.aK, .slice a.pa.k p.cases.length a.pa.kc, .slice a.ag (Wd.new p).gs.length a.cg, .int .u64 (Wd.new p).clock, .slice a.ac (Wd.new p).aC.length a.cc, .slice a.al (Wd.new p).aK.length a.cl, .slice a.ah (Wd.new p).hl.length a.ch, .int .u64 (Wd.new p).lG, .slice a.ao (Wd.new p).out.length a.co, .int .i64 (Wd.new p).end_, .int .i64 (Wd.new p).code, .slice a.ar (Wd.new p).ready.length a.cr,
  .slice A n e, .slice B m f, .slice (some ⟨g, 0, none⟩) 1 1, .slice d.an ds.k.qq.length d.cn, .slice d.at_ ds.k.Pf.length d.ct, .bool ds.k.isT, .bool false, .slice d.ax ds.taken.length d.cx, .int .i64 0]
theorem Lp {c : Jm} {d : jE} {da : Xl} (h : Hp R L M) (hp : kJ R pa p) (hc : RS bl R pa.c pa.cc p.dx) (hok : ej p) (hd : RDr R da d) (hP : 0 ≤ c.P ∧ c.P ≤ 1000000) (hM : 0 ≤ c.M ∧ c.M ≤ 1000000)
  (k : ∀ R' a M', R.le R' → Xm R' a p (Sc.new p c d) → Hp R' L M' → K (.agg (rsL a p (Sc.new p c d)).toArray) M') :
  aa Tryz.prog 78 #[yB pa p, cfgV c, .agg (rdL da d).toArray] M K Kp := by
 refine sK ?_
 refine aj h ?_
 clear h
 intro k1 M h
 refine aj h ?_
 clear h
 intro k3 M h
 refine aj h ?_
 clear h
 intro k5 M h
 refine aj h ?_
 clear h
 intro k7 M h
 repeat (first|(refine BO h rfl ?_)|(refine zj h rfl rfl rfl ?_;clear h;intro M h)|(refine And.intro (fC h rfl) ?_)|(refine aj h ?_;clear h;intro kb M h)|(refine au h ?_;clear h;intro M h)|refine St.to h ?_|(apply Exists.intro;(repeat apply Exists.intro);refine And.intro rfl ?_)|refine av ?_|refine ai ?_|refine ae ?_)
 refine Lo h hp hc hok ?_
 clear h; intro R1 a M l1 hpa hw h
 refine ⟨_, _, _, _, _, _, _, _, _, _, _, _, _, _, rfl, fC h rfl, fC h rfl, ?_⟩
 refine aj h ?_
 clear h
 intro ye M h
 obtain ⟨R2, l2, rg, h2⟩ := ((h.pt ye).gW (E := bl) (l := [0]) rfl).cW (some ⟨ye, 0, none⟩)
 clear h
 refine aj h2 ?_
 clear h2; intro kS M h
 refine zj h rfl rfl rfl ?_
 clear h; intro M h
 refine ⟨fC h rfl, fC h rfl, ?_⟩
 obtain ⟨nP, eP⟩ := Int.eq_ofNat_of_zero_le hP.1
 obtain ⟨nM, eM⟩ := Int.eq_ofNat_of_zero_le hM.1
 have l12 := Mem.le_trans l1 l2
 have h0 : Hp R2 (bE Pe 257 none 0 [] :: pt kS (rs0 a p c da d ye none 0 0 none 0 0) 88 :: pt k3 (Ph c) 23 :: pt k7 Pj 88 :: L) M := by
  rw [← hpa] at h
  exact (h.bY Pe _).sub br
 clear h
 have pr0 : ∀ (R : Mem), DL R ⟨-1, none, 0, 0, (fa c.R : Nat), 0, -1⟩ ⟨⟨-1, fa c.R, []⟩, 0, -1⟩ := fun R => ⟨rfl, rfl, RS.nil _ _, rfl, rfl, rfl⟩
 refine ⟨fun dd vs M => ∃ (j : Nat) (A : Option Addr) (e : Nat) (rs : List RPr), vs = [.int .i64 (j : Int)] ∧ dd = nP - j ∧ j ≤ nP ∧ DK DL R2 rs (List.replicate j ⟨⟨-1, fa c.R, []⟩, 0, -1⟩) ∧
  Hp R2 (bE Pe 257 A e rs :: pt kS (rs0 a p c da d ye A j e none 0 0) 88 :: pt k3 (Ph c) 23 :: pt k7 Pj 88 :: L) M,
  ⟨_, 0, none, 0, [], rfl, rfl, by omega, DK.nil _ _, h0⟩, ?_⟩
 clear h0
 rintro dd _ nn M ⟨j, A, e, rs, he, Py, hj, qY, h⟩
 simp only [List.cons.injEq, Value.int.injEq, and_true, true_and] at he
 subst he
 have hlen : rs.length = j := by rw [qY.1, List.length_replicate]
 refine aG h (aN.2 ⟨fun hlt => ?_, fun hge => ?_⟩)
 ·refine ⟨fun vs M => vs = [] ∧ ∃ (A : Option Addr) (e : Nat) (Sg : List RPr), DK DL R2 Sg (List.replicate (j + 1) ⟨⟨-1, fa c.R, []⟩, 0, -1⟩) ∧
   Hp R2 (bE Pe 257 A e Sg :: pt kS (rs0 a p c da d ye A (j + 1) e none 0 0) 88 :: pt k3 (Ph c) 23 :: pt k7 Pj 88 :: L) M, ?_, ?_⟩
  ·rw [List.replicate_succ']
   refine aG h ⟨?_, ?_, trivial⟩
   ·refine aF h ?_
    refine Ch h ?_
    clear h; intro M h
    refine ⟨_, _, _, _, _, rfl, ?_⟩
    refine aj h ?_
    clear h
    intro kz M h
    refine h.eF (A := A) Pg [⟨-1, none, 0, 0, (fa c.R : Nat), 0, -1⟩] rfl hlen.symm rfl (by simp; omega) ?_
    clear h; intro A3 c3 M h
    refine aQ ?_
    refine au h ?_
    clear h
    intro M h
    exact ⟨rfl, A3, c3, _, qY.snoc (pr0 _), h.sub br⟩
   ·refine Ch h ?_
    clear h; intro M h
    refine ⟨_, _, _, _, _, rfl, aF h ?_⟩
    refine aj h ?_
    clear h
    intro kz M h
    refine h.eF (A := A) Pg [⟨-1, none, 0, 0, (fa c.R : Nat), 0, -1⟩] rfl hlen.symm rfl (by simp; omega) ?_
    clear h; intro A3 c3 M h
    refine aQ ?_
    refine au h ?_
    clear h
    intro M h
    exact ⟨rfl, A3, c3, _, qY.snoc (pr0 _), h.sub br⟩
  ·clear h
   rintro nn M ⟨_, B', d', Sg, WE, h⟩
   exact ⟨nP - (j + 1), by omega, j + 1, B', d', Sg, by rw [aW (by omega)], rfl, by omega, WE, h⟩
 ·have F1 : j = nP := by omega
  subst F1
  obtain ⟨R3, l3, r3, h3⟩ := h.cW A
  clear h
  have h0 : Hp R3 (bE ju 259 none 0 [] :: pt kS (rs0 a p c da d ye A j e none 0 0) 88 :: pt k3 (Ph c) 23 :: pt k7 Pj 88 :: L) M := h3.bY ju _
  clear h3
  refine ⟨fun dd vs M => ∃ (i : Nat) (B : Option Addr) (f : Nat), vs = [.int .i64 (i : Int)] ∧ dd = nM - i ∧ i ≤ nM ∧
   Hp R3 (bE ju 259 B f (List.replicate i ⟨-1, -1, 0⟩) :: pt kS (rs0 a p c da d ye A j e B i f) 88 :: pt k3 (Ph c) 23 :: pt k7 Pj 88 :: L) M,
   ⟨_, 0, none, 0, rfl, rfl, by omega, h0⟩, ?_⟩
  clear h0
  rintro dd _ nn M ⟨i, B, f, he, hd3, hi, h⟩
  simp only [List.cons.injEq, Value.int.injEq, and_true, true_and] at he
  subst he
  refine aG h (aN.2 ⟨fun hlt => ?_, fun RL => ?_⟩)
  ·refine aF h ?_
   refine aj h ?_
   clear h
   intro kz M h
   refine h.eF (A := B) WH [⟨-1, -1, 0⟩] rfl (by simp) rfl (by simp; omega) ?_
   clear h; intro A3 c3 M h
   refine aQ ?_
   refine au h ?_
   clear h
   intro M h
   refine ⟨nM - (i + 1), by omega, i + 1, A3, c3, by rw [aW (by omega)], rfl, by omega, ?_⟩
   rw [List.replicate_succ']
   exact h.sub br
  ·have hil : i = nM := by omega
   subst hil
   obtain ⟨R4, l4, r4, h4⟩ := h.cW B
   clear h
   refine BO h4 rfl ?_
   refine zj h4 rfl rfl rfl ?_
   clear h4; intro M h
   refine BO h rfl ?_
   have WG := Mem.le_trans l3 l4
   have l24 := Mem.le_trans l2 WG
   have Xk := Mem.le_trans l1 l24
   have hs : Xm R4 ⟨a, A, e, B, f, some ⟨ye, 0, none⟩, 1, da⟩ p (Sc.new p c d) := by
    refine ⟨hw.le l24, ⟨rs, r3.le l4, ?_⟩, ?_, rg.le WG, hd.le Xk⟩
    ·have := qY.le DL.le WG
     unfold Sc.new
     rwa [eP, Int.toNat_natCast]
    ·unfold Sc.new
     rw [eM, Int.toNat_natCast]
     exact r4
   have hk := fun M' => k R4 _ M' Xk hs
   have e1 : (Sc.new p c d).ps.length = j := by simp [Sc.new, eP]
   have e2 : (Sc.new p c d).ms.length = i := by simp [Sc.new, eM]
   simp only [rsL, e1, e2] at hk
   exact hk _ (h.sub br)
end
def uc (p : bZ) (c : Jm) (l : List Int) : Sc := Sc.new (ee p) c ⟨.xU l 0, [], none⟩
section
variable {R : Mem} {L L' : List HP} {M : Mem} {K : Value → Mem → Prop} {Kp : List PanicEntry → Mem → Prop} {pa : PA} {p : bZ}
theorem Ig {c : Jm} {B : Option Addr} {m cb : Nat} {l : List Int} (h : Hp R L M) (ha : qI R pa p) (hP : 0 ≤ c.P ∧ c.P ≤ 1000000) (hM : 0 ≤ c.M ∧ c.M ≤ 1000000) (hB : RS AR R B cb l) (hm : m = l.length) (hl : l.length ≤ 1000000000)
  (k : ∀ R' a CG b wb db M', R.le R' → kJ R' CG (ee p) → Xm R' a (ee p) (uc p c l) → Hp R' (ay (dZ CG (ee p) wb db) b (uc p c l) :: L) M' → K (.tuple #[.pointer (some ⟨b, 0, none⟩), .agg (rsL a (ee p) (uc p c l)).toArray, .pointer (some ⟨db, 0, none⟩)]) M') :
  aa Tryz.prog 32 #[yB pa p, cfgV c, .slice B m cb] M K Kp := by
 refine qk ?_
 subst hm
 have hok := CF p
 refine aj h ?_
 clear h
 intro k1 M h
 refine aj h ?_
 clear h
 intro k3 M h
 refine aj h ?_
 clear h
 intro k5 M h
 refine aF h (aF h (aG h (aF h ?_)))
 refine O6 h ha ?_
 clear h; intro R1 p1 M l1 Og Wl h
 refine ⟨_, _, _, _, _, _, _, _, _, _, rfl, ?_⟩
 refine aj h ?_
 clear h
 intro jX M h
 repeat (refine au h ?_; clear h; intro M h)
 refine sZ (l := l) h (hB.le l1).src rfl hl ?_
 clear h; intro db M h
 refine jL (aF h (aF h (aG h (aF h (aG h (aG h (aG h (aG h (aF h (aF h (aG h (aF h (aG h (aG h (aG h (aG h ?_))))))))))))))))
 refine Sf h Og Wl hok (by have := xk p; simp [ee]; omega) ?_
 clear h; intro R2 p2 M l2 hp2 II h
 refine ⟨_, _, _, _, _, _, _, _, _, _, rfl, fC h rfl, fC h rfl, fC h rfl, ?_⟩
 refine Cz (p := ee p) (pa := p2) (c := c) h II (by have := hok.ch; omega) (by have := hok.lk; omega) hP hM ?_
 clear h; intro b wb M h
 refine jL ⟨fC h rfl, fC h rfl, fC h rfl, ?_⟩
 refine Lp (c := c) (d := ⟨.xU l 0, [], none⟩) (da := ⟨B, cb, none, 0, none, 0⟩) h (Og.le l2) (Wl.le l2) hok ⟨by simpa [gE.qq] using hB.le (Mem.le_trans l1 l2), RS.nil _ _, RS.nil _ _⟩ hP hM ?_
 clear h; intro R3 a M l3 hs h
 refine ⟨_, rfl, rfl, fC h rfl, fC h rfl, fC h rfl, ?_⟩
 refine zj h rfl rfl rfl ?_
 clear h; intro M h
 refine ⟨fC h rfl, fC h rfl, fC h rfl, ?_⟩
 refine BO h rfl ?_
 exact k R3 a p2 b wb db M (Mem.le_trans l1 (Mem.le_trans l2 l3)) (hp2.le l3) hs (h.sub br)
end
end Go.Proofs
