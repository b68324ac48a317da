/- A part of proofs about one program. -/
import Derived.WideShapes
import Derived.Test.YtnnlgknlialpmaaGreatZFairAny6
set_option linter.unusedVariables false
namespace Go.AF
theorem qu {P : Program} {w : World} {r : Reach} {base : Nat} {t e : TypeId} {A : Option Addr} {n c : Nat} (hu : P.underlying t = some (.slice e)) (h : Value.okWide P w r base t (.slice A n c)) : ∀ x, A = some x → x.spot = none := by
 intro x hx
 subst hx
 simp only [Value.okWide, hu, Cell.okWide, Cell.ok, World.has] at h
 exact h.2.2.2.1
def HW (M : Mem) (A : Option Addr) (n c : Nat) (ks : List IntKind) : Prop := mF M A n c ks ∧ ∀ x, A = some x → x.spot = none
theorem WC (l : List (Nat → Int)) : (kE [.u64]).cells l = Eh.cells (l.map (· 0)) := by
 induction l with
 | nil => rfl
 | cons g l ih => rw [iz.bU, List.map_cons, iz.bU, ih]; rfl
theorem HW.rs {α : Type} {E : iz α} {M : Mem} {A : Option Addr} {n c : Nat} {ks : List IntKind} (h : HW M A n c ks) (f : (Nat → Int) → α) (hc : ∀ l, (kE ks).cells l = E.cells (l.map f)) : ∃ l : List (Nat → Int), (l.map f).length = n ∧ n ≤ c ∧ n ≤ 9223372036854775807 ∧ RS E M A c (l.map f) ∧ ∀ g ∈ l, ∀ j k, ks[j]? = some k → (Lit.int k (g j)).wf = true := by
 obtain ⟨⟨l, rfl, h1, h2, h3, h4⟩, hs⟩ := h
 refine ⟨l, by simp, h1, Nat.le_trans h2 (by decide), ⟨?_, by simpa using h1⟩, h4⟩
 rcases Nat.eq_zero_or_pos l.length with h0 | h0
 ·have : l = [] := List.eq_nil_of_length_eq_zero h0
  subst this
  match A, hs with
  | none, _ => rfl
  | some ⟨b, o, sp⟩, hs =>
   have := hs _ rfl
   simp only at this
   subst this
   intro i hi
   simp [iz.cells] at hi
 ·rw [← hc]
  exact h3 h0
theorem HW.u64 {M : Mem} {A : Option Addr} {n c : Nat} (h : HW M A n c [.u64]) : ∃ l : List Int, l.length = n ∧ n ≤ 9223372036854775807 ∧ n ≤ c ∧ RS Eh M A c l ∧ ∀ v ∈ l, 0 ≤ v ∧ v < 18446744073709551616 := by
 obtain ⟨l, h1, h2, h3, h4, h5⟩ := h.rs (E := Eh) (· 0) WC
 refine ⟨_, h1, h3, h2, h4, fun v hv => ?_⟩
 obtain ⟨g, hg, rfl⟩ := List.mem_map.1 hv
 have := h5 g hg 0 .u64 rfl
 simp [Lit.wf, IntKind.has, IntKind.min, IntKind.max, IntKind.signed, IntKind.bits] at this
 omega
end Go.AF
namespace Go.Proofs
open Go.AF
set_option maxRecDepth 100000
set_option maxHeartbeats 1000000
attribute [local irreducible] aJ de fm cy aB dZ aF aK bh aY bA aO
attribute [local irreducible] Xe stL
section
variable {R : Mem} {L L' : List HP} {M : Mem} {K : Value → Mem → Prop} {Kp : List PanicEntry → Mem → Prop} {pa : PA} {p : b7}
theorem HX {c0 c1 c2 c3 : Int} {B : Option Addr} {m cb : Nat} (ha : tH M pa p) (hB : HW M B m cb [.u64]) (k : ∀ M', nv [] M M' → K (.bool true) M') :
  aa Tryz.prog 8 #[DB pa p, .agg #[.int .i64 c0, .int .i64 c1, .int .i64 c2, .int .i64 c3], .slice B m cb] M K Kp := by
 refine mW ?_
 have k' : ∀ (R : Mem) (L : List HP) M', M.le R → Hp R L M' → K (.bool true) M' := fun R L M' hle h => k M' (ou.TB (fun b o hb => h.le b o (hle b o hb)) [])
 clear k
 obtain ⟨E1, n1, n2, n3, hr, hn⟩ := hB.u64
 subst n1
 have h := Hp.start M
 have cok := zP ⟨c0, c1, c2, c3⟩
 refine aq h ?_
 clear h
 intro k1 M1 h
 refine aq h ?_
 clear h
 intro k3 M2 h
 refine FC h ?_
 clear h; intro M3 h
 have e400 : Int.toNat (if (400 : Int) < ((E1.length : Nat) : Int) then 400 else ((E1.length : Nat) : Int)) - 0 = min 400 E1.length := by split <;> omega
 refine od (ai (aI h (aI h (aI h (aI h ?_)))))
 refine HI (c := ⟨c0, c1, c2, c3⟩) h ?_
 clear h; intro M4 h
 refine ⟨_, _, _, _, rfl, ?_⟩
 refine aq h ?_
 clear h
 intro fI M5 h
 repeat (refine au h ?_; clear h; intro M h)
 refine ⟨by omega, by omega, by split <;> omega, by split <;> omega, by omega, by split <;> omega, ?_⟩
 simp only [e400, Int.toNat_natCast]
 refine aS h (aS h (aI h (aS h (aI h (aI h (aI h (aI h ⟨trivial, ?_⟩)))))))
 have hcut := RS.cut hr 400
 refine Pm h ha ?_
 clear h; intro R1 p1 M l1 SI W9 h
 refine ⟨_, _, _, _, _, _, _, _, _, _, rfl, Il h rfl, trivial, ?_⟩
 have hok := Ln p
 refine RX h SI W9 hok (by have := wF p; simp [fG]; omega) ?_
 clear h; intro R2 p2 M l2 hp2 Pz h
 refine ⟨_, _, _, _, _, _, _, _, _, _, rfl, Il h rfl, trivial, ?_⟩
 have hle := Mem.le_trans l1 l2
 have hlk : (gT.lA (E1.take 400) 0).Ok := ⟨by rw [List.length_take]; omega, by simp, fun v hv => hn v (List.mem_of_mem_take hv)⟩
 have told := fun y c => Lp (p := fG p) (cf := b9 ⟨c0, c1, c2, c3⟩) (l := E1.take 400) (most := (400 : Int).toNat) (y := y) (c := c) hok (by omega) (by omega) (by omega) (by omega) (by decide) hlk
 refine HT (p := fG p) (pa := p2) (cf := b9 ⟨c0, c1, c2, c3⟩) (l := E1.take 400) h hp2 Pz hok (by omega) (by omega) (by omega) (RS.le hcut hle) (by rw [List.length_take]) hlk (by rw [List.length_take]; omega) (by omega) (fun y c hw => (told y c hw).1) ?_
 clear h; intro R3 y c M l3 hw h
 obtain ⟨hT, w, e1, e2, e3⟩ := told y c hw
 have h0 : SV (fG p) 0 (Sc.new (fG p) (b9 ⟨c0, c1, c2, c3⟩) ⟨.lA (E1.take 400) 0, []⟩) := SV.new hok (by omega) (by omega) (by omega) rfl hlk
 obtain ⟨N, hN, hv⟩ := hw.sv h0 hok (by decide)
 have xl := hv.w.n2
 have Fx := Mem.le_trans hle l3
 refine ⟨_, _, _, _, rfl, Il h rfl, ?_⟩
 rw [e1]
 refine aq h ?_
 clear h
 intro xD M h
 repeat (refine au h ?_; clear h; intro M h)
 refine ⟨Il h rfl, aI h ?_⟩
 refine aR.2 ⟨fun _ => k' R3 _ _ Fx h, fun hne => ?_⟩
 refine aI h (aI h (aI h (aI h (aI h (aI h (aI h ?_))))))
 have eS : (b9 ⟨c0, c1, c2, c3⟩).S = ((b9 ⟨c0, c1, c2, c3⟩).S.toNat : Int) := by omega
 have eR : (b9 ⟨c0, c1, c2, c3⟩).R = ((b9 ⟨c0, c1, c2, c3⟩).R.toNat : Int) := by omega
 rw [eS, eR]
 refine Aj h (by omega) (by omega) e2 (by omega) ?_
 clear h; intro M h
 refine cG ⟨bM h, ?_⟩
 rw [decide_eq_true (e3 (by omega))]
 exact k' R3 _ _ Fx h
end
end Go.Proofs
