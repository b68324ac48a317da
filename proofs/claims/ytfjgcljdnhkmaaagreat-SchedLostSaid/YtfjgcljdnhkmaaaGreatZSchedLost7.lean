/- A part of proofs about one program. -/
import Derived.ChangeArms
import Derived.Deep.Slices
import Derived.OpenShut
import Derived.Recover
import Derived.Scope
import Derived.Test.YtfjgcljdnhkmaaaGreatProg
import Derived.WalkKit
import Derived.WideShapes
import Derived.Test.YtfjgcljdnhkmaaaGreatZSchedLostBase
import Derived.Test.YtfjgcljdnhkmaaaGreatZSchedLostOps
import Derived.Test.YtfjgcljdnhkmaaaGreatZSchedLostOpsB
import Derived.Test.YtfjgcljdnhkmaaaGreatZSchedLostOpC
import Derived.Test.YtfjgcljdnhkmaaaGreatZSchedLostFrame
import Derived.Test.YtfjgcljdnhkmaaaGreatZSchedLostReg
import Derived.Test.YtfjgcljdnhkmaaaGreatZSchedLostRegB
import Derived.Test.YtfjgcljdnhkmaaaGreatZSchedLostRegL
import Derived.Test.YtfjgcljdnhkmaaaGreatZSchedLostRegC
import Derived.Test.YtfjgcljdnhkmaaaGreatZSchedLostExec
import Derived.Test.YtfjgcljdnhkmaaaGreatZSchedLostSound
import Derived.Test.YtfjgcljdnhkmaaaGreatZSchedLostSoundB
import Derived.Test.YtfjgcljdnhkmaaaGreatZSchedLostLib
import Derived.Test.YtfjgcljdnhkmaaaGreatZSchedLostHp
import Derived.Test.YtfjgcljdnhkmaaaGreatZSchedLostRow
import Derived.Test.YtfjgcljdnhkmaaaGreatZSchedLostBig
import Derived.Test.YtfjgcljdnhkmaaaGreatZSchedLostStC
import Derived.Test.YtfjgcljdnhkmaaaGreatZSchedLostMod
import Derived.Test.YtfjgcljdnhkmaaaGreatZSchedLostOpen
import Derived.Test.YtfjgcljdnhkmaaaGreatZSchedLostArgs
import Derived.Test.YtfjgcljdnhkmaaaGreatZSchedLostDefer
import Derived.Test.YtfjgcljdnhkmaaaGreatZSchedLostDefer2
import Derived.Test.YtfjgcljdnhkmaaaGreatZSchedLostAgg
import Derived.Test.YtfjgcljdnhkmaaaGreatZSchedLost0
import Derived.Test.YtfjgcljdnhkmaaaGreatZSchedLost1
import Derived.Test.YtfjgcljdnhkmaaaGreatZSchedLost2
import Derived.Test.YtfjgcljdnhkmaaaGreatZSchedLost3
import Derived.Test.YtfjgcljdnhkmaaaGreatZSchedLost4
import Derived.Test.YtfjgcljdnhkmaaaGreatZSchedLost5
import Derived.Test.YtfjgcljdnhkmaaaGreatZSchedLost6
set_option linter.unusedVariables false
namespace Go.AF
theorem ql {P : Program} {w : World} {r : Reach} {base : Nat} {t e : TypeId} {A : Option Addr} {n c : Nat} (hu : P.underlying t = some (.slice e)) (h : Value.okWide P w r base t (.slice A n c)) : ∀ x, A = some x → x.spot = none := by
 intro x hx
 subst hx
 simp only [Value.okWide, hu, Cell.okWide, Cell.ok, World.has] at h
 exact h.2.2.2.1
def Hz (M : Mem) (A : Option Addr) (n c : Nat) (ks : List IntKind) : Prop := my M A n c ks ∧ ∀ x, A = some x → x.spot = none
theorem VP (l : List (Nat → Int)) : (kE [.u64]).cells l = zP.cells (l.map (· 0)) := by
 induction l with
 | nil => rfl
 | cons g l ih => rw [gy.bV, List.map_cons, gy.bV, ih]; rfl
theorem Hz.rs {α : Type} {E : gy α} {M : Mem} {A : Option Addr} {n c : Nat} {ks : List IntKind} (h : Hz M A n c ks) (f : (Nat → Int) → α) (hc : ∀ l, (kE ks).cells l = E.cells (l.map f)) : ∃ l : List (Nat → Int), (l.map f).length = n ∧ n ≤ c ∧ n ≤ 9223372036854775807 ∧ RS E M A c (l.map f) ∧ ∀ g ∈ l, ∀ j k, ks[j]? = some k → (Lit.int k (g j)).wf = true := by
 obtain ⟨⟨l, rfl, h1, h2, h3, h4⟩, hs⟩ := h
 refine ⟨l, by simp, h1, Nat.le_trans h2 (by decide), ⟨?_, by simpa using h1⟩, h4⟩
 rcases Nat.eq_zero_or_pos l.length with h0 | h0
 ·have : l = [] := List.eq_nil_of_length_eq_zero h0
  subst this
  match A, hs with
  | none, _ => rfl
  | some ⟨b, o, sp⟩, hs =>
   have := hs _ rfl
   simp only at this
   subst this
   intro i hi
   simp [gy.cells] at hi
 ·rw [← hc]
  exact h3 h0
theorem Hz.u64 {M : Mem} {A : Option Addr} {n c : Nat} (h : Hz M A n c [.u64]) : ∃ l : List Int, l.length = n ∧ n ≤ 9223372036854775807 ∧ n ≤ c ∧ RS zP M A c l ∧ ∀ v ∈ l, 0 ≤ v ∧ v < 18446744073709551616 := by
 obtain ⟨l, h1, h2, h3, h4, h5⟩ := h.rs (E := zP) (· 0) VP
 refine ⟨_, h1, h3, h2, h4, fun v hv => ?_⟩
 obtain ⟨g, hg, rfl⟩ := List.mem_map.1 hv
 have := h5 g hg 0 .u64 rfl
 simp [Lit.wf, IntKind.has, IntKind.min, IntKind.max, IntKind.signed, IntKind.bits] at this
 omega
end Go.AF
namespace Go.Proofs
open Go.AF
set_option maxRecDepth 100000
set_option maxHeartbeats 1000000
attribute [local irreducible] aK cD fH bL aD fx aI aO bj aS bI aV
attribute [local irreducible] IW KN
section
variable {R : Mem} {L L' : List HP} {M : Mem} {K : Value → Mem → Prop} {Kp : List PanicEntry → Mem → Prop} {pa : PA} {p : bZ}
theorem C9 {c0 c1 c2 c3 : Int} {B : Option Addr} {m cb : Nat} (ha : tp M pa p) (hB : Hz M B m cb [.u64]) (k : ∀ M', nh [] M M' → K (.bool true) M') :
  ae Tryz.prog 7 #[C2 pa p, .agg #[.int .i64 c0, .int .i64 c1, .int .i64 c2, .int .i64 c3], .slice B m cb] M K Kp := by
 refine lq ?_
 have k' : ∀ (R : Mem) (L : List HP) M', M.le R → Hp R L M' → K (.bool true) M' := fun R L M' hle h => k M' (od.SF (fun b o hb => h.le b o (hle b o hb)) [])
 clear k
 obtain ⟨rP, n1, n2, n3, hr, hn⟩ := hB.u64
 subst n1
 have h := Hp.start M
 have cok := zA ⟨c0, c1, c2, c3⟩
 refine av h ?_
 clear h
 intro k1 M1 h
 refine av h ?_
 clear h
 intro k3 M2 h
 refine E9 h ?_
 clear h; intro R1 M3 l1 h
 have e200 : Int.toNat (if (200 : Int) < ((rP.length : Nat) : Int) then 200 else ((rP.length : Nat) : Int)) - 0 = min 200 rP.length := by split <;> omega
 refine mu (au ⟨by omega, by omega, by split <;> omega, by split <;> omega, by omega, by split <;> omega, ?_⟩)
 simp only [e200, Int.toNat_natCast]
 refine aJ h (aJ h (aJ h (aJ h (aR h (aR h (aJ h (aR h ⟨trivial, ?_⟩)))))))
 refine Hv (c := ⟨c0, c1, c2, c3⟩) h ?_
 clear h; intro M4 h
 refine ⟨_, _, _, _, rfl, gm h rfl, trivial, ?_⟩
 have VN := RS.le (RS.cut hr 200) l1
 refine Hw (p := p) (pa := pa) (c := cQ ⟨c0, c1, c2, c3⟩) (l := rP.take 200) h (ha.le l1) (by omega) (by omega) VN (by rw [List.length_take]) (by rw [List.length_take]; omega) ?_
 clear h; intro R2 a C3 b wb db M5 l2 hp hs h
 refine ⟨_, _, rfl, _, rfl, gm h rfl, ?_⟩
 refine av h ?_
 clear h
 intro nE M6 h
 refine yd h rfl rfl rfl ?_
 clear h; intro M7 h
 refine ⟨gm h rfl, ?_⟩
 have hok := BV p
 have ZW : SV (fG p) 0 (zB p (cQ ⟨c0, c1, c2, c3⟩) (rP.take 200)) := SV.new hok (by omega) (by omega) (by omega) rfl ⟨by rw [List.length_take]; omega, by simp, fun v hv => hn v (List.mem_of_mem_take hv)⟩
 generalize zB p (cQ ⟨c0, c1, c2, c3⟩) (rP.take 200) = x0 at h ZW
 generalize fG p = p' at h ZW hp hok
 have h0 : Hp R2 (aB (dy C3 p' wb db) b x0 :: []) M7 := h.sub (by repeat (first | exact .refl | refine .cons (by repeat (first | exact .here | apply aF.there)) ?_ | apply Sub.drop))
 clear h hs
 have tf : M.le R2 := Mem.le_trans l1 l2
 have fin : ∀ (R : Mem) (x : Sc) (N : Nat) M', SV p' N x → Hp R (aB (dy C3 p' wb db) b x :: []) M' → ∀ G : Bool → Mem → Prop, (∀ R' M', R.le R' → Hp R' (aB (dy C3 p' wb db) b x :: []) M' → G true M') → ae Tryz.prog 28 #[.pointer (some ⟨b, 0, none⟩)] M' (fun v M => cD (some v) fun t => G t M) Kp :=
  fun R x N M' hv h G hG => Fb h hv fun R' M2 tf h2 => mu (hG R' M2 tf h2)
 refine ⟨fun dd vs M' => ∃ (j : Nat) (x : Sc) (R' : Mem), vs = [.int .i64 (j : Int)] ∧ dd = 200 - j ∧ j ≤ 200 ∧ R2.le R' ∧ SV p' j x ∧ Hp R' (aB (dy C3 p' wb db) b x :: []) M', ⟨_, 0, x0, R2, rfl, rfl, by omega, Mem.le_refl _, ZW, h0⟩, ?_⟩
 clear h0 ZW
 rintro dd _ nn M8 ⟨j, x, R3, he, hd, hj, Hx, hv, h⟩
 simp only [List.cons.injEq, Value.int.injEq, and_true, true_and] at he
 subst he
 have OF := Mem.le_trans tf Hx
 refine aP.2 ⟨fun hlt => ?_, fun hge => fin R3 x j M8 hv h _ fun R' M' hle h => k' R' _ M' (Mem.le_trans OF hle) h⟩
 obtain ⟨y, o, hst, Ff⟩ := hv.step hok (by omega)
 refine Hy h (hp.le Hx) hv.k hst ?_
 clear h
 cases o with
 | ev e =>
  intro R4 A5 c5 M9 h1 h2 h3 h
  refine ⟨_, _, _, _, _, _, _, rfl, ?_⟩
  refine av h ?_
  clear h
  intro vr M h
  refine jS h ?_
  clear h; intro M h
  refine au ?_
  have h0 : Hp R4 (aB (dy C3 p' wb db) b y :: []) M := h.sub (by repeat (first | exact .refl | refine .cons (by repeat (first | exact .here | apply aF.there)) ?_ | apply Sub.drop))
  clear h
  have hle5 := Mem.le_trans OF h1
  refine fin R4 y (j + 1) M Ff h0 _ ?_
  clear h0
  intro R5 M Y6 h
  have xX := Ff.w.n2
  refine au ?_
  refine nS (b := b) h (by omega) (cE ?_)
  refine de.2 ⟨fun _ => fin R5 y (j + 1) M Ff h _ fun R' M' hle h => k' R' _ M' (Mem.le_trans hle5 (Mem.le_trans Y6 hle)) h, fun _ => ?_⟩
  exact ⟨200 - (j + 1), by omega, j + 1, y, R5, by rw [aT (by omega)], rfl, by omega, Mem.le_trans Hx (Mem.le_trans h1 Y6), Ff, h⟩
 | dG l =>
  intro e vs M9 hg hk h
  refine ⟨_, _, _, _, _, _, _, rfl, ?_⟩
  refine av h ?_
  clear h
  intro vr M h
  refine jS h ?_
  clear h; intro M h
  have he := hg.shape.1
  have h0 : Hp R3 (aB (dy C3 p' wb db) b y :: []) M := h.sub (by repeat (first | exact .refl | refine .cons (by repeat (first | exact .here | apply aF.there)) ?_ | apply Sub.drop))
  clear h
  exact de.2 ⟨fun _ => fin R3 y (j + 1) M Ff h0 _ fun R' M' hle h => k' R' _ M' (Mem.le_trans OF hle) h, fun h0 => by omega⟩
end
end Go.Proofs
