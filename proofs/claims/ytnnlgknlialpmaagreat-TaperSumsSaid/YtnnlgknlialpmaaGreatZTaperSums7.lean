/- A part of proofs about one program. -/
import Derived.WideShapes
import Derived.Test.YtnnlgknlialpmaaGreatZTaperSums6
set_option linter.unusedVariables false
namespace Go.AF
theorem rz {P : Program} {w : World} {r : Reach} {base : Nat} {t e : TypeId} {A : Option Addr} {n c : Nat} (hu : P.underlying t = some (.slice e)) (h : Value.okWide P w r base t (.slice A n c)) : ∀ x, A = some x → x.spot = none := by
 intro x hx
 subst hx
 simp only [Value.okWide, hu, Cell.okWide, Cell.ok, World.has] at h
 exact h.2.2.2.1
def Kk (M : Mem) (A : Option Addr) (n c : Nat) (ks : List IntKind) : Prop := ni M A n c ks ∧ ∀ x, A = some x → x.spot = none
theorem Y4 (l : List (Nat → Int)) : (kE [.u64]).cells l = D9.cells (l.map (· 0)) := by
 induction l with
 | nil => rfl
 | cons g l ih => rw [fP.bY, List.map_cons, fP.bY, ih]; rfl
theorem Kk.rs {α : Type} {E : fP α} {M : Mem} {A : Option Addr} {n c : Nat} {ks : List IntKind} (h : Kk M A n c ks) (f : (Nat → Int) → α) (hc : ∀ l, (kE ks).cells l = E.cells (l.map f)) : ∃ l : List (Nat → Int), (l.map f).length = n ∧ n ≤ c ∧ n ≤ 9223372036854775807 ∧ RS E M A c (l.map f) ∧ ∀ g ∈ l, ∀ j k, ks[j]? = some k → (Lit.int k (g j)).wf = true := by
 obtain ⟨⟨l, rfl, h1, h2, h3, h4⟩, hs⟩ := h
 refine ⟨l, by simp, h1, Nat.le_trans h2 (by decide), ⟨?_, by simpa using h1⟩, h4⟩
 rcases Nat.eq_zero_or_pos l.length with h0 | h0
 ·have : l = [] := List.eq_nil_of_length_eq_zero h0
  subst this
  match A, hs with
  | none, _ => rfl
  | some ⟨b, o, sp⟩, hs =>
   have := hs _ rfl
   simp only at this
   subst this
   intro i hi
   simp [fP.cells] at hi
 ·rw [← hc]
  exact h3 h0
theorem Kk.u64 {M : Mem} {A : Option Addr} {n c : Nat} (h : Kk M A n c [.u64]) : ∃ l : List Int, l.length = n ∧ n ≤ 9223372036854775807 ∧ n ≤ c ∧ RS D9 M A c l ∧ ∀ v ∈ l, 0 ≤ v ∧ v < 18446744073709551616 := by
 obtain ⟨l, h1, h2, h3, h4, h5⟩ := h.rs (E := D9) (· 0) Y4
 refine ⟨_, h1, h3, h2, h4, fun v hv => ?_⟩
 obtain ⟨g, hg, rfl⟩ := List.mem_map.1 hv
 have := h5 g hg 0 .u64 rfl
 simp [Lit.wf, IntKind.has, IntKind.min, IntKind.max, IntKind.signed, IntKind.bits] at this
 omega
end Go.AF
namespace Go.Proofs
open Go.AF
set_option maxRecDepth 100000
set_option maxHeartbeats 1000000
attribute [local irreducible] aK dH fz cv az fC aE aN aW aX bL aQ
attribute [local irreducible] Sh VQ
def LG : cu := ⟨[[⟨10, 0, 0, 0⟩]], [], 0, []⟩
def ZG : Sc := Sc.new LG ⟨1, 1, 2, 1⟩ ⟨.yY [0, 0, 0] 0, []⟩
def Y5 (x : Sc) : Sc × Ev := (evOf (x.step LG)).getD (x, ⟨0, 0, 0, []⟩)
def RO : Sc × Ev := Y5 ZG
def ZH : Sc × Ev := Y5 RO.1
def c21 : Sc × Ev := Y5 ZH.1
theorem RI : ZG.step LG = some (RO.1, .ev RO.2) := by kernel_rfl
theorem RJ : RO.1.step LG = some (ZH.1, .ev ZH.2) := by kernel_rfl
theorem RK : ZH.1.step LG = some (c21.1, .ev c21.2) := by kernel_rfl
theorem s21 : ZG.status = 0 ∧ RO.1.status = 0 ∧ ZH.1.status = 0 ∧ c21.1.status = 1 := ⟨by kernel_rfl, by kernel_rfl, by kernel_rfl, by kernel_rfl⟩
theorem ok21 : eC LG := by
 refine ⟨by decide, by decide, by decide, by decide, fun c hc => (nomatch hc), fun f hf => ?_⟩
 simp only [LG, List.mem_singleton] at hf
 subst hf
 refine ⟨by decide, by decide, fun i hi => ?_⟩
 simp only [List.mem_singleton] at hi
 subst hi
 simp [jW, cN.cC, be, LG]
theorem tr21 {j : Nat} {x : Sc} {l : List Int} (h : TR LG ZG j x l) : (j = 0 ∧ x = ZG) ∨ (j = 1 ∧ x = RO.1) ∨ (j = 2 ∧ x = ZH.1) ∨ (j = 3 ∧ x = c21.1) := by
 induction h with
 | zero => exact .inl ⟨rfl, rfl⟩
 | succ hw hs he ih =>
  rcases ih with ⟨rfl, rfl⟩ | ⟨rfl, rfl⟩ | ⟨rfl, rfl⟩ | ⟨rfl, rfl⟩
  ·rw [RI] at he; cases he; exact .inr (.inl ⟨rfl, rfl⟩)
  ·rw [RJ] at he; cases he; exact .inr (.inr (.inl ⟨rfl, rfl⟩))
  ·rw [RK] at he; cases he; exact .inr (.inr (.inr ⟨rfl, rfl⟩))
  ·rw [s21.2.2.2] at hs; cases hs
theorem te21 {y : Sc} {l : List Int} {st : Int} (h : HH LG ZG 9 y l st) : st = 1 ∧ y.steps = 3 ∧ l.length = 3 := by
 obtain ⟨q1, q2, q3, q4⟩ := s21
 cases h with
 | US hw hj hh =>
  have hl := hw.len
  rcases tr21 hw with ⟨rfl, rfl⟩ | ⟨rfl, rfl⟩ | ⟨rfl, rfl⟩ | ⟨rfl, rfl⟩
  ·exact absurd q1 (hh.resolve_left (by decide))
  ·exact absurd q2 (hh.resolve_left (by decide))
  ·exact absurd q3 (hh.resolve_left (by decide))
  ·exact ⟨by rw [q4]; rfl, by kernel_rfl, hl⟩
 | dF hw hj hst E6 =>
  rcases tr21 hw with ⟨rfl, rfl⟩ | ⟨rfl, rfl⟩ | ⟨rfl, rfl⟩ | ⟨rfl, rfl⟩
  ·rw [RI] at E6; cases E6
  ·rw [RJ] at E6; cases E6
  ·rw [RK] at E6; cases E6
  ·rw [q4] at hst; cases hst
section
variable {R : Mem} {L L' : List HP} {M : Mem} {K : Value → Mem → Prop} {Kp : List PanicEntry → Mem → Prop} {pa : PA} {p : cu}
theorem E9 {cf : Se} {B : Option Addr} {m cB : Nat} {l : List Int} {most : Int} (h : Hp R L M) (hp : nB R pa p) (yM : RS br R pa.c pa.cc p.dU) (hok : eC p) (hP : 1 ≤ cf.P ∧ cf.P ≤ 64) (hM : 1 ≤ cf.M ∧ cf.M ≤ 64) (hS : 1 ≤ cf.S ∧ cf.S ≤ 1024)
  (hB : Src R L B (D9.cells l)) (hm : m = l.length) (hl : (iQ.yY l 0).Ok) (Zx : l.length ≤ 1000000000) (LH : most ≤ 90000)
  (k : ∀ R' y l2 st a q n kk xx Ao no co As cs M', R.le R' → HH p (Sc.new p cf ⟨.yY l 0, []⟩) most.toNat y l2 st → Hp R' L M' → K (trV st y.steps y.w.code Ao no co As l2.length cs 0 a q n kk xx) M') :
  aa Tryz.prog 94 #[E5 pa p, .agg #[.int .i64 cf.P, .int .i64 cf.M, .int .i64 cf.R, .int .i64 cf.S], .slice B m cB, .int .i64 most, .pointer none] M K Kp := by
 refine zx ?_
 subst hm
 have h0 : SV p 0 (Sc.new p cf ⟨.yY l 0, []⟩) := SV.new hok hP hM hS rfl hl
 refine aj h ?_
 clear h
 intro k1 M h
 refine aj h ?_
 clear h
 intro k3 M h
 refine aj h ?_
 clear h
 intro k5 M h
 refine aF h (aF h (ay h (aF h (ay h (ay h (ay h (ay h ?_)))))))
 refine tV (l := l) h hB.cons.cons.cons rfl Zx ?_
 clear h; intro db M h
 refine gY ⟨ig h rfl, ig h rfl, ?_⟩
 refine y8 (p := p) (pa := pa) (cf := cf) h yM hok (by omega) (by omega) ?_
 clear h; intro b sb wb M h
 refine gY ⟨ig h rfl, ig h rfl, ?_⟩
 refine DU h hp hok h0 LH ?_
 clear h; intro R' A c y l2 st a q n kk xx Ao no co As cs M hle hend h
 refine ⟨_, _, _, _, _, _, _, _, _, _, _, _, _, _, _, rfl, ig h rfl, ig h rfl, ?_⟩
 repeat (refine au h ?_; clear h; intro M h)
 refine ⟨ig h rfl, ig h rfl, ?_⟩
 refine ay h (ay h (ay h (aF h (aF h (ay h (ay h (ay h (ay h (ay h (ay h ?_))))))))))
 exact k R' y l2 st a q n kk xx Ao no co As cs M hle hend (h.sub bp)
theorem HJ (h : Hp R L M) (k : ∀ R' M', R.le R' → Hp R' L M' → K (.bool true) M') : aa Tryz.prog 42 #[] M K Kp := by
 refine pI ?_
 refine aj h ?_
 clear h
 intro k1 M h
 refine aj h ?_
 clear h
 intro k3 M h
 have h1 := (h.pt k1).gu (E := jq) (l := [⟨10, 0, 0, 0⟩]) rfl
 obtain ⟨R1, hle1, Bl, h2⟩ := h1.fG (some ⟨k1, 0, none⟩)
 have h3 := h2.gu (E := zT) (l := [(some ⟨k1, 0, none⟩, 1, 1)]) rfl
 obtain ⟨R2, EX, Vu, h4⟩ := h3.fG (some ⟨k3, 0, none⟩)
 clear h h1 h2 h3
 have hp : nB R2 ⟨some ⟨k3, 0, none⟩, 1, none, 0, none, 0⟩ LG := ⟨⟨_, Vu, rfl, fun i t f a b => by
  match i, a, b with
  | 0, a, b => simp at a; cases b; subst a; exact ⟨Bl.le EX, rfl⟩
  | i + 1, a, b => simp at a⟩, RS.nil _ _⟩
 have hle : R.le R2 := Mem.le_trans hle1 EX
 refine aj h4 ?_
 clear h4; intro k5 M h
 repeat (refine au h ?_; clear h; intro M h)
 refine aF h (aF h (ay h (aF h ⟨trivial, ?_⟩)))
 refine h.D8 (E := D9) (n := 3) (a := 0) Ri (by omega) ?_
 clear h
 intro eG M h
 rw [show List.replicate 3 (0 : Int) = [0, 0, 0] from rfl] at h
 refine aO ⟨ig h rfl, trivial, ?_⟩
 refine E9 (p := LG) (pa := ⟨some ⟨k3, 0, none⟩, 1, none, 0, none, 0⟩) (cf := ⟨1, 1, 2, 1⟩) (l := [0, 0, 0]) h hp (RS.nil _ _) ok21 (by decide) (by decide) (by decide) (Src.row (A := some ⟨eG, 0, none⟩)) rfl ⟨by decide, by decide, fun v hv => by simp at hv; subst hv; decide⟩ (by decide) (by decide) ?_
 clear h; intro R' y l2 st a q n kk xx Ao no co As cs M l3 hend h
 obtain ⟨e1, e2, e3⟩ := te21 hend
 refine ⟨_, _, _, _, _, _, _, _, _, _, _, _, _, _, _, rfl, ig h rfl, ?_⟩
 refine aj h ?_
 clear h
 intro nR M h
 repeat (refine au h ?_; clear h; intro M h)
 refine ⟨ig h rfl, ay h ?_⟩
 rw [e1]
 refine ae (ay h ?_)
 rw [e2]
 refine ae (aF h ?_)
 rw [e3]
 refine ae (ay h ?_)
 exact k R' M (Mem.le_trans hle l3) (h.sub bp)
theorem Fa {c0 c1 c2 c3 x3 : Int} {B : Option Addr} {m cb : Nat} (ha : ve M pa p) (hB : Kk M B m cb [.u64]) (k : ∀ M', mN [] M M' → K (.bool true) M') :
  aa Tryz.prog 10 #[E5 pa p, .agg #[.int .i64 c0, .int .i64 c1, .int .i64 c2, .int .i64 c3], .slice B m cb, .int .i64 x3] M K Kp := by
 refine mh ?_
 have k' : ∀ (R : Mem) (L : List HP) M', M.le R → Hp R L M' → K (.bool true) M' := fun R L M' hle h => k M' (oY.Wa (fun b o hb => h.le b o (hle b o hb)) [])
 clear k
 obtain ⟨JK, n1, n2, n3, hr, hn⟩ := hB.u64
 subst n1
 have h := Hp.start M
 have cok := BO ⟨c0, c1, c2, c3⟩
 obtain ⟨most, LH, hmost2⟩ := mask (x := x3) (y := 255) (m := 255) rfl (by omega)
 rw [LH]
 clear LH
 refine aj h ?_
 clear h
 intro k1 M1 h
 refine aj h ?_
 clear h
 intro k3 M2 h
 refine HJ h ?_
 clear h; intro R0 M3 l0 h
 have e60 : Int.toNat (if (60 : Int) < ((JK.length : Nat) : Int) then 60 else ((JK.length : Nat) : Int)) - 0 = min 60 JK.length := by split <;> omega
 refine oS (ai (aF h (aF h (ay h (aF h ?_)))))
 refine RB h (ha.le l0) ?_
 clear h; intro R1 p1 M l1 Of ZC h
 refine ⟨_, _, _, _, _, _, _, _, _, _, rfl, ?_⟩
 refine aj h ?_
 clear h
 intro kZ M h
 repeat (refine au h ?_; clear h; intro M h)
 refine ⟨by omega, by omega, by split <;> omega, by split <;> omega, by omega, by split <;> omega, ?_⟩
 simp only [e60, Int.toNat_natCast]
 have hcut := RS.cut hr 60
 refine aF h (aF h (ay h (aF h (ay h (ay h (ay h (ay h ?_)))))))
 have hok := N2 p
 refine UQ h Of ZC hok (by have := yp p; simp [dw]; omega) ?_
 clear h; intro R2 p2 M l2 hp2 RT h
 refine ⟨_, _, _, _, _, _, _, _, _, _, rfl, ig h rfl, ?_⟩
 refine Kd (c := ⟨c0, c1, c2, c3⟩) h ?_
 clear h; intro M h
 refine ⟨_, _, _, _, rfl, ig h rfl, ?_⟩
 have hle := Mem.le_trans l0 (Mem.le_trans l1 l2)
 have hlk : (iQ.yY (JK.take 60) 0).Ok := ⟨by rw [List.length_take]; omega, by simp, fun v hv => hn v (List.mem_of_mem_take hv)⟩
 have h0 : SV (dw p) 0 (Sc.new (dw p) (dk ⟨c0, c1, c2, c3⟩) ⟨.yY (JK.take 60) 0, []⟩) := SV.new hok (by omega) (by omega) (by omega) rfl hlk
 refine tV (l := JK.take 60) h (RS.le hcut hle).src (by rw [List.length_take]) (by rw [List.length_take]; omega) ?_
 clear h; intro db M h
 refine gY ⟨ig h rfl, ?_⟩
 refine y8 (p := dw p) (pa := p2) (cf := dk ⟨c0, c1, c2, c3⟩) h RT hok (by omega) (by omega) ?_
 clear h; intro b sb wb M h
 refine gY ⟨ig h rfl, ai ?_⟩
 refine DU h hp2 hok h0 (by omega) ?_
 clear h; intro R3 A cA y l st a q n kk xx Ao no co As cs M l3 hend h
 refine ⟨_, _, _, _, _, _, _, _, _, _, _, _, _, _, _, rfl, ?_⟩
 refine aj h ?_
 clear h
 intro B5 M h
 repeat (refine au h ?_; clear h; intro M h)
 obtain ⟨j, hj, el, es, hv, GM⟩ := hend.facts h0 hok rfl (by omega)
 have E8 := Mem.le_trans hle l3
 have ok := hv.UR hok
 have hcy := hv.w.ch
 have hly := hv.w.lk
 have hbq := ok.bq
 have hbw := ok.bw (dw p).dU.length (dw p).aI.toNat
 have Lp : (Ki y (dw p).dU.length (dw p).aI.toNat).length ≤ 1000000000000 := by unfold Ki; rw [List.length_append]; omega
 have emost : ((most : Nat) : Int).toNat = most := rfl
 rw [emost] at hj
 refine HI (h.sub bp) ?_
 refine gY (aF h (ay h (fy.2 ⟨fun hne => absurd (by omega) hne, fun _ => ay h ?_⟩)))
 refine qW (b := sb) h (bW ⟨bD h, fy.2 ⟨fun hne => absurd rfl hne, fun _ => ay h ?_⟩⟩)
 refine aJ.2 ⟨fun hgt => absurd hgt (by omega), fun _ => ay h (aV.2 ⟨fun _ => k' R3 _ _ E8 h, fun hne => ?_⟩)⟩
 obtain ⟨i, rfl⟩ : ∃ i, j = i + 1 := ⟨j - 1, by omega⟩
 have hli := GM i rfl
 have hs := h.src (A := As)
 obtain ⟨b', o', e⟩ := hs.ie h (by omega) (by decide)
 have ew : IntKind.wrap .i64 (y.steps - 1) = (i : Int) := by rw [es, mw (by omega) (by omega)]; omega
 refine aF h (ay h (aF h (ay h ?_)))
 rw [ew]
 subst e
 have EM : M.ld ⟨b', o' + i, none⟩ = some (.int .u32 ((qP (Ki y (dw p).dU.length (dw p).aI.toNat) : Nat) : Int)) := hs.at h (j := 0) hli rfl (by simp [lY])
 refine ⟨by omega, by omega, aY ?_⟩
 rw [Int.toNat_natCast]
 refine aR EM ?_
 clear hs EM
 refine BS (b := sb) h ok (by omega) (by omega) ?_
 rw [Int.toNat_natCast]
 clear h; intro R4 A1 cA M l4 h
 have hs := h.src (A := some ⟨b', o', none⟩)
 have EM : M.ld ⟨b', o' + i, none⟩ = some (.int .u32 ((qP (Ki y (dw p).dU.length (dw p).aI.toNat) : Nat) : Int)) := hs.at h (j := 0) hli rfl (by simp [lY])
 refine aO ⟨EM, bD h, bD h, ?_⟩
 clear hs EM
 refine kO h (Src.row (A := A1)) rfl Lp ?_
 clear h; intro R5 M l5 h
 have hs := h.src (A := some ⟨b', o', none⟩)
 have EM : M.ld ⟨b', o' + i, none⟩ = some (.int .u32 ((qP (Ki y (dw p).dU.length (dw p).aI.toNat) : Nat) : Int)) := hs.at h (j := 0) hli rfl (by simp [lY])
 refine bW ⟨EM, bD h, bD h, ?_⟩
 rw [beq_self_eq_true]
 exact k' R5 _ _ (Mem.le_trans E8 (Mem.le_trans l4 l5)) h
end
end Go.Proofs
