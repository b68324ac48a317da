/- A part of proofs about one program. -/
import Derived.WideShapes
import Derived.Test.YtnnlgknlialpmaaGreatZTraceSeen6
set_option linter.unusedVariables false
namespace Go.AF
theorem qJ {P : Program} {w : World} {r : Reach} {base : Nat} {t e : TypeId} {A : Option Addr} {n c : Nat} (hu : P.underlying t = some (.slice e)) (h : Value.okWide P w r base t (.slice A n c)) : ∀ x, A = some x → x.spot = none := by
 intro x hx
 subst hx
 simp only [Value.okWide, hu, Cell.okWide, Cell.ok, World.has] at h
 exact h.2.2.2.1
def Ih (M : Mem) (A : Option Addr) (n c : Nat) (ks : List IntKind) : Prop := mW M A n c ks ∧ ∀ x, A = some x → x.spot = none
theorem WI (l : List (Nat → Int)) : (kE [.u64]).cells l = AR.cells (l.map (· 0)) := by
 induction l with
 | nil => rfl
 | cons g l ih => rw [hU.bX, List.map_cons, hU.bX, ih]; rfl
theorem Ih.rs {α : Type} {E : hU α} {M : Mem} {A : Option Addr} {n c : Nat} {ks : List IntKind} (h : Ih M A n c ks) (f : (Nat → Int) → α) (hc : ∀ l, (kE ks).cells l = E.cells (l.map f)) : ∃ l : List (Nat → Int), (l.map f).length = n ∧ n ≤ c ∧ n ≤ 9223372036854775807 ∧ RS E M A c (l.map f) ∧ ∀ g ∈ l, ∀ j k, ks[j]? = some k → (Lit.int k (g j)).wf = true := by
 obtain ⟨⟨l, rfl, h1, h2, h3, h4⟩, hs⟩ := h
 refine ⟨l, by simp, h1, Nat.le_trans h2 (by decide), ⟨?_, by simpa using h1⟩, h4⟩
 rcases Nat.eq_zero_or_pos l.length with h0 | h0
 ·have : l = [] := List.eq_nil_of_length_eq_zero h0
  subst this
  match A, hs with
  | none, _ => rfl
  | some ⟨b, o, sp⟩, hs =>
   have := hs _ rfl
   simp only at this
   subst this
   intro i hi
   simp [hU.cells] at hi
 ·rw [← hc]
  exact h3 h0
theorem Ih.u64 {M : Mem} {A : Option Addr} {n c : Nat} (h : Ih M A n c [.u64]) : ∃ l : List Int, l.length = n ∧ n ≤ 9223372036854775807 ∧ n ≤ c ∧ RS AR M A c l ∧ ∀ v ∈ l, 0 ≤ v ∧ v < 18446744073709551616 := by
 obtain ⟨l, h1, h2, h3, h4, h5⟩ := h.rs (E := AR) (· 0) WI
 refine ⟨_, h1, h3, h2, h4, fun v hv => ?_⟩
 obtain ⟨g, hg, rfl⟩ := List.mem_map.1 hv
 have := h5 g hg 0 .u64 rfl
 simp [Lit.wf, IntKind.has, IntKind.min, IntKind.max, IntKind.signed, IntKind.bits] at this
 omega
end Go.AF
namespace Go.Proofs
open Go.AF
set_option maxRecDepth 100000
set_option maxHeartbeats 1000000
attribute [local irreducible] aI c7 fm cy aB eN aE aM aX bk bJ aP
attribute [local irreducible] D0 DN
def xZ (fW ko : Nat) (s : iL) : HP := exs fun A : Option Addr => exs fun c : Nat => exs fun B : Option Addr => exs fun d : Nat =>
 sep [pt fW [.slice A s.kinds.length c] 36, bE bl 3 A c s.kinds, pt ko [.slice B s.who.length d] 36, bE bl 3 B d s.who]
section
variable {R : Mem} {L L' : List HP} {M : Mem} {K : Value → Mem → Prop} {Kp : List PanicEntry → Mem → Prop} {pa : PA} {p : bZ} {fW ko : Nat} {s : iL}
theorem CH (h : Hp R (xZ fW ko s :: L) M) : ∃ A c B d, Hp R (pt fW [.slice A s.kinds.length c] 36 :: bE bl 3 A c s.kinds :: pt ko [.slice B s.who.length d] 36 :: bE bl 3 B d s.who :: L) M := by
 simpa only [xZ, Hp.de, Hp.aS, List.cons_append, List.nil_append] using h
theorem Jr {A B : Option Addr} {c d : Nat} (h : Hp R (pt fW [.slice A s.kinds.length c] 36 :: bE bl 3 A c s.kinds :: pt ko [.slice B s.who.length d] 36 :: bE bl 3 B d s.who :: L) M) : Hp R (xZ fW ko s :: L) M := by
 simp only [xZ, Hp.de, Hp.aS, List.cons_append, List.nil_append]
 exact ⟨_, _, _, _, h⟩
theorem Lq : O2 (.func (.func 34) #[] #[.pointer (some ⟨fW, 0, none⟩), .pointer (some ⟨ko, 0, none⟩)]) (xZ fW ko) := by
 refine .inr ⟨⟨_, _, _, rfl⟩, fun R e A0 c0 s L M K Kp za PM h k => ?_⟩
 refine B5 (args := [_]) ⟨by decide, by show _ < 255; decide⟩ ?_
 refine kI ?_
 have h' := CH h
 clear h
 obtain ⟨A, c, B, d, h⟩ := h'
 refine aj h ?_
 clear h
 intro k1 M h
 refine ⟨fun _ M' => ∃ A' c' B' d', Hp R (pt fW [.slice A' (s.kinds ++ [e.kind]).length c'] 36 :: bE bl 3 A' c' (s.kinds ++ [e.kind]) :: pt ko [.slice B' (s.who ++ [e.g]).length d'] 36 :: bE bl 3 B' d' (s.who ++ [e.g]) :: L) M', ?_, fun _ M' hj => ?_⟩
 ·clear k
  refine aF h (aG h (aG h ?_))
  refine ⟨?_, ?_, ?_, trivial⟩
  ·refine aj h ?_
   clear h; intro k9 M h
   refine ⟨?_, ?_, ?_, trivial⟩
   ·refine h.aT (A := A) dX [e.kind] rfl rfl (by simp only [List.length_singleton]; omega) ?_
    clear h; intro A' c' M h
    refine aQ ⟨bO h, ?_⟩
    refine aF h ?_
    refine aj h ?_
    clear h; intro kk M h
    refine h.aT (A := B) dX [e.g] rfl rfl (by simp only [List.length_singleton]; omega) ?_
    clear h; intro B' d' M h
    refine aQ ⟨bO h, ?_⟩
    refine au h ?_
    clear h; intro M h
    refine ⟨bO h, ?_⟩
    refine au h ?_
    clear h; intro M h
    refine ⟨bO h, ?_⟩
    exact ⟨A', c', B', d', h.sub br⟩
   ·refine aF h ?_
    refine ⟨trivial, ?_⟩
    refine h.aT (A := A) dX [e.kind] rfl rfl (by simp only [List.length_singleton]; omega) ?_
    clear h; intro A' c' M h
    refine aQ ⟨bO h, ?_⟩
    refine aj h ?_
    clear h; intro kk M h
    refine h.aT (A := B) dX [e.g] rfl rfl (by simp only [List.length_singleton]; omega) ?_
    clear h; intro B' d' M h
    refine aQ ⟨bO h, ?_⟩
    refine au h ?_
    clear h; intro M h
    refine ⟨bO h, ?_⟩
    refine au h ?_
    clear h; intro M h
    refine ⟨bO h, ?_⟩
    exact ⟨A', c', B', d', h.sub br⟩
   ·refine aj h ?_
    clear h; intro F5 M h
    refine ⟨?_, ?_, trivial⟩
    ·refine h.aT (A := A) dX [e.kind] rfl rfl (by simp only [List.length_singleton]; omega) ?_
     clear h; intro A' c' M h
     refine aQ ⟨bO h, ?_⟩
     refine aF h ?_
     refine h.aT (A := B) dX [e.g] rfl rfl (by simp only [List.length_singleton]; omega) ?_
     clear h; intro B' d' M h
     refine aQ ⟨bO h, ?_⟩
     refine au h ?_
     clear h; intro M h
     refine ⟨bO h, ?_⟩
     refine au h ?_
     clear h; intro M h
     refine ⟨bO h, ?_⟩
     exact ⟨A', c', B', d', h.sub br⟩
    ·refine aF h ?_
     refine h.aT (A := A) dX [e.kind] rfl rfl (by simp only [List.length_singleton]; omega) ?_
     clear h; intro A' c' M h
     refine aQ ⟨bO h, ?_⟩
     refine h.aT (A := B) dX [e.g] rfl rfl (by simp only [List.length_singleton]; omega) ?_
     clear h; intro B' d' M h
     refine aQ ⟨bO h, ?_⟩
     refine au h ?_
     clear h; intro M h
     refine ⟨bO h, ?_⟩
     refine au h ?_
     clear h; intro M h
     refine ⟨bO h, ?_⟩
     exact ⟨A', c', B', d', h.sub br⟩
  ·refine aF h ?_
   refine aj h ?_
   clear h; intro kk M h
   refine ⟨trivial, ?_⟩
   refine h.aT (A := A) dX [e.kind] rfl rfl (by simp only [List.length_singleton]; omega) ?_
   clear h; intro A' c' M h
   refine aQ ⟨bO h, ?_⟩
   refine aj h ?_
   clear h; intro kk M h
   refine h.aT (A := B) dX [e.g] rfl rfl (by simp only [List.length_singleton]; omega) ?_
   clear h; intro B' d' M h
   refine aQ ⟨bO h, ?_⟩
   refine au h ?_
   clear h; intro M h
   refine ⟨bO h, ?_⟩
   refine au h ?_
   clear h; intro M h
   refine ⟨bO h, ?_⟩
   exact ⟨A', c', B', d', h.sub br⟩
  ·refine aj h ?_
   clear h; intro T6 M h
   refine ⟨?_, ?_, trivial⟩
   ·refine aj h ?_
    clear h; intro Ks M h
    refine ⟨?_, ?_, trivial⟩
    ·refine h.aT (A := A) dX [e.kind] rfl rfl (by simp only [List.length_singleton]; omega) ?_
     clear h; intro A' c' M h
     refine aQ ⟨bO h, ?_⟩
     refine aF h ?_
     refine h.aT (A := B) dX [e.g] rfl rfl (by simp only [List.length_singleton]; omega) ?_
     clear h; intro B' d' M h
     refine aQ ⟨bO h, ?_⟩
     refine au h ?_
     clear h; intro M h
     refine ⟨bO h, ?_⟩
     refine au h ?_
     clear h; intro M h
     refine ⟨bO h, ?_⟩
     exact ⟨A', c', B', d', h.sub br⟩
    ·refine aF h ?_
     refine h.aT (A := A) dX [e.kind] rfl rfl (by simp only [List.length_singleton]; omega) ?_
     clear h; intro A' c' M h
     refine aQ ⟨bO h, ?_⟩
     refine h.aT (A := B) dX [e.g] rfl rfl (by simp only [List.length_singleton]; omega) ?_
     clear h; intro B' d' M h
     refine aQ ⟨bO h, ?_⟩
     refine au h ?_
     clear h; intro M h
     refine ⟨bO h, ?_⟩
     refine au h ?_
     clear h; intro M h
     refine ⟨bO h, ?_⟩
     exact ⟨A', c', B', d', h.sub br⟩
   ·refine aF h ?_
    refine aj h ?_
    clear h; intro kk M h
    refine h.aT (A := A) dX [e.kind] rfl rfl (by simp only [List.length_singleton]; omega) ?_
    clear h; intro A' c' M h
    refine aQ ⟨bO h, ?_⟩
    refine h.aT (A := B) dX [e.g] rfl rfl (by simp only [List.length_singleton]; omega) ?_
    clear h; intro B' d' M h
    refine aQ ⟨bO h, ?_⟩
    refine au h ?_
    clear h; intro M h
    refine ⟨bO h, ?_⟩
    refine au h ?_
    clear h; intro M h
    refine ⟨bO h, ?_⟩
    exact ⟨A', c', B', d', h.sub br⟩
 ·obtain ⟨A', c', B', d', h⟩ := hj
  exact k M' (Jr (s := s.add e.kind e.g) h)
theorem Pk {l : List Int} {i : Nat} {kd : Int} (h : l[i]? = some kd) : Bn (l.take (i + 1)) = Bn (l.take i) + if nw kd then 1 else 0 := by
 rw [eo h, Ax]
theorem DM {c0 c1 c2 c3 x3 : Int} {B0 : Option Addr} {m cb : Nat} (ha : qI M pa p) (hB : Ih M B0 m cb [.u64]) (k : ∀ M', nG [] M M' → K (.bool true) M') :
  aa Tryz.prog 6 #[yB pa p, .agg #[.int .i64 c0, .int .i64 c1, .int .i64 c2, .int .i64 c3], .slice B0 m cb, .int .i64 x3] M K Kp := by
 refine lS ?_
 have k' : ∀ (R : Mem) (L : List HP) M', M.le R → Hp R L M' → K (.bool true) M' := fun R L M' hle h => k M' (oE.TI (fun b o hb => h.le b o (hle b o hb)) [])
 clear k
 obtain ⟨qq, n1, n2, n3, hr, hn⟩ := hB.u64
 subst n1
 have h := Hp.start M
 have cok := Ay ⟨c0, c1, c2, c3⟩
 obtain ⟨most, Ti, hmost2⟩ := mask (x := x3) (y := 255) (m := 255) rfl (by omega)
 rw [Ti]
 clear Ti
 refine aj h ?_
 clear h
 intro k1 M1 h
 refine aj h ?_
 clear h
 intro k3 M2 h
 refine FW h ?_
 clear h; intro R0 M3 l0 h
 have e100 : Int.toNat (if (100 : Int) < ((qq.length : Nat) : Int) then 100 else ((qq.length : Nat) : Int)) - 0 = min 100 qq.length := by split <;> omega
 refine ov (ae ⟨by omega, by omega, by split <;> omega, by split <;> omega, by omega, by split <;> omega, ?_⟩)
 simp only [e100, Int.toNat_natCast]
 have hcut := RS.le (RS.cut hr 100) l0
 have S1 : (qq.take 100).length ≤ 1000000000 := by rw [List.length_take]; omega
 refine aG h (aG h (aG h (aG h (aF h (aF h (aG h (aF h ⟨trivial, ?_⟩)))))))
 refine H9 (c := ⟨c0, c1, c2, c3⟩) h ?_
 clear h; intro M4 h
 refine ⟨_, _, _, _, rfl, fC h rfl, trivial, ?_⟩
 refine Ig (p := p) (pa := pa) (c := cG ⟨c0, c1, c2, c3⟩) (l := qq.take 100) h (ha.le l0) (by omega) (by omega) hcut (by rw [List.length_take]) S1 ?_
 clear h; intro R2 a pa1 b wb db M5 l2 Og vD h
 refine ⟨_, _, rfl, _, rfl, fC h rfl, ?_⟩
 refine aj h ?_
 clear h
 intro vH M6 h
 refine zj h rfl rfl rfl ?_
 clear h; intro M7 h
 refine ⟨fC h rfl, ?_⟩
 refine aj h ?_
 clear h
 intro BV M h
 replace h := (h.pt BV).gW (E := bl) (l := []) rfl
 refine aj h ?_
 clear h
 intro fW M h
 refine au h ?_
 clear h; intro M h
 refine aj h ?_
 clear h
 intro zm M h
 replace h := (h.pt zm).gW (E := bl) (l := []) rfl
 refine aj h ?_
 clear h
 intro ko M h
 refine au h ?_
 clear h; intro M h
 have hok := CF p
 have hsv : SV (ee p) 0 (uc p (cG ⟨c0, c1, c2, c3⟩) (qq.take 100)) := SV.new hok (by omega) (by omega) (by omega) rfl ⟨by rw [List.length_take]; omega, by simp, fun v hv => hn v (List.mem_of_mem_take hv)⟩
 have hz : (uc p (cG ⟨c0, c1, c2, c3⟩) (qq.take 100)).steps = 0 := rfl
 have hnn : (uc p (cG ⟨c0, c1, c2, c3⟩) (qq.take 100)).d.sM = none := rfl
 have FO := Mem.le_trans l0 l2
 generalize uc p (cG ⟨c0, c1, c2, c3⟩) (qq.take 100) = x0 at h hsv hz hnn
 have hS : Hp R2 (xZ fW ko ⟨[], []⟩ :: ay (dZ pa1 (ee p) wb db) b x0 :: []) M := Jr (s := ⟨[], []⟩) (A := some ⟨BV, 0, none⟩) (c := 0) (B := some ⟨zm, 0, none⟩) (d := 0) (h.sub br)
 clear h
 refine CB (S := xZ fW ko) (hS.sub br) Og hok hsv hz hnn (by omega) Lq rfl ?_
 clear hS; intro R3 w y t s e a2 q n kk xx A c B d M l3 hw h
 obtain ⟨ti, tk, ts⟩ := hw.facts hsv hok (by omega) hz
 have emost : ((most : Nat) : Int).toNat = most := rfl
 rw [emost] at tk
 have Ic := Mem.le_trans FO l3
 have h' := CH (h.sub br : Hp R3 (xZ fW ko s :: ay (dZ pa1 (ee p) wb db) b { y with d := { y.d with sM := none } } :: bE jU 102 A c t.gH :: bE bl 3 B d t.steps :: []) M)
 clear h
 obtain ⟨C, c9, W, d9, h⟩ := h'
 refine ⟨_, _, _, _, _, _, _, _, _, _, _, _, rfl, ?_⟩
 refine aj h ?_
 clear h
 intro AI M h
 refine aj h ?_
 clear h
 intro EO M h
 repeat (refine au h ?_; clear h; intro M h)
 refine aF h ?_
 have lm := ti.lm
 have ls := ti.ls
 have lw := ti.len
 have mvle : Bn s.kinds ≤ s.kinds.length := List.length_filter_le _ _
 have sA := h.src (A := A)
 have sB := h.src (A := B)
 have sC := h.src (A := C)
 have sW := h.src (A := W)
 rename_i M9
 refine ⟨fun dd vs M' => ∃ (j i : Nat), vs = [.int .i64 (j : Int), .int .i64 (i : Int)] ∧ dd = s.kinds.length - i ∧ i ≤ s.kinds.length ∧ j = Bn (s.kinds.take i) ∧ M' = M, ⟨_, 0, 0, rfl, rfl, by omega, rfl, rfl⟩, ?_⟩
 rintro dd _ mF E5 M8 ⟨j, i, he, hd, hi, hj, rfl⟩
 simp only [List.cons.injEq, Value.int.injEq, and_true, true_and] at he
 obtain ⟨rfl, rfl⟩ := he
 refine aN.2 ⟨fun hlt => ?_, fun hge => ?_⟩
 ·obtain ⟨kd, hk⟩ := aU (l := s.kinds) (i := i) (by omega)
  have Q7 := Pk hk
  have mvi : Bn (s.kinds.take i) ≤ s.kinds.length := Nat.le_trans (List.length_filter_le _ _) (by rw [List.length_take]; omega)
  subst hj
  obtain ⟨bC, oC, eC⟩ := sC.g8 h (by omega) (by decide)
  subst eC
  refine ⟨by omega, hlt, bg ?_⟩
  simp only [Int.toNat_natCast]
  refine be (sC.at h (j := 0) hk rfl (by simp [bl])) ?_
  refine dJ.2 ⟨fun ne1 => dJ.2 ⟨fun ne7 => ?_, fun e7 => ?_⟩, fun e1 => ?_⟩
  ·have vN : nw kd = false := by simp [nw, ne1, ne7]
   exact ⟨s.kinds.length - (i + 1), by omega, Bn (s.kinds.take i), i + 1, by rw [aW (by omega)], rfl, by omega, by rw [Q7, vN]; rfl, trivial⟩
  ·
   have vN : nw kd = true := by simp [nw, e7]
   obtain ⟨p1, g, dr, p2, p3⟩ := ti.at_ i kd hk vN
   have b1 := (List.getElem?_eq_some_iff.1 p1).1
   have b2 := (List.getElem?_eq_some_iff.1 p2).1
   have b3 := (List.getElem?_eq_some_iff.1 p3).1
   obtain ⟨bA, oA, eA⟩ := sA.g8 h (by omega) (by decide)
   obtain ⟨bB, oB, eB⟩ := sB.g8 h (by omega) (by decide)
   obtain ⟨bW, oW, eW⟩ := sW.g8 h (by omega) (by decide)
   subst eA
   subst eB
   subst eW
   refine aF h (aN.2 ⟨fun hge => absurd hge (by omega), fun _ => aF h ⟨by omega, by omega, bg ?_⟩⟩)
   refine be (sB.at h (j := 0) p1 rfl (by simp [bl])) ?_
   refine dJ.2 ⟨fun hne => absurd rfl hne, fun _ => aF h ⟨by omega, by omega, bg ?_⟩⟩
   refine Ms (sA.at h (j := 0) p2 rfl (by simp [jU])) ?_
   refine lu (by simp) (aF h ⟨by omega, by omega, bg ?_⟩)
   refine be (sA.at h (j := 1) p2 rfl (by simp [jU]; omega)) ?_
   refine aF h ⟨by omega, by omega, bg ?_⟩
   refine be (sW.at h (j := 0) p3 rfl (by simp [bl])) ?_
   refine dJ.2 ⟨fun hne => absurd rfl hne, fun _ => ?_⟩
   exact ⟨s.kinds.length - (i + 1), by omega, Bn (s.kinds.take i) + 1, i + 1, by rw [aW (by omega), aW (by omega)], rfl, by omega, by rw [Q7, vN]; rfl, trivial⟩
  ·
   have vN : nw kd = true := by simp [nw, e1]
   obtain ⟨p1, g, dr, p2, p3⟩ := ti.at_ i kd hk vN
   have b1 := (List.getElem?_eq_some_iff.1 p1).1
   have b2 := (List.getElem?_eq_some_iff.1 p2).1
   have b3 := (List.getElem?_eq_some_iff.1 p3).1
   obtain ⟨bA, oA, eA⟩ := sA.g8 h (by omega) (by decide)
   obtain ⟨bB, oB, eB⟩ := sB.g8 h (by omega) (by decide)
   obtain ⟨bW, oW, eW⟩ := sW.g8 h (by omega) (by decide)
   subst eA
   subst eB
   subst eW
   refine aF h (aN.2 ⟨fun hge => absurd hge (by omega), fun _ => aF h ⟨by omega, by omega, bg ?_⟩⟩)
   refine be (sB.at h (j := 0) p1 rfl (by simp [bl])) ?_
   refine dJ.2 ⟨fun hne => absurd rfl hne, fun _ => aF h ⟨by omega, by omega, bg ?_⟩⟩
   refine Ms (sA.at h (j := 0) p2 rfl (by simp [jU])) ?_
   refine lu (by simp) (aF h ⟨by omega, by omega, bg ?_⟩)
   refine be (sA.at h (j := 1) p2 rfl (by simp [jU]; omega)) ?_
   refine aF h ⟨by omega, by omega, bg ?_⟩
   refine be (sW.at h (j := 0) p3 rfl (by simp [bl])) ?_
   refine dJ.2 ⟨fun hne => absurd rfl hne, fun _ => ?_⟩
   exact ⟨s.kinds.length - (i + 1), by omega, Bn (s.kinds.take i) + 1, i + 1, by rw [aW (by omega), aW (by omega)], rfl, by omega, by rw [Q7, vN]; rfl, trivial⟩
 ·have ei : s.kinds.take i = s.kinds := List.take_of_length_le (by omega)
  rw [ei] at hj
  refine aF h (aY.2 ⟨fun _ => ?_, fun ne => absurd (by omega) ne⟩)
  refine aF h (aY.2 ⟨fun _ => ?_, fun ne => absurd (by omega) ne⟩)
  refine aF h ?_
  refine xV (b := b) h (c6 ⟨bO h, ?_⟩)
  have e9 : ({ y with d := { y.d with sM := none } } : Sc).steps = (s.kinds.length : Int) := ts
  rw [e9, beq_self_eq_true]
  exact k' R3 _ _ Ic h
end
end Go.Proofs
