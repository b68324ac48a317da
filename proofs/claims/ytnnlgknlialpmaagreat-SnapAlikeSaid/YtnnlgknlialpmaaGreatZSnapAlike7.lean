/- A part of proofs about one program. -/
import Derived.WideShapes
import Derived.Test.YtnnlgknlialpmaaGreatZSnapAlike6
set_option linter.unusedVariables false
namespace Go.AF
theorem rM {P : Program} {w : World} {r : Reach} {base : Nat} {t e : TypeId} {A : Option Addr} {n c : Nat} (hu : P.underlying t = some (.slice e)) (h : Value.okWide P w r base t (.slice A n c)) : ∀ x, A = some x → x.spot = none := by
 intro x hx
 subst hx
 simp only [Value.okWide, hu, Cell.okWide, Cell.ok, World.has] at h
 exact h.2.2.2.1
def Kt (M : Mem) (A : Option Addr) (n c : Nat) (ks : List IntKind) : Prop := nv M A n c ks ∧ ∀ x, A = some x → x.spot = none
theorem Zl (l : List (Nat → Int)) : (kE [.u64]).cells l = Eh.cells (l.map (· 0)) := by
 induction l with
 | nil => rfl
 | cons g l ih => rw [fO.bZ, List.map_cons, fO.bZ, ih]; rfl
theorem Kt.rs {α : Type} {E : fO α} {M : Mem} {A : Option Addr} {n c : Nat} {ks : List IntKind} (h : Kt M A n c ks) (f : (Nat → Int) → α) (hc : ∀ l, (kE ks).cells l = E.cells (l.map f)) : ∃ l : List (Nat → Int), (l.map f).length = n ∧ n ≤ c ∧ n ≤ 9223372036854775807 ∧ RS E M A c (l.map f) ∧ ∀ g ∈ l, ∀ j k, ks[j]? = some k → (Lit.int k (g j)).wf = true := by
 obtain ⟨⟨l, rfl, h1, h2, h3, h4⟩, hs⟩ := h
 refine ⟨l, by simp, h1, Nat.le_trans h2 (by decide), ⟨?_, by simpa using h1⟩, h4⟩
 rcases Nat.eq_zero_or_pos l.length with h0 | h0
 ·have : l = [] := List.eq_nil_of_length_eq_zero h0
  subst this
  match A, hs with
  | none, _ => rfl
  | some ⟨b, o, sp⟩, hs =>
   have := hs _ rfl
   simp only at this
   subst this
   intro i hi
   simp [fO.cells] at hi
 ·rw [← hc]
  exact h3 h0
theorem Kt.u64 {M : Mem} {A : Option Addr} {n c : Nat} (h : Kt M A n c [.u64]) : ∃ l : List Int, l.length = n ∧ n ≤ 9223372036854775807 ∧ n ≤ c ∧ RS Eh M A c l ∧ ∀ v ∈ l, 0 ≤ v ∧ v < 18446744073709551616 := by
 obtain ⟨l, h1, h2, h3, h4, h5⟩ := h.rs (E := Eh) (· 0) Zl
 refine ⟨_, h1, h3, h2, h4, fun v hv => ?_⟩
 obtain ⟨g, hg, rfl⟩ := List.mem_map.1 hv
 have := h5 g hg 0 .u64 rfl
 simp [Lit.wf, IntKind.has, IntKind.min, IntKind.max, IntKind.signed, IntKind.bits] at this
 omega
end Go.AF
namespace Go.Proofs
open Go.AF
set_option maxRecDepth 100000
set_option maxHeartbeats 1000000
attribute [local irreducible] aK dH fa cw az fk aE aP aX be bK aS
attribute [local irreducible] Ig Fz
section
variable {R : Mem} {L L' : List HP} {M : Mem} {K : Value → Mem → Prop} {Kp : List PanicEntry → Mem → Prop} {pa RA : PA} {p : cv} {b wb db b2 R0 R8 : Nat} {x y : Sc}
theorem Ku {A B : Option Addr} {m n ca cb : Nat} {l : List Int} (h : Hp R L M) (hA : Src R L A (aZ.cells l)) (hB : Src R L B (aZ.cells l)) (hm : m = l.length) (hn : n = l.length) (hs : l.length ≤ 1000000000000) (k : ∀ M', Hp R L M' → K (.int .i64 0) M') :
  aa Tryz.prog 39 #[.slice A m ca, .slice B n cb] M K Kp := by
 subst hm
 subst hn
 refine kf ?_
 refine fj.2 ⟨fun hn => absurd rfl hn, fun _ => ?_⟩
 refine ⟨fun d vs M => ∃ i : Nat, vs = [.int .i64 (i : Int)] ∧ d = l.length - i ∧ i ≤ l.length ∧ Hp R L M, ⟨_, 0, rfl, rfl, by omega, h⟩, ?_⟩
 clear h
 rintro d _ ii M ⟨i, he, hd, hi, h⟩
 simp only [List.cons.injEq, Value.int.injEq, and_true, true_and] at he
 subst he
 refine aJ.2 ⟨fun hlt => ?_, fun hge => k _ h⟩
 obtain ⟨w, hw⟩ := aM (l := l) (i := i) (by omega)
 obtain ⟨b, o, rfl⟩ := hA.gD h (by omega) (by decide)
 obtain ⟨b', o', rfl⟩ := hB.gD h (by omega) (by decide)
 refine ⟨by omega, hlt, bg ⟨by omega, hlt, bg ?_⟩⟩
 simp only [Int.toNat_natCast]
 refine aR (hA.at h (j := 0) hw rfl (by simp [aZ])) ?_
 refine aR (hB.at h (j := 0) hw rfl (by simp [aZ])) ?_
 refine Aw (by simp) ?_
 rw [aQ (by omega)]
 exact ⟨l.length - (i + 1), by omega, i + 1, rfl, rfl, by omega, h⟩
theorem HS {A B : Option Addr} {m n ca cb : Nat} {l r : List Int} {u v : Int} (h : Hp R L M) (hA : Src R L A (aZ.cells l)) (hB : Src R L B (aZ.cells r)) (hm : m = l.length) (hn : n = r.length) (hl : l[0]? = some u) (hr : r[0]? = some v) (hne : u ≠ v) (k : K (.int .i64 (-1)) M) :
  aa Tryz.prog 39 #[.slice A m ca, .slice B n cb] M K Kp := by
 subst hm
 subst hn
 refine kf ?_
 refine fj.2 ⟨fun _ => k, fun he => ?_⟩
 have l0 := (List.getElem?_eq_some_iff.1 hl).1
 have r0 := (List.getElem?_eq_some_iff.1 hr).1
 refine ⟨fun d vs M' => vs = [.int .i64 0] ∧ M' = M, ⟨0, rfl, rfl⟩, ?_⟩
 rintro d _ ii M' ⟨he, rfl⟩
 simp only [List.cons.injEq, Value.int.injEq, and_true, true_and] at he
 subst he
 refine aJ.2 ⟨fun hlt => ?_, fun hge => absurd (show (0 : Int) < ((r.length : Nat) : Int) by omega) hge⟩
 obtain ⟨b, o, rfl⟩ := hA.gD h (by omega) (by decide)
 obtain ⟨b', o', rfl⟩ := hB.gD h (by omega) (by decide)
 refine ⟨by decide, by omega, bg ⟨by decide, by omega, bg ?_⟩⟩
 refine aR (hA.at h (i := 0) (j := 0) hl rfl (by simp [aZ])) ?_
 refine aR (hB.at h (i := 0) (j := 0) hr rfl (by simp [aZ])) ?_
 exact fj.2 ⟨fun _ => k, fun e => absurd e hne⟩
theorem HT {o : nR} (h : Hp R L M) [q : lX b L pa p wb db x L'] (hp : lB R pa p) (hd : x.d.k.Ok) (he : x.step p = some (y, o))
  (k : ∀ R' (n1 n2 n3 : Int) A (q1 q2 : Nat) (n4 : Int) M', R.le R' → Hp R' (ay (c9 pa p wb db) b y :: L') M' → K (.tuple #[.agg #[.int .i64 n1, .int .i64 n2, .int .i64 n3, .slice A q1 q2], .int .i64 n4]) M') :
  aa Tryz.prog 17 #[.pointer (some ⟨b, 0, none⟩)] M K Kp := by
 refine BG h hp hd he ?_
 cases o with
 | ev e => exact fun R4 A5 c5 M9 h1 h2 h3 h => k R4 _ _ _ _ _ _ _ M9 h1 h
 | dY l => exact fun e vs M9 hg hk h => k R _ _ _ _ _ _ _ M9 (Mem.le_refl _) h
theorem Zm {x : Wd} {nc nl : Nat} : (Fv x 0 0).length ≤ (Fv x nc nl).length := by
 simp only [Fv, List.length_append, List.take_zero, List.flatMap_nil, List.length_nil]; omega
theorem vo {o : nR} {nc : Nat} {nl : Int} {REST : Mem → Prop} (h : Hp R (ay (c9 pa p wb db) b y :: ay (c9 RA p R0 R8) b2 x :: []) M) (RU : lB R RA p) (hd : x.d.k.Ok) (he : x.step p = some (y, o)) (ok : Uv y) (hc : nc ≤ y.w.aB.length) (hl : nl ≤ y.w.aI.length)
  (HD : ∀ R' M', R.le R' → Hp R' (ay (c9 pa p wb db) b y :: ay (c9 RA p R0 R8) b2 y :: []) M' → REST M') :
  aa Tryz.prog 17 #[(.pointer (some ⟨b2, 0, none⟩))] M (fun Yg Yh =>
    ∃ EJ : Int, ∃ Yi : Int, ∃ Yj : Int, ∃ Yk : Option Addr, ∃ Yl : Nat, ∃ Ym : Nat, ∃ Jm : Int, (Yg = (.tuple #[(.agg #[(.int .i64 EJ), (.int .i64 Yi), (.int .i64 Yj), (.slice Yk Yl Ym)]), (.int .i64 Jm)])) ∧
    aa Tryz.prog 40 #[(.pointer (some ⟨b, 0, none⟩)), (.int .i64 ((nc : Nat) : Int)), (.int .i64 nl)] Yh (fun Yn Yo =>
    az (some Yn) fun Jo Jp Jq =>
    aa Tryz.prog 40 #[(.pointer (some ⟨b2, 0, none⟩)), (.int .i64 ((nc : Nat) : Int)), (.int .i64 nl)] Yo (fun Yp MY =>
    az (some Yp) fun Yq Yr EK =>
    aa Tryz.prog 39 #[(.slice Jo Jp Jq), (.slice Yq Yr EK)] MY (fun Ys AU =>
    aK (some Ys) .i64 fun Yt =>
    aS (Yt != 0)
     (K (.bool false) AU)
     (aa Tryz.prog 18 #[(.pointer (some ⟨b, 0, none⟩))] AU (fun Yu Cw =>
     cw (some Yu) fun Yv =>
     aa Tryz.prog 41 #[(.pointer Yv), (.int .i64 (-1)), (.int .i64 (-1))] Cw (fun Yw Yx =>
     az (some Yw) fun Qn GJ GD =>
     aa Tryz.prog 18 #[(.pointer (some ⟨b, 0, none⟩))] Yx (fun Qq MZ =>
     cw (some Qq) fun Yy =>
     aa Tryz.prog 41 #[(.pointer Yy), (.int .i64 ((nc : Nat) : Int)), (.int .i64 nl)] MZ (fun Yz Jv =>
     az (some Yz) fun A179 YA k181 =>
     aS (decide ((((GJ : Nat) : Int) : Int) > ((YA : Nat) : Int)))
      (K (.bool false) Jv)
      (REST Jv)) Kp) Kp) Kp) Kp)) Kp) Kp) Kp) Kp := by
 have RV : ((nc : Nat) : Int) ≤ y.w.aB.length := by omega
 refine HT (b := b2) h RU hd he ?_
 clear h; intro R2 n1 n2 n3 A q1 q2 n4 M l1 h
 refine ⟨_, _, _, _, _, _, _, rfl, ?_⟩
 refine wY (b := b) h ok RV hl ?_
 clear h; intro R3 A1 cA M l2 h
 refine aO ?_
 refine wY (b := b2) h ok RV hl ?_
 clear h; intro R4 A2 cB M l3 h
 refine aO ?_
 have hbq := ok.bq
 have hbw := ok.bw ((nc : Nat) : Int).toNat nl.toNat
 refine Ku (l := ZT y ((nc : Nat) : Int).toNat nl.toNat) h (Src.row (A := A1)) (Src.row (A := A2)) rfl rfl (by unfold ZT; rw [List.length_append]; omega) ?_
 clear h; intro M h
 refine cz (Aw (by decide) ?_)
 refine ri (b := b) h (jB ?_)
 refine BW (b := b) (c1 := -1) (c2 := -1) h ok (by omega) (by omega) ?_
 clear h; intro A3 cC M h
 refine aO ?_
 refine ri (b := b) h (jB ?_)
 refine BW (b := b) h ok RV hl ?_
 clear h; intro A4 cD M h
 refine aO ?_
 refine aJ.2 ⟨fun hgt => ?_, fun _ => ?_⟩
 ·exfalso
  have h1 : (Fv y.w (-1 : Int).toNat (-1 : Int).toNat).length ≤ (Fv y.w ((nc : Nat) : Int).toNat nl.toNat).length := Zm
  omega
 ·exact HD R4 M (Mem.le_trans l1 (Mem.le_trans l2 l3)) (h.sub bu)
theorem Fj {c0 c1 c2 c3 : Int} {B : Option Addr} {m cb : Nat} (ha : rL M pa p) (hB : Kt M B m cb [.u64]) (k : ∀ M', mT [] M M' → K (.bool true) M') :
  aa Tryz.prog 9 #[BV pa p, .agg #[.int .i64 c0, .int .i64 c1, .int .i64 c2, .int .i64 c3], .slice B m cb] M K Kp := by
 refine mA ?_
 have k' : ∀ (R : Mem) (L : List HP) M', M.le R → Hp R L M' → K (.bool true) M' := fun R L M' hle h => k M' (pA.VW (fun b o hb => h.le b o (hle b o hb)) [])
 clear k
 obtain ⟨tR, n1, n2, n3, hr, hn⟩ := hB.u64
 subst n1
 have h := Hp.start M
 have cok := BE ⟨c0, c1, c2, c3⟩
 refine ae h ?_
 clear h
 intro k1 M1 h
 refine ae h ?_
 clear h
 intro k3 M2 h
 refine He h ?_
 clear h; intro R1 M3 l1 h
 have e40 : Int.toNat (if (40 : Int) < ((tR.length : Nat) : Int) then 40 else ((tR.length : Nat) : Int)) - 0 = min 40 tR.length := by split <;> omega
 refine o6 (aj ⟨by omega, by omega, by split <;> omega, by split <;> omega, by omega, by split <;> omega, ?_⟩)
 simp only [e40, Int.toNat_natCast]
 have hcut := RS.le (RS.cut hr 40) l1
 have RX : (tR.take 40).length ≤ 1000000000 := by rw [List.length_take]; omega
 refine aF h (aF h (aF h (aF h (aL h (aL h (aF h (aL h ⟨trivial, ?_⟩)))))))
 refine BF (c := ⟨c0, c1, c2, c3⟩) h ?_
 clear h; intro M4 h
 refine ⟨_, _, _, _, rfl, fZ h rfl, trivial, ?_⟩
 refine BY (p := p) (pa := pa) (c := dc ⟨c0, c1, c2, c3⟩) (l := tR.take 40) h (ha.le l1) (by omega) (by omega) hcut (by rw [List.length_take]) RX ?_
 clear h; intro R2 a Ur b wb db M5 l2 Ie wZ h
 refine ⟨_, _, rfl, _, rfl, fZ h rfl, ?_⟩
 refine ae h ?_
 clear h
 intro pB M6 h
 refine yC h rfl rfl rfl ?_
 clear h; intro M7 h
 refine ⟨fZ h rfl, ?_⟩
 refine aF h (aF h (aF h (aF h (aL h (aL h (aF h (aL h ⟨trivial, ?_⟩)))))))
 refine BF (c := ⟨c0, c1, c2, c3⟩) h ?_
 clear h; intro M4 h
 refine ⟨_, _, _, _, rfl, fZ h rfl, trivial, ?_⟩
 have l12 := Mem.le_trans l1 l2
 refine BY (p := p) (pa := pa) (c := dc ⟨c0, c1, c2, c3⟩) (l := tR.take 40) h (ha.le l12) (by omega) (by omega) (hcut.le l2) (by rw [List.length_take]) RX ?_
 clear h; intro R3 a2 RA b2 R0 R8 M5 l3 RU hs2 h
 refine ⟨_, _, rfl, _, rfl, fZ h rfl, ?_⟩
 refine ae h ?_
 clear h
 intro RK M6 h
 refine yC h rfl rfl rfl ?_
 clear h; intro M7 h
 refine ⟨fZ h rfl, ?_⟩
 have hok := D2 p
 have hsv : SV (eU p) 0 (BX p (dc ⟨c0, c1, c2, c3⟩) (tR.take 40)) := SV.new hok (by omega) (by omega) (by omega) rfl ⟨by rw [List.length_take]; omega, by simp, fun v hv => hn v (List.mem_of_mem_take hv)⟩
 refine aL h (aF h ?_)
 generalize BX p (dc ⟨c0, c1, c2, c3⟩) (tR.take 40) = x0 at h hsv
 generalize eU p = p' at h hsv Ie RU hok ⊢
 have h0 : Hp R3 (ay (c9 Ur p' wb db) b x0 :: ay (c9 RA p' R0 R8) b2 x0 :: []) M7 := h.sub bu
 clear h
 have hle := Mem.le_trans l12 l3
 have hp1' := Ie.le l3
 refine ⟨fun dd vs M' => ∃ (j : Nat) (x : Sc) (R' : Mem), vs = [.int .i64 (j : Int)] ∧ dd = 40 - j ∧ j ≤ 40 ∧ R3.le R' ∧ SV p' j x ∧ Hp R' (ay (c9 Ur p' wb db) b x :: ay (c9 RA p' R0 R8) b2 x :: []) M', ⟨_, 0, x0, R3, rfl, rfl, by omega, Mem.le_refl _, hsv, h0⟩, ?_⟩
 clear h0 hsv
 rintro dd _ nn M8 ⟨j, x, R4, he, hd, hj, RB, hv, h⟩
 simp only [List.cons.injEq, Value.int.injEq, and_true, true_and] at he
 subst he
 refine aJ.2 ⟨fun hlt => ?_, fun hge => k' R4 _ M8 (Mem.le_trans hle RB) h⟩
 obtain ⟨y, o, hst, Ix⟩ := hv.step hok (by omega)
 have oky := Ix.snOk hok
 have okx := hv.snOk hok
 have hcy := Ix.w.ch
 have hly := Ix.w.lk
 have hcx := hv.w.ch
 have hlx := hv.w.lk
 have nxt : ∀ (R5 : Mem), R4.le R5 → ∀ R' M', R5.le R' → Hp R' (ay (c9 Ur p' wb db) b y :: ay (c9 RA p' R0 R8) b2 y :: []) M' → ∃ k : Nat, (k < dd) ∧ ∃ (j' : Nat) (x : Sc) (R'' : Mem), ([.int .i64 (IntKind.wrap .i64 ((j : Int) + 1))] : List Value) = [.int .i64 (j' : Int)] ∧ k = 40 - j' ∧ j' ≤ 40 ∧ R3.le R'' ∧ SV p' j' x ∧ Hp R'' (ay (c9 Ur p' wb db) b x :: ay (c9 RA p' R0 R8) b2 x :: []) M' := fun R5 h45 R' M' h56 h => ⟨40 - (j + 1), by omega, j + 1, y, R', by rw [aQ (by omega)], rfl, by omega, Mem.le_trans RB (Mem.le_trans h45 h56), Ix, h⟩
 refine BG (b := b) h (hp1'.le RB) hv.k hst ?_
 clear h
 cases o with
 | ev e =>
  intro R5 A5 c5 M9 h1 h2 h3 h
  refine ⟨_, _, _, _, _, _, _, rfl, ?_⟩
  refine ae h ?_
  clear h
  intro zQ M h
  refine nQ h ?_
  clear h; intro M h
  have h0 : Hp R5 (ay (c9 Ur p' wb db) b y :: ay (c9 RA p' R0 R8) b2 x :: []) M := h.sub bu
  clear h
  have hp2' := (RU.le RB).le h1
  refine ai ?_
  refine oU (b := b) h0 (by have := oky.gs; omega) (cz ?_)
  refine bh.2 ⟨fun hs0 => ?_, fun _ => ?_⟩
  ·refine wY (b := b) h0 oky (by omega) (by omega) ?_
   clear h0; intro R6 A1 cA M l6 h
   refine aO ?_
   refine wY (b := b2) h okx (by omega) (by omega) ?_
   clear h; intro R7 A2 cB M l7 h
   refine aO ?_
   have hxs : x.status = 0 := by
    by_cases hc : x.status = 0
    ·exact hc
    ·exfalso
     unfold Sc.step at hst
     split at hst
     ·simp only [Option.some.injEq, Prod.mk.injEq] at hst
      rw [hst.1] at hc
      exact hc hs0
     ·cases hst
   have rD := (NY hxs hst).1
   refine HS (l := ZT y _ _) (r := ZT x _ _) (u := y.steps) (v := x.steps) h (Src.row (A := A1)) (Src.row (A := A2)) rfl rfl rfl rfl (by omega) ?_
   refine cz (aj ?_)
   have h0 : Hp R7 (ay (c9 Ur p' wb db) b y :: ay (c9 RA p' R0 R8) b2 x :: []) M := h.sub bu
   clear h
   exact vo h0 (hp2'.le (Mem.le_trans l6 l7)) hv.k hst oky (by omega) (by omega) (fun R' M' hl h => nxt R7 (Mem.le_trans h1 (Mem.le_trans l6 l7)) R' M' hl h)
  ·exact vo h0 hp2' hv.k hst oky (by omega) (by omega) (fun R' M' hl h => nxt R5 h1 R' M' hl h)
 | dY l =>
  intro e vs M9 hg hk h
  refine ⟨_, _, _, _, _, _, _, rfl, ?_⟩
  refine ae h ?_
  clear h
  intro zQ M h
  refine nQ h ?_
  clear h; intro M h
  have he := hg.shape.1
  have h0 : Hp R4 (ay (c9 Ur p' wb db) b y :: ay (c9 RA p' R0 R8) b2 x :: []) M := h.sub bu
  clear h
  refine bh.2 ⟨fun h0 => by omega, fun _ => ?_⟩
  exact vo h0 (RU.le RB) hv.k hst oky (by omega) (by omega) (fun R' M' hl h => nxt R4 (Mem.le_refl _) R' M' hl h)
end
end Go.Proofs
