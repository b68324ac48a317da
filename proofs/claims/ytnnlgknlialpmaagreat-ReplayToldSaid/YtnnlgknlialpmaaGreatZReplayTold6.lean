/- A part of proofs about one program. -/
import Derived.WideShapes
import Derived.Test.YtnnlgknlialpmaaGreatZReplayTold5
set_option linter.unusedVariables false
namespace Go.AF
theorem iN {P : Program} {w : World} {r : Reach} {base : Nat} {t e : TypeId} {A : Option Addr} {n c : Nat} (hu : P.underlying t = some (.slice e)) (h : Value.okWide P w r base t (.slice A n c)) : ∀ x, A = some x → x.spot = none := by
 intro x hx
 subst hx
 simp only [Value.okWide, hu, Cell.okWide, Cell.ok, World.has] at h
 exact h.2.2.2.1
def sC (M : Mem) (A : Option Addr) (n c : Nat) (ks : List IntKind) : Prop := sO M A n c ks ∧ ∀ x, A = some x → x.spot = none
theorem Pd (l : List (Nat → Int)) : (kE [.u64]).cells l = G5.cells (l.map (· 0)) := by
 induction l with
 | nil => rfl
 | cons g l ih => rw [gi.bN, List.map_cons, gi.bN, ih]; rfl
theorem sC.rs {α : Type} {E : gi α} {M : Mem} {A : Option Addr} {n c : Nat} {ks : List IntKind} (h : sC M A n c ks) (f : (Nat → Int) → α) (hc : ∀ l, (kE ks).cells l = E.cells (l.map f)) : ∃ l : List (Nat → Int), (l.map f).length = n ∧ n ≤ c ∧ n ≤ 9223372036854775807 ∧ RS E M A c (l.map f) ∧ ∀ g ∈ l, ∀ j k, ks[j]? = some k → (Lit.int k (g j)).wf = true := by
 obtain ⟨⟨l, rfl, h1, h2, h3, h4⟩, hs⟩ := h
 refine ⟨l, by simp, h1, Nat.le_trans h2 (by decide), ⟨?_, by simpa using h1⟩, h4⟩
 rcases Nat.eq_zero_or_pos l.length with h0 | h0
 ·have : l = [] := List.eq_nil_of_length_eq_zero h0
  subst this
  match A, hs with
  | none, _ => rfl
  | some ⟨b, o, sp⟩, hs =>
   have := hs _ rfl
   simp only at this
   subst this
   intro i hi
   simp [gi.cells] at hi
 ·rw [← hc]
  exact h3 h0
theorem sC.u64 {M : Mem} {A : Option Addr} {n c : Nat} (h : sC M A n c [.u64]) : ∃ l : List Int, l.length = n ∧ n ≤ 9223372036854775807 ∧ n ≤ c ∧ RS G5 M A c l ∧ ∀ v ∈ l, 0 ≤ v ∧ v < 18446744073709551616 := by
 obtain ⟨l, h1, h2, h3, h4, h5⟩ := h.rs (E := G5) (· 0) Pd
 refine ⟨_, h1, h3, h2, h4, fun v hv => ?_⟩
 obtain ⟨g, hg, rfl⟩ := List.mem_map.1 hv
 have := h5 g hg 0 .u64 rfl
 simp [Lit.wf, IntKind.has, IntKind.min, IntKind.max, IntKind.signed, IntKind.bits] at this
 omega
end Go.AF
namespace Go.Proofs
open Go.AF
set_option maxRecDepth 100000
set_option maxHeartbeats 1000000
attribute [local irreducible] aE cY gh cz ay fL az aF aX bh bJ aK
attribute [local irreducible] JC Ms
def DB : cM := ⟨[[⟨10, 0, 0, 0⟩]], [], 0, []⟩
theorem ok21 : Mk DB := by
 refine ⟨by decide, by decide, by decide, by decide, fun c hc => (nomatch hc), fun f hf => ?_⟩
 simp only [DB, List.mem_singleton] at hf
 subst hf
 refine ⟨by decide, by decide, fun i hi => ?_⟩
 simp only [List.mem_singleton] at hi
 subst hi
 simp [Mj, eD.ju, bz, DB]
def Pe : Sc := Sc.new DB ⟨1, 1, 2, 1⟩ ⟨.tape [] 0, []⟩
def Ta : Sc := ((Pe.step DB).getD (Pe, .ee [])).1
theorem Pf : Pe.step DB = some (Ta, .ee vS) := by kernel_rfl
theorem Pg : Pe.status = 0 ∧ Pe.w.gs.length = 1 ∧ Ta.steps = 0 ∧ Ta.w.out.length = 0 := ⟨by kernel_rfl, by kernel_rfl, by kernel_rfl, by kernel_rfl⟩
theorem eX : Pe.d.k.Ok := ⟨by decide, by decide, fun v hv => (nomatch hv)⟩
def Ek (s : ByteArray) : Prop := s = ⟨#[120]⟩ ∨ s = ⟨#[]⟩
section
variable {R : Mem} {L L' : List HP} {M : Mem} {K : Value → Mem → Prop} {Kp : List PanicEntry → Mem → Prop} {pa : PA} {p : cM} {b sb wb db : Nat} {x y : Sc} {A : Option Addr} {c : Nat} {l : List Int} {s : ByteArray} {u : Value}
theorem xh (hs : Ek s) (k : ∀ e, e ≠ 0 → K (.tuple #[.int .u64 0, .int .i64 0, .int .i64 0, .int .i64 e]) M) : aa Tryz.prog 223 #[.string s, .int .i64 0] M K Kp := by
 refine tQ ?_
 refine ⟨fun d vs M' => vs = [.int .i64 0] ∧ M' = M, ⟨0, rfl, rfl⟩, ?_⟩
 rintro d _ ii M' ⟨he, rfl⟩
 simp only [List.cons.injEq, Value.int.injEq, and_true, true_and] at he
 subst he
 refine eu (by decide) ?_
 rcases hs with rfl | rfl
 ·refine lW (by decide) ⟨by decide, by decide, by decide, by decide, eu (by decide) (k 1 (by decide))⟩
 ·exact eu (by decide) (k 2 (by decide))
theorem xj (hs : Ek s) (k : ∀ e, e ≠ 0 → K (.tuple #[.int .u64 0, .string ⟨#[]⟩, .int .i64 0, .int .i64 e]) M) : aa Tryz.prog 196 #[.string s, .int .i64 0] M K Kp := by
 refine tP ?_
 refine lW (by decide) (aH.2 ⟨fun hgt => absurd hgt (by omega), fun _ => ?_⟩)
 refine xh hs fun e he => ⟨_, _, _, _, rfl, ?_⟩
 exact bM.2 ⟨fun _ => k e he, fun h => absurd h he⟩
theorem xk (hs : Ek s) (k : K (.int .i64 0) M) : aa Tryz.prog 169 #[.string s, .int .u64 0, u] M K Kp := by
 refine tO ?_
 refine ⟨fun d vs M' => vs = [.int .u64 0, .int .i64 0] ∧ M' = M, ⟨0, rfl, rfl⟩, ?_⟩
 rintro d _ n5 n6 M' ⟨he, rfl⟩
 simp only [List.cons.injEq, Value.int.injEq, and_true, true_and] at he
 obtain ⟨rfl, rfl⟩ := he
 refine xj hs fun e he => ⟨_, _, _, _, rfl, ?_⟩
 exact bM.2 ⟨fun _ => k, fun h => absurd h he⟩
theorem oz (h : Hp R L M) (hs : Ek s) (k : ∀ M', Hp R L M' → K (.tuple #[.slice none 0 0, .int .i64 0, .int .i64 0]) M') : aa Tryz.prog 144 #[.string s] M K Kp := by
 refine tN ?_
 refine aj h ?_
 clear h
 intro k1 M h
 refine aj h ?_
 clear h
 intro k3 M h
 refine ak h ?_
 clear h; intro M h
 refine xk hs (bU (av h (ae h ?_)))
 exact k M (h.sub bG)
theorem BK {v : List PanicEntry} (hp : lD R pa p) (hk : x.d.k.Ok) (hst : x.step p = some (y, .ee v)) :
  zz R (Gk pa p b sb wb db A c x l L) (.func (.func 95) #[.pointer (some ⟨b, 0, none⟩)] #[])
   (fun R' L2 => False) (fun R' v' L2 => R.le R' ∧ v' = v ∧ L2 = Gk pa p b sb wb db A c y l L) := by
 intro Q M K Kp h kk kd
 refine jn (args := []) ⟨by decide, by show _ < 255; decide⟩ ?_
 refine mC ?_
 refine om h ?_
 refine Dy (b := sb) h hp hk hst ?_
 show ∀ M', _ → _
 intro M9 h9
 exact kd R v _ M9 ⟨Mem.le_refl _, rfl, rfl⟩ (h9.sub bG)
theorem Ll : ∀ {v : List PanicEntry} {e : Int} {vs : List Value}, wk v e vs → v = vS → e = 1 := by
 intro v e vs h hv
 cases h with
 | d1 => rfl
 | d2 => rfl
 | u1 a q n k x => simp [Ml, vS] at hv
 | u2 a q n k x => simp [Ml, vS, xe] at hv
theorem DC {most : Int} (h : Hp R (Gk pa p b sb wb db A c x [] L) M) (hp : lD R pa p) (hk : x.d.k.Ok) (hm : 0 < most) (hst : x.step p = some (y, .ee vS)) (hx : x.status = 0) (hg : x.w.gs.length ≤ 1000000) (ho : y.w.out.length ≤ 1000000)
  (k : ∀ R' co Ao As cs M', R.le R' → Hp R' L M' → K (F0 4 y.steps y.w.code Ao y.w.out.length co As 0 cs 0 0 0 0 0 0) M') :
  aa Tryz.prog 44 #[.pointer (some ⟨b, 0, none⟩), .int .i64 most, .pointer none] M K Kp := by
 refine oa ?_
 refine aj h ?_
 clear h
 intro k1 M h
 have h2 : Hp R (Gk pa p b sb wb db A c x [] (pt k1 [.int .i64 0, .int .i64 0, .int .i64 0, .slice none 0 0, .slice none 0 0, .int .i64 0, .int .i64 0, .int .i64 0, .int .i64 0, .int .i64 0, .int .u64 0] 114 :: L)) M := h.sub bG
 clear h
 refine ⟨fun dd vs M' => vs = [.int .i64 0] ∧ Hp R (Gk pa p b sb wb db A c x [] (pt k1 [.int .i64 0, .int .i64 0, .int .i64 0, .slice none 0 0, .slice none 0 0, .int .i64 0, .int .i64 0, .int .i64 0, .int .i64 0, .int .i64 0, .int .u64 0] 114 :: L)) M', ⟨0, rfl, h2⟩, ?_⟩
 clear h2
 rintro dd _ nn M8 ⟨he, h⟩
 simp only [List.cons.injEq, Value.int.injEq, and_true, true_and] at he
 subst he
 refine aH.2 ⟨fun hlt => ?_, fun hge => absurd hm hge⟩
 refine om h ?_
 refine qZ (b := sb) h hg (bU ?_)
 rw [hx]
 refine eu (by decide) ?_
 refine zA h (BK hp hk hst) (fun _ _ _ h => by rw [h.2.1]; exact ⟨_, _, .d1⟩) (fun _ _ _ h => h.elim) ?_
 rintro R4 v _ M e a q n kk xx ⟨hle4, rfl, rfl⟩ hg h
 obtain rfl := Ll hg rfl
 refine ⟨_, _, _, _, _, _, rfl, ?_⟩
 refine aj h ?_
 clear h
 intro cU M h
 repeat (refine ak h ?_; clear h; intro M h)
 refine Dz (bU (lW (by decide) (eu (by decide) ?_)))
 have h2 : Hp R4 (Gk pa p b sb wb db A c y [] (pt cU [.int .i64 a, .int .i64 q, .int .i64 n, .int .i64 kk, .int .u64 xx] 97 :: pt k1 [.int .i64 0, .int .i64 0, .int .i64 0, .slice none 0 0, .slice none 0 0, .int .i64 0, .int .i64 0, .int .i64 0, .int .i64 0, .int .i64 0, .int .u64 0] 114 :: L)) M := h.sub bG
 clear h
 refine BH h2 (by simp) ho ?_
 clear h2; intro Ao co As cs M h
 refine ⟨_, _, _, _, _, _, _, _, _, _, _, _, _, _, _, rfl, ?_⟩
 repeat (refine ak h ?_; clear h; intro M h)
 refine ae h (ae h (ae h (av h (av h (ae h (ae h (ae h (ae h (ae h (ae h ?_))))))))))
 exact k R4 co Ao As cs M hle4 (h.sub bG)
theorem BL (h : Hp R L M) (hp : lD R pa DB) (vz : RS bq R pa.c pa.cc DB.kC)
  (k : ∀ R' n co Ao As cs cd M', R.le R' → Hp R' L M' → K (F0 4 0 cd Ao n co As 0 cs 0 0 0 0 0 0) M') :
  aa Tryz.prog 145 #[O9 pa DB, .agg #[.int .i64 1, .int .i64 1, .int .i64 2, .int .i64 1], .slice none 0 0, .int .i64 9] M K Kp := by
 refine w7 ?_
 obtain ⟨q1, q2, q3, q4⟩ := Pg
 refine aj h ?_
 clear h
 intro k1 M h
 refine aj h ?_
 clear h
 intro k3 M h
 refine aj h ?_
 clear h
 intro k5 M h
 refine av h (av h (ae h (av h (ae h (ae h (ae h (ae h ?_)))))))
 refine By (l := []) h (RS.nil _ _).src rfl (by decide) ?_
 clear h; intro db M h
 refine gK ⟨dN h rfl, dN h rfl, ?_⟩
 refine BG (p := DB) (pa := pa) (cf := ⟨1, 1, 2, 1⟩) h vz ok21 (by decide) (by decide) ?_
 clear h; intro b sb wb M h
 refine gK ⟨dN h rfl, dN h rfl, ?_⟩
 refine DC (y := Ta) h hp eX (by decide) Pf q1 (by show Pe.w.gs.length ≤ _; rw [q2]; decide) (by rw [q4]; decide) ?_
 clear h; intro R' co Ao As cs M hle h
 refine ⟨_, _, _, _, _, _, _, _, _, _, _, _, _, _, _, rfl, dN h rfl, dN h rfl, ?_⟩
 rw [q3]
 repeat (refine ak h ?_; clear h; intro M h)
 refine ⟨dN h rfl, dN h rfl, ?_⟩
 refine ae h (ae h (ae h (av h (av h (ae h (ae h (ae h (ae h (ae h (ae h ?_))))))))))
 exact k R' _ co Ao As cs _ M hle (h.sub bG)
theorem wq (h : Hp R L M) (k : ∀ M', Hp R L M' → K (F0 7 0 0 none 0 0 none 0 0 1 0 0 0 0 0) M') :
  aa Tryz.prog 103 #[O9 pa DB, .agg #[.int .i64 1, .int .i64 1, .int .i64 2, .int .i64 1], .string ({ data := #[120] }), .int .i64 9] M K Kp := by
 refine jS ?_
 refine aj h ?_
 clear h
 intro k1 M h
 refine aj h ?_
 clear h
 intro k3 M h
 refine aj h ?_
 clear h
 intro k5 M h
 refine oz h (.inl rfl) ?_
 clear h; intro M h
 refine ⟨_, _, _, _, _, rfl, eu (by decide) ?_⟩
 repeat (refine ak h ?_; clear h; intro M h)
 refine ae h (ae h (ae h (av h (av h (ae h (ae h (ae h (ae h (ae h (ae h ?_))))))))))
 exact k M (h.sub bG)
theorem wu (h : Hp R L M) (hp : lD R pa DB) (vz : RS bq R pa.c pa.cc DB.kC)
  (k : ∀ R' n co Ao As cs cd M', R.le R' → Hp R' L M' → K (F0 4 0 cd Ao n co As 0 cs 0 0 0 0 0 0) M') :
  aa Tryz.prog 103 #[O9 pa DB, .agg #[.int .i64 1, .int .i64 1, .int .i64 2, .int .i64 1], .string ({ data := #[] }), .int .i64 9] M K Kp := by
 refine jS ?_
 refine aj h ?_
 clear h
 intro k1 M h
 refine aj h ?_
 clear h
 intro k3 M h
 refine aj h ?_
 clear h
 intro k5 M h
 refine oz h (.inr rfl) ?_
 clear h; intro M h
 refine ⟨_, _, _, _, _, rfl, lW (by decide) ?_⟩
 refine av h (av h (ae h (av h (ae h (ae h (ae h (ae h ?_)))))))
 refine BL h hp vz ?_
 clear h; intro R' n co Ao As cs cd M hle h
 refine ⟨_, _, _, _, _, _, _, _, _, _, _, _, _, _, _, rfl, ?_⟩
 repeat (refine ak h ?_; clear h; intro M h)
 refine ae h (ae h (ae h (av h (av h (ae h (ae h (ae h (ae h (ae h (ae h ?_))))))))))
 exact k R' n co Ao As cs cd M hle (h.sub bG)
theorem BM (h : Hp R L M) (k : ∀ R' M', R.le R' → Hp R' L M' → K (.bool true) M') : aa Tryz.prog 47 #[] M K Kp := by
 refine lC ?_
 refine aj h ?_
 clear h
 intro k1 M h
 refine aj h ?_
 clear h
 intro k3 M h
 have h1 := (h.pt k1).oG (E := MZ) (l := [⟨10, 0, 0, 0⟩]) rfl
 obtain ⟨R1, hle1, JA, h2⟩ := h1.tX (some ⟨k1, 0, none⟩)
 have h3 := h2.oG (E := slE) (l := [(some ⟨k1, 0, none⟩, 1, 1)]) rfl
 obtain ⟨R2, FY, SX, h4⟩ := h3.tX (some ⟨k3, 0, none⟩)
 clear h h1 h2 h3
 have hp : lD R2 ⟨some ⟨k3, 0, none⟩, 1, none, 0, none, 0⟩ DB := ⟨⟨_, SX, rfl, fun i t f a b => by
  match i, a, b with
  | 0, a, b => simp at a; cases b; subst a; exact ⟨JA.le FY, rfl⟩
  | i + 1, a, b => simp at a⟩, RS.nil _ _⟩
 have hle : R.le R2 := Mem.le_trans hle1 FY
 refine aj h4 ?_
 clear h4; intro k5 M h
 repeat (refine ak h ?_; clear h; intro M h)
 refine aj h ?_
 clear h
 intro cN M h
 repeat (refine ak h ?_; clear h; intro M h)
 refine av h (av h (ae h (av h (ae h (ae h (ae h (ae h (av h (av h (ae h (av h (ae h (ae h (ae h (ae h ⟨trivial, trivial, ?_⟩)))))))))))))))
 refine wq (pa := ⟨some ⟨k3, 0, none⟩, 1, none, 0, none, 0⟩) h ?_
 clear h; intro M h
 refine ⟨_, _, _, _, _, _, _, _, _, _, _, _, _, _, _, rfl, dN h rfl, dN h rfl, trivial, trivial, ?_⟩
 refine wu (pa := ⟨some ⟨k3, 0, none⟩, 1, none, 0, none, 0⟩) h hp (RS.nil _ _) ?_
 clear h; intro R3 n co Ao As cs cd M l3 h
 refine ⟨_, _, _, _, _, _, _, _, _, _, _, _, _, _, _, rfl, dN h rfl, dN h rfl, ?_⟩
 refine aj h ?_
 clear h
 intro Jx M h
 refine aj h ?_
 clear h
 intro AD M h
 repeat (refine ak h ?_; clear h; intro M h)
 refine ⟨dN h rfl, dN h rfl, ?_⟩
 repeat (refine ak h ?_; clear h; intro M h)
 refine ⟨dN h rfl, dN h rfl, ae h (eu (by decide) (ae h (eu (by decide) (ae h (eu (by decide) (ae h ?_))))))⟩
 exact k R3 M (Mem.le_trans hle l3) (h.sub bG)
end
end Go.Proofs
namespace Go.AF
section
variable {H : Type} {enc : TypeId × Value → H} {P : Program} {w : World} {base Ji : Nat} {spare : Nat → Bool} {held : Bool}
theorem tq {t ti t1 t2 e1 e2 : TypeId} {fs : Array Field} {v : Value} {d : DataW H} {ps : List MemPlace} (hu : P.underlying t = some (.struct fs)) (hf : fs.toList.map (fun (f : Field) => (f.offset, f.type)) = [(0, ti), (1, ti), (2, ti), (3, t1), (4, t2)])
  (ui : P.underlying ti = some (.int .i64)) (u1 : P.underlying t1 = some (.slice e1)) (u2 : P.underlying t2 = some (.slice e2)) (ci : P.cellsOf ti = 1) (c1 : P.cellsOf t1 = 1) (c2 : P.cellsOf t2 = 1)
  (k1 : je P 8 e1 = some [.i64]) (k2 : je P 8 e2 = some [.u32]) (d1 : P.cellsOf e1 = 1) (d2 : P.cellsOf e2 = 1) (ct : P.cellsOf t = 5) (hct : P.cellTypes P.depth t = some [ti, ti, ti, t1, t2])
  (hw : Value.okWide P w .any Ji t v) (h : DataW.Trod enc P w base spare held t v d ps) :
  ∃ (a b c : Int) (A : Option Addr) (n q : Nat) (B : Option Addr) (m r : Nat), v = .agg #[.int .i64 a, .int .i64 b, .int .i64 c, .slice A n q, .slice B m r] ∧ sC (jI w) A n q [.i64] ∧ sC (jI w) B m r [.u32] := by
 have PS := hw
 unfold Value.okWide at PS
 rw [hu] at PS
 obtain ⟨cs, rfl, hsz, ts, hts, _, hcell⟩ := PS
 rw [hct] at hts
 obtain rfl := (Option.some.inj hts)
 obtain ⟨fuel, hh⟩ := h
 obtain ⟨xs, m, _, _, hl, Lz, Hg⟩ := DataW.trod_struct hu hh
 have e0 : (Value.agg cs).cells = cs := rfl
 rw [e0] at Hg hl
 rw [ct] at hsz
 obtain ⟨cl⟩ := cs
 simp only [List.size_toArray] at hsz
 have Sh : ∀ (i o : Nat) (ty : TypeId), ([(0, ti), (1, ti), (2, ti), (3, t1), (4, t2)] : List (Nat × TypeId))[i]? = some (o, ty) → ∃ (f : Field) (x : DataW H × List MemPlace), fs[i]? = some f ∧ f.offset = o ∧ f.type = ty ∧ DataW.trod enc P w base spare held m ty ((cl.drop o).take (P.cellsOf ty)) = some x := by
  intro i o ty hi
  rw [← hf, List.getElem?_map] at hi
  obtain ⟨f, EK, pR⟩ := Option.map_eq_some_iff.1 hi
  cases pR
  have hf3 : fs[i]? = some f := by simpa using EK
  have := Hg i f hf3
  have hi4 : i < xs.length := by rw [Lz]; exact (Array.getElem?_eq_some_iff.1 hf3).1
  rw [List.getElem?_eq_getElem hi4] at this
  exact ⟨f, _, hf3, rfl, rfl, this⟩
 match cl, hsz with
 | [w0, w1, w2, w3, w4], _ =>
  obtain ⟨_, x0, _, _, _, a0⟩ := Sh 0 0 ti rfl
  obtain ⟨_, x1, _, _, _, a1⟩ := Sh 1 1 ti rfl
  obtain ⟨_, x2, _, _, _, a2⟩ := Sh 2 2 ti rfl
  obtain ⟨_, x3, _, _, _, a3⟩ := Sh 3 3 t1 rfl
  obtain ⟨_, x4, _, _, _, a4⟩ := Sh 4 4 t2 rfl
  rw [ci] at a0 a1 a2
  rw [c1] at a3
  rw [c2] at a4
  have sl : ∀ {ty e : TypeId} {u : Value} {x : DataW H × List MemPlace}, P.underlying ty = some (.slice e) → DataW.trod enc P w base spare held m ty [u] = some x → ∃ A n c, u = .slice A n c := by
   intro ty e u x hu h
   rcases Go.Deep.open_slice hu h with ⟨h0, _⟩ | ⟨a, len, cap, _, _, _, _, h0, _⟩
   ·cases h0; exact ⟨_, _, _, rfl⟩
   ·cases h0; exact ⟨_, _, _, rfl⟩
  obtain ⟨A1, n1, q1, rfl⟩ := sl u1 a3
  obtain ⟨A2, n2, q2, rfl⟩ := sl u2 a4
  obtain ⟨i0, b0, _⟩ := DataW.trod_int ui a0
  obtain ⟨i1, b1, _⟩ := DataW.trod_int ui a1
  obtain ⟨i2, b2, _⟩ := DataW.trod_int ui a2
  have b0' : w0 = .int .i64 i0 := by simpa using b0
  have b1' : w1 = .int .i64 i1 := by simpa using b1
  have b2' : w2 = .int .i64 i2 := by simpa using b2
  subst b0' b1' b2'
  have hs3 : Value.okWide P w .any Ji t1 (.slice A1 n1 q1) := by
   obtain ⟨u, hu1, hu2⟩ := hcell 3 _ rfl
   have : t1 = u := by simpa using hu1
   subst this
   unfold Value.okWide
   rw [u1]
   exact hu2
  have hs4 : Value.okWide P w .any Ji t2 (.slice A2 n2 q2) := by
   obtain ⟨u, hu1, hu2⟩ := hcell 4 _ rfl
   have : t2 = u := by simpa using hu1
   subst this
   unfold Value.okWide
   rw [u2]
   exact hu2
  exact ⟨i0, i1, i2, A1, n1, q1, A2, n2, q2, rfl, ⟨sO.yJ u1 k1 ⟨d1, by decide⟩ ⟨m, a3⟩, iN u1 hs3⟩, ⟨sO.yJ u2 k2 ⟨d2, by decide⟩ ⟨m, a4⟩, iN u2 hs4⟩⟩
end
end Go.AF
namespace Go.Proofs
open Go.AF
set_option maxRecDepth 100000
set_option maxHeartbeats 1000000
attribute [local irreducible] aE cY gh cz ay fL az aF aX bh bJ aK
attribute [local irreducible] JC Ms
theorem Ph (l : List (Nat → Int)) : (kE [.i64]).cells l = bq.cells (l.map (· 0)) := by
 induction l with
 | nil => rfl
 | cons g l ih => rw [gi.bN, List.map_cons, gi.bN, ih]; rfl
theorem Pj (l : List (Nat → Int)) : (kE [.u32]).cells l = iU.cells (l.map (· 0)) := by
 induction l with
 | nil => rfl
 | cons g l ih => rw [gi.bN, List.map_cons, gi.bN, ih]; rfl
theorem BN {M : Mem} {A : Option Addr} {n c : Nat} (h : sC M A n c [.i64]) : ∃ l : List Int, l.length = n ∧ n ≤ c ∧ RS bq M A c l := by
 obtain ⟨l, h1, h2, h3, h4, h5⟩ := h.rs (E := bq) (· 0) Ph
 exact ⟨_, h1, h2, h4⟩
theorem BO {M : Mem} {A : Option Addr} {n c : Nat} (h : sC M A n c [.u32]) : ∃ l : List Int, l.length = n ∧ n ≤ c ∧ RS iU M A c l := by
 obtain ⟨l, h1, h2, h3, h4, h5⟩ := h.rs (E := iU) (· 0) Pj
 exact ⟨_, h1, h2, h4⟩
section
variable {R : Mem} {L L' : List HP} {M : Mem} {K : Value → Mem → Prop} {Kp : List PanicEntry → Mem → Prop} {A B : Option Addr} {s0 s1 s2 : Int}
theorem yu {c d : Nat} {lo ls : List Int} (h : Hp R L M) (r1 : RS bq R A c lo) (r2 : RS iU R B d ls) (h1 : lo.length ≤ c) (h2 : ls.length ≤ d)
  (k : ∀ A' c' B' d' M', RS bq R A' c' (lo.take 9) → RS iU R B' d' (ls.take 20) → Hp R L M' → K (F0 s0 s1 s2 A' (lo.take 9).length c' B' (ls.take 20).length d' 0 0 0 0 0 0) M') :
  aa Tryz.prog 48 #[.agg #[.int .i64 s0, .int .i64 s1, .int .i64 s2, .slice A lo.length c, .slice B ls.length d]] M K Kp := by
 refine Jh h h1 h2 ?_
 clear h; intro M h
 have := k _ _ _ _ M (RS.cut r1 9) (RS.cut r2 20) h
 rw [List.length_take, List.length_take] at this
 exact this
theorem xl {x0 x1 x2 y0 y1 y2 : Int} {P0 P1 Q0 Q1 : Option Addr} {m0 m1 n0 n1 c0 c1 d0 d1 : Nat} (a1 : sC M P0 m0 c0 [.i64]) (a2 : sC M P1 m1 c1 [.u32]) (b1 : sC M Q0 n0 d0 [.i64]) (b2 : sC M Q1 n1 d1 [.u32]) (k : ∀ M', j7 [] M M' → K (.bool true) M') :
  aa Tryz.prog 11 #[.agg #[.int .i64 x0, .int .i64 x1, .int .i64 x2, .slice P0 m0 c0, .slice P1 m1 c1], .agg #[.int .i64 y0, .int .i64 y1, .int .i64 y2, .slice Q0 n0 d0, .slice Q1 n1 d1]] M K Kp := by
 refine iJ ?_
 have k' : ∀ (R : Mem) (L : List HP) M', M.le R → Hp R L M' → K (.bool true) M' := fun R L M' hle h => k M' (kS.MN (fun b o hb => h.le b o (hle b o hb)) [])
 clear k
 obtain ⟨lo, rfl, g1, r1⟩ := BN a1
 obtain ⟨ls, rfl, g2, r2⟩ := BO a2
 obtain ⟨ro, rfl, g3, r3⟩ := BN b1
 obtain ⟨rs, rfl, g4, r4⟩ := BO b2
 have h := Hp.start M
 refine aj h ?_
 clear h
 intro k1 M1 h
 refine aj h ?_
 clear h
 intro k3 M2 h
 refine BM h ?_
 clear h; intro R0 M3 l0 h
 refine eC (ai ?_)
 refine ae h (ae h (ae h (av h (av h (ae h (ae h (ae h (av h (av h ⟨trivial, trivial, ?_⟩)))))))))
 refine yu h (r1.le l0) (r2.le l0) g1 g2 ?_
 clear h; intro A1 e1 A2 e2 M4 s1 s2 h
 refine ⟨_, _, _, _, _, _, _, _, _, _, _, _, _, _, _, rfl, dN h rfl, trivial, trivial, ?_⟩
 refine yu h (r3.le l0) (r4.le l0) g3 g4 ?_
 clear h; intro B1 f1 B2 f2 M5 s3 s4 h
 refine ⟨_, _, _, _, _, _, _, _, _, _, _, _, _, _, _, rfl, dN h rfl, ?_⟩
 have jW : (lo.take 9).length ≤ 1000 := by rw [List.length_take]; omega
 have sD : (ls.take 20).length ≤ 1000 := by rw [List.length_take]; omega
 have Lm : (ro.take 9).length ≤ 1000 := by rw [List.length_take]; omega
 have zG : (rs.take 20).length ≤ 1000 := by rw [List.length_take]; omega
 generalize lo.take 9 = X1 at *
 generalize ls.take 20 = X2 at *
 generalize ro.take 9 = Y1 at *
 generalize rs.take 20 = Y2 at *
 refine aj h ?_
 clear h
 intro cj M h
 refine aj h ?_
 clear h
 intro wY M h
 repeat (refine ak h ?_; clear h; intro M h)
 refine ⟨dN h rfl, ?_⟩
 repeat (refine ak h ?_; clear h; intro M h)
 refine ⟨dN h rfl, ?_⟩
 rename_i M6
 refine ⟨fun d vs M' => ∃ (n : Int) (j : Nat), vs = [.int .i64 n, .int .i64 (j : Int)] ∧ d = X2.length - j ∧ j ≤ min X2.length Y2.length ∧ ((n = -1 ∧ alike X2 Y2 j) ∨ (0 ≤ n ∧ BI X2 Y2 n)) ∧ M' = M, ⟨_, -1, 0, rfl, rfl, by omega, .inl ⟨rfl, fun t ht => absurd ht (by omega)⟩, rfl⟩, ?_⟩
 rintro d _ D5 AO M7 ⟨n, j, he, hd, hj, hinv, rfl⟩
 simp only [List.cons.injEq, Value.int.injEq, and_true, true_and] at he
 obtain ⟨rfl, rfl⟩ := he
 have Hi : (¬ (j < X2.length ∧ j < Y2.length) ∨ ¬ (D5 < 0)) → BI X2 Y2 D5 := fun hc => by
  rcases hinv with ⟨e1, e2⟩ | ⟨_, e2⟩
  ·refine .inl ⟨e1, fun t ht => e2 t (by omega)⟩
  ·exact e2
 refine av h ?_
 refine aH.2 ⟨fun q1 => ?_, fun q1 => ?_⟩
 ·refine av h (aH.2 ⟨fun q2 => ?_, fun q2 => ?_⟩)
  ·refine aH.2 ⟨fun q3 => ?_, fun q3 => ?_⟩
   ·clear Hi
    obtain ⟨e1, DA⟩ := hinv.resolve_right (fun e => absurd e.1 (by omega))
    obtain ⟨a, ha⟩ := aL (l := X2) (i := j) (by omega)
    obtain ⟨b, hb⟩ := aL (l := Y2) (i := j) (by omega)
    obtain ⟨b1, o1, rfl⟩ := s2.src.fa h (by omega) (by decide)
    obtain ⟨b2, o2, rfl⟩ := s4.src.fa h (by omega) (by decide)
    refine av h ⟨by omega, by omega, aS ?_⟩
    simp only [Int.toNat_natCast]
    refine aW (s2.src.at h (j := 0) ha rfl (by simp [iU])) ?_
    refine av h ⟨by omega, by omega, aS ?_⟩
    refine aW (s4.src.at h (j := 0) hb rfl (by simp [iU])) ?_
    refine bM.2 ⟨fun hne => ?_, fun heq => ?_⟩
    ·exact ⟨X2.length - (j + 1), by omega, _, j + 1, by rw [aV (by omega)], rfl, by omega, .inr ⟨by omega, .inr ⟨j, rfl, by omega, by omega, by rw [ha, hb]; simpa using hne, DA⟩⟩, trivial⟩
    ·exact ⟨X2.length - (j + 1), by omega, _, j + 1, by rw [aV (by omega)], rfl, by omega, .inl ⟨e1, iM DA (by rw [ha, hb, heq])⟩, trivial⟩
   ·have hf := Hi (.inr q3)
    refine ae h (ae h (ae h (av h (av h (ae h (ae h (ae h (ae h (ae h (ae h ?_))))))))))
    refine ae h (ae h (ae h (av h (av h ?_))))
    refine wm h s1 s3 s2 s4 sD zG jW Lm (fun hE M h => ?_) (fun hE M h => ?_)
    ·refine bU ?_
     refine ae h (ae h (ae h (av h (av h (ae h (ae h (ae h (ae h (ae h (ae h ?_))))))))))
     refine ae h (ae h (ae h (av h (av h (ae h (ae h (ae h (ae h (ae h (ae h ?_))))))))))
     refine dy h s2 s4 sD zG fun n2 M pR h => ?_
     refine bU (bB.2 ⟨fun _ => ?_, fun hne => absurd (iu pR hf) hne⟩)
     refine ae h (ae h (ae h (av h (av h (ae h (ae h (ae h (ae h (ae h (ae h ?_))))))))))
     refine ae h (ae h (ae h (av h (av h (ae h (ae h (ae h (ae h (ae h (ae h ?_))))))))))
     refine cu h s1 s3 s2 s4 sD zG jW Lm (fun _ M h => ?_) (fun hn => absurd hE hn)
     refine eC (eu (by decide) ?_)
     refine ae h (ae h (ae h (av h (av h (ae h (ae h (ae h (ae h (ae h (ae h ?_))))))))))
     refine ae h (ae h (ae h (av h (av h (ae h (ae h (ae h (ae h (ae h (ae h ?_))))))))))
     exact cu h s1 s1 s2 s2 sD sD jW jW (fun _ M h => eC (k' R0 _ _ l0 h)) (fun hn => absurd ⟨rfl, rfl, rfl, rfl, rfl⟩ hn)
    ·refine bU ?_
     refine ae h (ae h (ae h (av h (av h (ae h (ae h (ae h (ae h (ae h (ae h ?_))))))))))
     refine ae h (ae h (ae h (av h (av h (ae h (ae h (ae h (ae h (ae h (ae h ?_))))))))))
     refine dy h s2 s4 sD zG fun n2 M pR h => ?_
     refine bU (bB.2 ⟨fun _ => ?_, fun hne => absurd (iu pR hf) hne⟩)
     refine ae h (ae h (ae h (av h (av h (ae h (ae h (ae h (ae h (ae h (ae h ?_))))))))))
     refine ae h (ae h (ae h (av h (av h (ae h (ae h (ae h (ae h (ae h (ae h ?_))))))))))
     refine cu h s1 s3 s2 s4 sD zG jW Lm (fun hy => absurd hy hE) (fun _ M h => ?_)
     refine eC (eu (by decide) ?_)
     refine ae h (ae h (ae h (av h (av h (ae h (ae h (ae h (ae h (ae h (ae h ?_))))))))))
     refine ae h (ae h (ae h (av h (av h (ae h (ae h (ae h (ae h (ae h (ae h ?_))))))))))
     exact cu h s1 s1 s2 s2 sD sD jW jW (fun _ M h => eC (k' R0 _ _ l0 h)) (fun hn => absurd ⟨rfl, rfl, rfl, rfl, rfl⟩ hn)
  ·have hf := Hi (.inl (by omega))
   refine ae h (ae h (ae h (av h (av h (ae h (ae h (ae h (ae h (ae h (ae h ?_))))))))))
   refine ae h (ae h (ae h (av h (av h ?_))))
   refine wm h s1 s3 s2 s4 sD zG jW Lm (fun hE M h => ?_) (fun hE M h => ?_)
   ·refine bU ?_
    refine ae h (ae h (ae h (av h (av h (ae h (ae h (ae h (ae h (ae h (ae h ?_))))))))))
    refine ae h (ae h (ae h (av h (av h (ae h (ae h (ae h (ae h (ae h (ae h ?_))))))))))
    refine dy h s2 s4 sD zG fun n2 M pR h => ?_
    refine bU (bB.2 ⟨fun _ => ?_, fun hne => absurd (iu pR hf) hne⟩)
    refine ae h (ae h (ae h (av h (av h (ae h (ae h (ae h (ae h (ae h (ae h ?_))))))))))
    refine ae h (ae h (ae h (av h (av h (ae h (ae h (ae h (ae h (ae h (ae h ?_))))))))))
    refine cu h s1 s3 s2 s4 sD zG jW Lm (fun _ M h => ?_) (fun hn => absurd hE hn)
    refine eC (eu (by decide) ?_)
    refine ae h (ae h (ae h (av h (av h (ae h (ae h (ae h (ae h (ae h (ae h ?_))))))))))
    refine ae h (ae h (ae h (av h (av h (ae h (ae h (ae h (ae h (ae h (ae h ?_))))))))))
    exact cu h s1 s1 s2 s2 sD sD jW jW (fun _ M h => eC (k' R0 _ _ l0 h)) (fun hn => absurd ⟨rfl, rfl, rfl, rfl, rfl⟩ hn)
   ·refine bU ?_
    refine ae h (ae h (ae h (av h (av h (ae h (ae h (ae h (ae h (ae h (ae h ?_))))))))))
    refine ae h (ae h (ae h (av h (av h (ae h (ae h (ae h (ae h (ae h (ae h ?_))))))))))
    refine dy h s2 s4 sD zG fun n2 M pR h => ?_
    refine bU (bB.2 ⟨fun _ => ?_, fun hne => absurd (iu pR hf) hne⟩)
    refine ae h (ae h (ae h (av h (av h (ae h (ae h (ae h (ae h (ae h (ae h ?_))))))))))
    refine ae h (ae h (ae h (av h (av h (ae h (ae h (ae h (ae h (ae h (ae h ?_))))))))))
    refine cu h s1 s3 s2 s4 sD zG jW Lm (fun hy => absurd hy hE) (fun _ M h => ?_)
    refine eC (eu (by decide) ?_)
    refine ae h (ae h (ae h (av h (av h (ae h (ae h (ae h (ae h (ae h (ae h ?_))))))))))
    refine ae h (ae h (ae h (av h (av h (ae h (ae h (ae h (ae h (ae h (ae h ?_))))))))))
    exact cu h s1 s1 s2 s2 sD sD jW jW (fun _ M h => eC (k' R0 _ _ l0 h)) (fun hn => absurd ⟨rfl, rfl, rfl, rfl, rfl⟩ hn)
 ·have hf := Hi (.inl (by omega))
  refine ae h (ae h (ae h (av h (av h (ae h (ae h (ae h (ae h (ae h (ae h ?_))))))))))
  refine ae h (ae h (ae h (av h (av h ?_))))
  refine wm h s1 s3 s2 s4 sD zG jW Lm (fun hE M h => ?_) (fun hE M h => ?_)
  ·refine bU ?_
   refine ae h (ae h (ae h (av h (av h (ae h (ae h (ae h (ae h (ae h (ae h ?_))))))))))
   refine ae h (ae h (ae h (av h (av h (ae h (ae h (ae h (ae h (ae h (ae h ?_))))))))))
   refine dy h s2 s4 sD zG fun n2 M pR h => ?_
   refine bU (bB.2 ⟨fun _ => ?_, fun hne => absurd (iu pR hf) hne⟩)
   refine ae h (ae h (ae h (av h (av h (ae h (ae h (ae h (ae h (ae h (ae h ?_))))))))))
   refine ae h (ae h (ae h (av h (av h (ae h (ae h (ae h (ae h (ae h (ae h ?_))))))))))
   refine cu h s1 s3 s2 s4 sD zG jW Lm (fun _ M h => ?_) (fun hn => absurd hE hn)
   refine eC (eu (by decide) ?_)
   refine ae h (ae h (ae h (av h (av h (ae h (ae h (ae h (ae h (ae h (ae h ?_))))))))))
   refine ae h (ae h (ae h (av h (av h (ae h (ae h (ae h (ae h (ae h (ae h ?_))))))))))
   exact cu h s1 s1 s2 s2 sD sD jW jW (fun _ M h => eC (k' R0 _ _ l0 h)) (fun hn => absurd ⟨rfl, rfl, rfl, rfl, rfl⟩ hn)
  ·refine bU ?_
   refine ae h (ae h (ae h (av h (av h (ae h (ae h (ae h (ae h (ae h (ae h ?_))))))))))
   refine ae h (ae h (ae h (av h (av h (ae h (ae h (ae h (ae h (ae h (ae h ?_))))))))))
   refine dy h s2 s4 sD zG fun n2 M pR h => ?_
   refine bU (bB.2 ⟨fun _ => ?_, fun hne => absurd (iu pR hf) hne⟩)
   refine ae h (ae h (ae h (av h (av h (ae h (ae h (ae h (ae h (ae h (ae h ?_))))))))))
   refine ae h (ae h (ae h (av h (av h (ae h (ae h (ae h (ae h (ae h (ae h ?_))))))))))
   refine cu h s1 s3 s2 s4 sD zG jW Lm (fun hy => absurd hy hE) (fun _ M h => ?_)
   refine eC (eu (by decide) ?_)
   refine ae h (ae h (ae h (av h (av h (ae h (ae h (ae h (ae h (ae h (ae h ?_))))))))))
   refine ae h (ae h (ae h (av h (av h (ae h (ae h (ae h (ae h (ae h (ae h ?_))))))))))
   exact cu h s1 s1 s2 s2 sD sD jW jW (fun _ M h => eC (k' R0 _ _ l0 h)) (fun hn => absurd ⟨rfl, rfl, rfl, rfl, rfl⟩ hn)
end
end Go.Proofs
