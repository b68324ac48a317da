/- A part of proofs about one program. -/
import Derived.Test.YtfjgcljdnhkmaaaZWorldSleeps3
set_option linter.unusedVariables false
namespace Go.Proofs
open Go.AF
set_option maxRecDepth 100000
set_option maxHeartbeats 1000000
attribute [local irreducible] bG dz fN dU aE fL aB bW bq aW bD aX
def jo (t j : Nat) : Int := 1 + (t : Int) + 1000 * (j : Int)
def mU : List cn := [⟨1, 1, 1000, 0⟩, ⟨6, 2, 0, 1⟩, ⟨8, 2, 7, 0⟩, ⟨4, 0, 0, 1⟩, ⟨1, 4, 1, 0⟩, ⟨3, 3, 3, 4⟩, ⟨7, 1, 0, 0⟩, ⟨17, 0, 0, 0⟩, ⟨20, 3, 0, 0⟩, ⟨10, 0, 0, 0⟩]
def fq (ts : List Nat) : Nat → List cn
 | 0 => []
 | j + 1 => fq ts j ++ [⟨1, 1, jo (ts.getD j 0) j, 0⟩, ⟨11, 1, 1, 2⟩]
def ck (ts : List Nat) : cR := ⟨[fq ts ts.length ++ [⟨12, 0, 0, 0⟩, ⟨7, 2 * (ts.length : Int), 0, 0⟩], mU], [], 0, []⟩
theorem dS (ts : List Nat) : ∀ j, (fq ts j).length = 2 * j
 | 0 => rfl
 | j + 1 => by rw [fq, List.length_append, dS ts j]; simp; omega
theorem rQ (ts : List Nat) : ∀ (n j : Nat), j < n → (fq ts n)[2 * j]? = some ⟨1, 1, jo (ts.getD j 0) j, 0⟩ ∧ (fq ts n)[2 * j + 1]? = some ⟨11, 1, 1, 2⟩
 | 0, j, h => by omega
 | n + 1, j, h => by
  rw [fq]
  by_cases hj : j < n
  ·obtain ⟨a, b⟩ := rQ ts n j hj
   have hl := dS ts n
   exact ⟨by rw [List.getElem?_append_left (by omega)]; exact a, by rw [List.getElem?_append_left (by omega)]; exact b⟩
  ·have e : j = n := by omega
   subst e
   have hl := dS ts j
   exact ⟨by rw [List.getElem?_append_right (by omega), hl, Nat.sub_self]; rfl, by rw [List.getElem?_append_right (by omega), hl, show 2 * j + 1 - 2 * j = 1 from by omega]; rfl⟩
theorem jq {ts : List Nat} (hn : ts.length ≤ 20) : fe (ck ts) := by
 have hm : ∀ (j : Nat) (i : cn), i ∈ fq ts j → i.op = 1 ∧ i.a = 1 ∨ i = ⟨11, 1, 1, 2⟩ := by
  intro j
  induction j with
  | zero => intro i hi; cases hi
  | succ j ih =>
   intro i hi
   rw [fq] at hi
   rcases List.mem_append.1 hi with hi | hi
   ·exact ih i hi
   ·simp only [List.mem_cons, List.not_mem_nil, or_false] at hi
    rcases hi with rfl | rfl
    ·exact .inl ⟨rfl, rfl⟩
    ·exact .inr rfl
 have hl := dS ts ts.length
 refine ⟨by simp [ck], by simp [ck], by simp [ck], by simp [ck], by simp [ck], fun f hf => ?_⟩
 simp only [ck, List.mem_cons, List.not_mem_nil, or_false] at hf
 rcases hf with rfl | rfl
 ·refine ⟨by simp, by simp [hl]; omega, fun i hi => ?_⟩
  have el : ((fq ts ts.length ++ [⟨12, 0, 0, 0⟩, ⟨7, 2 * (ts.length : Int), 0, 0⟩] : List cn)).length = 2 * ts.length + 2 := by simp [hl]
  rcases List.mem_append.1 hi with hi | hi
  ·rcases hm _ i hi with ⟨e, e2⟩ | rfl
   ·simp [eN, e, e2, cn.eZ, aQ]
   ·simp [eN, cn.eZ, aQ, ck]
  ·simp only [List.mem_cons, List.not_mem_nil, or_false] at hi
   rcases hi with rfl | rfl
   ·simp [eN, cn.eZ, aQ]
   ·unfold eN
    rw [el]
    simp [cn.eZ, aQ]
    omega
 ·refine ⟨by decide, by decide, fun i hi => ?_⟩
  simp only [mU, List.mem_cons, List.not_mem_nil, or_false] at hi
  rcases hi with rfl | rfl | rfl | rfl | rfl | rfl | rfl | rfl | rfl | rfl <;> simp [eN, cn.eZ, aQ, mU]
section
variable {p : cR} {x y : Wd} {g : Int} {i : cn} {d : fU} {r : Out Wd} {rest : Bool}
def pM (p : cR) (x : Wd) (g : Int) (i : cn) : Out Wd :=
 if i.op ≤ 8 then .on (x.aJ g ((aa x g).bj ((aa x g).top.next.pure i)))
 else if i.op = 10 then .on ((x.next g).back g i)
 else if i.op = 11 then (x.next g).spawn g i
 else if i.op = 17 then .on ((x.next g).sleep g i)
 else (x.next g).emit g i
theorem DK (he : gG p x g d = some (r, rest)) (jO : fJ { x with ready := [] } g) (hin : eM p { x with ready := [] } g = some i) (h0 : 0 ≤ i.op) (hop : i.op ≤ 8 ∨ i.op = 10 ∨ i.op = 11 ∨ i.op = 17 ∨ i.op = 20) : r = pM p { x with ready := [] } g i := by
 unfold gG at he
 dsimp only at he
 rw [if_pos jO] at he
 unfold pM
 split at he
 ·unfold eM at hin
  cases fT : p.funcs[(aa { x with ready := [] } g).top.fn.toNat]? with
  | none => rw [fT] at hin; cases hin
  | some code =>
   rw [fT] at he hin
   dsimp only at he hin
   rw [hin] at he
   dsimp only at he
   by_cases h8 : i.op ≤ 8
   ·rw [if_pos ⟨h0, h8⟩] at he
    rw [if_pos h8]
    obtain ⟨_, e⟩ := cf he; cases e; rfl
   ·rw [if_neg (fun e => h8 e.2), if_neg (by omega), if_neg (by omega)] at he
    rw [if_neg h8]
    cases hd : jj p (Wd.next { x with ready := [] } g) g i with
    | none => rw [hd] at he; cases he
    | some r' =>
     rw [hd] at he
     dsimp only at he
     obtain ⟨_, e⟩ := cf he
     cases e
     unfold jj at hd
     rcases hop with e | e | e | e | e
     ·exact absurd e h8
     ·rw [if_pos e] at hd ⊢; obtain ⟨_, e⟩ := cf hd; exact e
     ·rw [if_neg (by omega), if_pos e] at hd
      rw [if_neg (by omega), if_pos e]
      obtain ⟨_, e⟩ := cf hd; exact e
     ·simp only [e] at hd
      repeat rw [if_neg (by decide)] at hd
      rw [if_pos (by decide)] at hd
      rw [if_neg (by omega), if_neg (by omega), if_pos e]
      obtain ⟨_, e⟩ := cf hd; exact e
     ·simp only [e] at hd
      repeat rw [if_neg (by decide)] at hd
      rw [if_pos (by decide)] at hd
      rw [if_neg (by omega), if_neg (by omega), if_neg (by omega)]
      obtain ⟨_, e⟩ := cf hd; exact e
 ·cases he
theorem DL (hn : ¬ fJ { x with ready := [] } g) : gG p x g d = some (.on { x with ready := [] }, true) ∧ asks p { x with ready := [] } g = none := ⟨by unfold gG; rw [if_neg hn], by unfold asks; rw [if_neg hn]⟩
theorem DM (hin : eM p x g = some i) (h1 : i.op ≠ 21) (h2 : i.op ≠ 16) : asks p x g = none := by
 unfold asks
 split
 ·rw [hin]; dsimp only; rw [if_neg h1, if_neg h2]
 ·rfl
theorem lp (h : WV p x) (hp : fe p) (jO : fJ { x with ready := [] } g) (hin : eM p { x with ready := [] } g = some i) (h0 : 0 ≤ i.op) (hop : i.op ≤ 8 ∨ i.op = 10 ∨ i.op = 11 ∨ i.op = 17 ∨ i.op = 20) :
  ∃ r rest, gG p x g (.num 0) = some (r, rest) ∧ asks p { x with ready := [] } g = none ∧ r = pM p { x with ready := [] } g i ∧ WV p r.fin ∧ ∀ l y, r ≠ .e7 l y := by
 have ha : asks p { x with ready := [] } g = none := DM hin (by omega) (by omega)
 obtain ⟨r, rest, he, hres⟩ := Cd (d := .num 0) h hp jO.1 (fun v kd n _ e => by rw [ha] at e; cases e)
 rcases hres with ⟨DV, _⟩ | ⟨l, e, _⟩
 ·refine ⟨r, rest, he, ha, DK he jO hin h0 hop, ?_, fun l y e => by subst e; exact DV⟩
  cases r with
  | on y => exact DV.1
  | cT n y => exact DV.1.fin
  | e7 l y => exact DV.elim
 ·cases e
end
def sv (f : cB) : cB := match mU[f.pc.toNat]? with
 | some i => if i.op ≤ 8 then f.next.pure i else f
 | none => f
def qm : Nat → cB → cB
 | 0, f => f
 | k + 1, f => qm k (sv f)
theorem wC : ∀ (k : Nat) (f : cB), qm (k + 1) f = sv (qm k f)
 | 0, f => rfl
 | k + 1, f => by rw [qm, wC k (sv f)]; rfl
def kP : Nat → cB → cB → Bool
 | 0, f, e => f == e
 | k + 1, f, e => (f.fn == 1 && decide (0 ≤ f.pc) && decide (f.pc < 7)) && kP k (sv f) e
theorem yX : ∀ (n : Nat) (f e : cB), kP n f e = true → qm n f = e ∧ ∀ k, k < n → (qm k f).fn = 1 ∧ 0 ≤ (qm k f).pc ∧ (qm k f).pc < 7
 | 0, f, e, h => ⟨by simpa [kP, qm] using h, fun k hk => by omega⟩
 | n + 1, f, e, h => by
  unfold kP at h
  simp only [Bool.and_eq_true, beq_iff_eq, decide_eq_true_eq] at h
  obtain ⟨⟨⟨a, b⟩, c⟩, d⟩ := h
  obtain ⟨q1, q2⟩ := yX n (sv f) e d
  refine ⟨q1, fun k hk => ?_⟩
  cases k with
  | zero => exact ⟨a, b, c⟩
  | succ k => exact q2 k (by omega)
def f7 (t j : Nat) : cB := ⟨1, 7, [1 + (t : Int), 1000, 1, (j : Int), if j = 0 then 0 else 1, 0, 0, 0], 0⟩
def fE (t j : Nat) : cB := ⟨1, 8, [1 + (t : Int), 1000, 1, (j : Int), if j = 0 then 0 else 1, 0, 0, 0], 0⟩
theorem eo : ∀ (m n : Nat) (f g e : cB), kP m f g = true → kP n g e = true → kP (m + n) f e = true
 | 0, n, f, g, e, h1, h2 => by
  have e1 : f = g := by simpa [kP] using h1
  rw [e1, Nat.zero_add]; exact h2
 | m + 1, n, f, g, e, h1, h2 => by
  rw [show m + 1 + n = (m + n) + 1 from by omega]
  unfold kP at h1 ⊢
  rw [Bool.and_eq_true] at h1 ⊢
  exact ⟨h1.1, eo m n _ g e h1.2 h2⟩
theorem eu {f e : cB} (h1 : f.fn = 1) (h2 : 0 ≤ f.pc) (h3 : f.pc < 7) (h4 : sv f = e) : kP 1 f e = true := by
 simp [kP, h1, h2, h3, h4]
def Lf (pc a r2 c e : Int) : cB := ⟨1, pc, [a, 1000, r2, c, e, 0, 0, 0], 0⟩
theorem Ch {a c e : Int} (ha : 1000 ≤ a) (QC : a < 1000000) (hc : 0 ≤ c) (MZ : c < 1000000) : kP 6 (Lf 1 a 0 c e) (Lf 1 (a - 1000) 0 (c + 1) 1) = true := by
 have s1 : sv (Lf 1 a 0 c e) = Lf 2 a 0 c e := by
  have : sv (Lf 1 a 0 c e) = Lf 2 a (if a < 1000 then 1 else 0) c e := rfl
  rw [this, if_neg (by omega)]
 have s2 : sv (Lf 2 a 0 c e) = Lf 3 a 0 c e := rfl
 have s3 : sv (Lf 3 a 0 c e) = Lf 4 (a - 1000) 0 c e := by
  have : sv (Lf 3 a 0 c e) = Lf 4 (IntKind.wrap .i64 (a - 1000)) 0 c e := rfl
  rw [this, cG (by omega) (by omega)]
 have s4 : sv (Lf 4 (a - 1000) 0 c e) = Lf 5 (a - 1000) 0 c 1 := rfl
 have s5 : sv (Lf 5 (a - 1000) 0 c 1) = Lf 6 (a - 1000) 0 (c + 1) 1 := by
  have : sv (Lf 5 (a - 1000) 0 c 1) = Lf 6 (a - 1000) 0 (IntKind.wrap .i64 (c + 1)) 1 := rfl
  rw [this, cG (by omega) (by omega)]
 have s6 : sv (Lf 6 (a - 1000) 0 (c + 1) 1) = Lf 1 (a - 1000) 0 (c + 1) 1 := rfl
 have one : ∀ {f e : cB}, f.fn = 1 → 0 ≤ f.pc → f.pc < 7 → sv f = e → kP 1 f e = true := eu
 exact eo 1 5 _ _ _ (eu rfl (by show (0 : Int) ≤ 1; decide) (by show (1 : Int) < 7; decide) s1)
  (eo 1 4 _ _ _ (eu rfl (by show (0 : Int) ≤ 2; decide) (by show (2 : Int) < 7; decide) s2)
  (eo 1 3 _ _ _ (eu rfl (by show (0 : Int) ≤ 3; decide) (by show (3 : Int) < 7; decide) s3)
  (eo 1 2 _ _ _ (eu rfl (by show (0 : Int) ≤ 4; decide) (by show (4 : Int) < 7; decide) s4)
  (eo 1 1 _ _ _ (eu rfl (by show (0 : Int) ≤ 5; decide) (by show (5 : Int) < 7; decide) s5)
  (eu rfl (by show (0 : Int) ≤ 6; decide) (by show (6 : Int) < 7; decide) s6)))))
theorem tK {t : Nat} (ht : t < 30) : ∀ (k i : Nat), i + k < 20 → kP (6 * k) (Lf 1 (1 + (t : Int) + 1000 * (k : Int)) 0 (i : Int) (if i = 0 then 0 else 1)) (Lf 1 (1 + (t : Int)) 0 ((i + k : Nat) : Int) (if i + k = 0 then 0 else 1)) = true
 | 0, i, h => by simp [kP]
 | k + 1, i, h => by
  have h1 := Ch (a := 1 + (t : Int) + 1000 * ((k + 1 : Nat) : Int)) (c := (i : Int)) (e := if i = 0 then 0 else 1) (by omega) (by omega) (by omega) (by omega)
  have h2 := tK ht k (i + 1) (by omega)
  rw [show 6 * (k + 1) = 6 + 6 * k from by omega]
  refine eo 6 (6 * k) _ _ _ h1 ?_
  rw [show 1 + (t : Int) + 1000 * ((k + 1 : Nat) : Int) - 1000 = 1 + (t : Int) + 1000 * (k : Int) from by omega, show (i : Int) + 1 = ((i + 1 : Nat) : Int) from by omega]
  rw [if_neg (by omega), show i + 1 + k = i + (k + 1) from by omega] at h2
  exact h2
theorem Mn {t j : Nat} (ht : t < 30) (hj : j < 20) : kP (3 + 6 * j) (cB.begin 1 (jo t j)) (f7 t j) = true := by
 have h0 : kP 1 (cB.begin 1 (jo t j)) (Lf 1 (jo t j) 0 0 0) = true := eu rfl (by show (0 : Int) ≤ 0; decide) (by show (0 : Int) < 7; decide) rfl
 have h1 := tK ht j 0 (by omega)
 rw [Nat.zero_add, if_pos rfl] at h1
 have s1 : sv (Lf 1 (1 + (t : Int)) 0 (j : Int) (if j = 0 then 0 else 1)) = Lf 2 (1 + (t : Int)) 1 (j : Int) (if j = 0 then 0 else 1) := by
  have : sv (Lf 1 (1 + (t : Int)) 0 (j : Int) (if j = 0 then 0 else 1)) = Lf 2 (1 + (t : Int)) (if 1 + (t : Int) < 1000 then 1 else 0) (j : Int) (if j = 0 then 0 else 1) := rfl
  rw [this, if_pos (by omega)]
 have s2 : sv (Lf 2 (1 + (t : Int)) 1 (j : Int) (if j = 0 then 0 else 1)) = f7 t j := rfl
 rw [show 3 + 6 * j = 1 + (6 * j + (1 + 1)) from by omega]
 exact eo 1 _ _ _ _ h0 (eo (6 * j) _ _ _ _ h1 (eo 1 1 _ _ _ (eu rfl (by show (0 : Int) ≤ 1; decide) (by show (1 : Int) < 7; decide) s1) (eu rfl (by show (0 : Int) ≤ 2; decide) (by show (2 : Int) < 7; decide) s2)))
def fQ (ts : List Nat) (j : Nat) : cB := cB.begin 1 (jo (ts.getD j 0) j)
def kids (ts : List Nat) (i : Nat) : List eB := (List.range i).map fun j => ⟨1, [fQ ts j], .zero⟩
theorem z0 {ts : List Nat} {i : Nat} : kids ts (i + 1) = kids ts i ++ [⟨1, [fQ ts i], .zero⟩] := by simp [kids, List.range_succ]
theorem Ci {ts : List Nat} {i : Nat} : (kids ts i).length = i := by simp [kids]
def wD (ts : List Nat) (i : Nat) (pc : Int) (r : List Int) : Wd := ⟨⟨1, [⟨0, pc, r, 0⟩], .zero⟩ :: kids ts i, 0, [], [], [], 0, [], 0, 0, []⟩
def DN (p : cR) (x : Wd) (g : Int) (y : Wd) : Prop := ∃ r rest, gG p x g (.num 0) = some (r, rest) ∧ asks p { x with ready := [] } g = none ∧ WV p r.fin ∧ (∀ l y, r ≠ .e7 l y) ∧ { r.fin with ready := [] } = y
section
variable {ts : List Nat} {i : Nat} {x : Wd} {r : List Int}
theorem F0 (h : WV (ck ts) x) (hn : ts.length ≤ 20) (hi : i < ts.length) (he : ({ x with ready := [] } : Wd) = wD ts i (2 * (i : Int)) r) : ∃ r1, r1.getD 1 0 = jo (ts.getD i 0) i ∧ DN (ck ts) x 0 (wD ts i (2 * (i : Int) + 1) r1) := by
 have hin : eM (ck ts) { x with ready := [] } 0 = some ⟨1, 1, jo (ts.getD i 0) i, 0⟩ := by
  rw [he]
  show (fq ts ts.length ++ [⟨12, 0, 0, 0⟩, ⟨7, 2 * (ts.length : Int), 0, 0⟩])[(2 * (i : Int)).toNat]? = _
  have hl := dS ts ts.length
  rw [show (2 * (i : Int)).toNat = 2 * i from by omega, List.getElem?_append_left (by omega)]
  exact (rQ ts _ i hi).1
 have jO : fJ { x with ready := [] } 0 := by rw [he]; exact ⟨Int.le_refl 0, by simp [wD], rfl, rfl⟩
 obtain ⟨rr, rest, e1, e2, e3, e4, e5⟩ := lp h (jq hn) jO hin (by show (0 : Int) ≤ 1; decide) (.inl (by show (1 : Int) ≤ 8; decide))
 refine ⟨((⟨0, 2 * (i : Int) + 1, r, 0⟩ : cB).set 1 (jo (ts.getD i 0) i)).r, rfl, rr, rest, e1, e2, e4, e5, ?_⟩
 rw [e3, he]
 rfl
theorem F1 (h : WV (ck ts) x) (hn : ts.length ≤ 20) (hi : i < ts.length) (he : ({ x with ready := [] } : Wd) = wD ts i (2 * (i : Int) + 1) r) (hv : r.getD 1 0 = jo (ts.getD i 0) i) : ∃ r1, DN (ck ts) x 0 (wD ts (i + 1) (2 * ((i + 1 : Nat) : Int)) r1) := by
 have hin : eM (ck ts) { x with ready := [] } 0 = some ⟨11, 1, 1, 2⟩ := by
  rw [he]
  show (fq ts ts.length ++ [⟨12, 0, 0, 0⟩, ⟨7, 2 * (ts.length : Int), 0, 0⟩])[(2 * (i : Int) + 1).toNat]? = _
  have hl := dS ts ts.length
  rw [show (2 * (i : Int) + 1).toNat = 2 * i + 1 from by omega, List.getElem?_append_left (by omega)]
  exact (rQ ts _ i hi).2
 have jO : fJ { x with ready := [] } 0 := by rw [he]; exact ⟨Int.le_refl 0, by simp [wD], rfl, rfl⟩
 obtain ⟨rr, rest, e1, e2, e3, e4, e5⟩ := lp h (jq hn) jO hin (by show (0 : Int) ≤ 11; decide) (.inr (.inr (.inl rfl)))
 refine ⟨((⟨0, 2 * (i : Int) + 1 + 1, r, 0⟩ : cB).set 2 ((i + 1 : Nat) : Int)).r, rr, rest, e1, e2, e4, e5, ?_⟩
 rw [e3, he]
 have hl : ((wD ts i (2 * (i : Int) + 1) r).next 0).gs.length = i + 1 := by
  show ((⟨1, [⟨0, 2 * (i : Int) + 1, r, 0⟩], .zero⟩ :: kids ts i : List eB).set 0 _).length = i + 1
  rw [List.length_set, List.length_cons, Ci]
 have hst : pM (ck ts) (wD ts i (2 * (i : Int) + 1) r) 0 ⟨11, 1, 1, 2⟩ = ((wD ts i (2 * (i : Int) + 1) r).next 0).spawn 0 ⟨11, 1, 1, 2⟩ := rfl
 rw [hst]
 unfold Wd.spawn
 rw [if_neg (by omega), hl]
 have Cj : aF ((wD ts i (2 * (i : Int) + 1) r).next 0) 0 1 = jo (ts.getD i 0) i := hv
 rw [Cj]
 have hsp := wz (x := (wD ts i (2 * (i : Int) + 1) r).next 0) (w := ⟨1, [fQ ts i], .zero⟩)
 rw [hl] at hsp
 show ({ Wd.aN (Wd.bX { (wD ts i (2 * (i : Int) + 1) r).next 0 with gs := ((wD ts i (2 * (i : Int) + 1) r).next 0).gs ++ [⟨0, [fQ ts i], .zero⟩] } ((i + 1 : Nat) : Int)) 0 2 ((i + 1 : Nat) : Int) with ready := [] } : Wd) = _
 rw [hsp]
 unfold wD
 rw [z0]
 have e2 : 2 * ((i + 1 : Nat) : Int) = 2 * (i : Int) + 1 + 1 := by omega
 rw [e2]
 rfl
end
theorem Mo {t j : Nat} (ht : t < 30) (hj : j < 20) : qm (3 + 6 * j) (cB.begin 1 (jo t j)) = f7 t j ∧ ∀ k, k < 3 + 6 * j → (qm k (cB.begin 1 (jo t j))).fn = 1 ∧ 0 ≤ (qm k (cB.begin 1 (jo t j))).pc ∧ (qm k (cB.begin 1 (jo t j))).pc < 7 :=
 yX _ _ _ (Mn ht hj)
def gB (ts : List Nat) (q : Nat) (f : cB) : List eB := (List.range ts.length).map fun j => if j < q then ⟨3, [fE (ts.getD j 0) j], .zero⟩ else if j = q then ⟨1, [f], .zero⟩ else ⟨1, [fQ ts j], .zero⟩
def Ck (ts : List Nat) : Nat → List ay
 | 0 => []
 | q + 1 => gS (Ck ts q) ⟨1 + (ts.getD q 0 : Int), (q : Int), (q : Int) + 1⟩
def l9 (ts : List Nat) (m : eB) (q : Nat) (f : cB) : Wd := ⟨m :: gB ts q f, 0, [], [], Ck ts q, (q : Int), [], 0, 0, []⟩
def kQ (ts : List Nat) (m : eB) (q k : Nat) : Wd := if k ≤ 3 + 6 * q then l9 ts m q (qm k (fQ ts q)) else l9 ts m (q + 1) (fQ ts (q + 1))
theorem DO {ts : List Nat} : kids ts ts.length = gB ts 0 (fQ ts 0) := by
 unfold kids gB
 refine List.map_congr_left fun j _ => ?_
 rw [if_neg (by omega)]
 split
 ·rename_i e; rw [e]
 ·rfl
theorem tL {α : Type} {n q : Nat} {F G : Nat → α} {y : α} (hq : q < n) (h1 : ∀ j, j < n → j ≠ q → G j = F j) (h2 : G q = y) : ((List.range n).map F).set q y = (List.range n).map G := by
 refine List.ext_getElem (by simp) fun j a b => ?_
 simp only [List.length_map, List.length_range] at b
 rw [List.getElem_set]
 split
 ·rename_i e; subst e; simp [h2]
 ·rename_i e; simp [h1 j b (fun e2 => e e2.symm)]
section
variable {ts : List Nat} {m : eB} {q k : Nat} {x : Wd} {f f' : cB}
theorem F2 (hq : q < ts.length) : (gB ts q f).set q ⟨1, [f'], .zero⟩ = gB ts q f' :=
 tL hq (fun j _ hne => by rw [if_neg hne, if_neg hne]) (by rw [if_neg (by omega), if_pos rfl])
theorem Cl (hq : q < ts.length) : (gB ts q f).set q ⟨3, [fE (ts.getD q 0) q], .zero⟩ = gB ts (q + 1) (fQ ts (q + 1)) :=
 tL hq (fun j _ hne => by
  by_cases h : j < q
  ·rw [if_pos h, if_pos (by omega)]
  ·rw [if_neg h, if_neg (by omega), if_neg hne]
   split
   ·rename_i e; rw [e]
   ·rfl) (by rw [if_pos (by omega)])
theorem rR (hq : q < ts.length) : aa (l9 ts m q f) ((q : Int) + 1) = ⟨1, [f], .zero⟩ := by
 unfold aa l9
 rw [show ((q : Int) + 1).toNat = q + 1 from by omega]
 show (gB ts q f).getD q _ = _
 rw [List.getD_eq_getElem?_getD]
 simp [gB, hq]
theorem Cm (hq : q < ts.length) : (l9 ts m q f).aJ ((q : Int) + 1) ⟨1, [f'], .zero⟩ = l9 ts m q f' := by
 unfold Wd.aJ l9
 rw [show ((q : Int) + 1).toNat = q + 1 from by omega]
 show (⟨m :: (gB ts q f).set q _, _, _, _, _, _, _, _, _, _⟩ : Wd) = _
 rw [F2 hq]
theorem z3 {pc : Int} (h0 : 0 ≤ pc) (h7 : pc < 7) : ∃ i, mU[pc.toNat]? = some i ∧ 0 ≤ i.op ∧ i.op ≤ 8 := by
 have : pc = 0 ∨ pc = 1 ∨ pc = 2 ∨ pc = 3 ∨ pc = 4 ∨ pc = 5 ∨ pc = 6 := by omega
 rcases this with rfl | rfl | rfl | rfl | rfl | rfl | rfl
 all_goals exact ⟨_, rfl, by decide, by decide⟩
theorem IJ (h : WV (ck ts) x) (hn : ts.length ≤ 20) (ht : ∀ j, ts.getD j 0 < 30) (hq : q < ts.length) (he : ({ x with ready := [] } : Wd) = kQ ts m q k) : DN (ck ts) x ((q : Int) + 1) (kQ ts m q (k + 1)) := by
 obtain ⟨r1, r2⟩ := Mo (t := ts.getD q 0) (j := q) (ht q) (by omega)
 have IK : ∀ f : cB, fJ (l9 ts m q f) ((q : Int) + 1) := fun f => ⟨by omega, by simp [l9, gB]; omega, rfl, by rw [rR hq]⟩
 rcases Nat.lt_trichotomy k (3 + 6 * q) with hk | hk | hk
 ·have e0 : kQ ts m q k = l9 ts m q (qm k (fQ ts q)) := by unfold kQ; rw [if_pos (by omega)]
  have e1 : kQ ts m q (k + 1) = l9 ts m q (qm (k + 1) (fQ ts q)) := by unfold kQ; rw [if_pos (by omega)]
  rw [e0] at he
  rw [e1]
  obtain ⟨a, b, c⟩ := r2 k hk
  obtain ⟨i, hi, i0, i8⟩ := z3 b c
  change (qm k (fQ ts q)).fn = 1 at a
  change mU[(qm k (fQ ts q)).pc.toNat]? = some i at hi
  have hin : eM (ck ts) { x with ready := [] } ((q : Int) + 1) = some i := by
   rw [he]
   unfold eM
   rw [rR hq]
   show (match (ck ts).funcs[(qm k (fQ ts q)).fn.toNat]? with | none => none | some code => code[(qm k (fQ ts q)).pc.toNat]?) = _
   rw [a]; exact hi
  obtain ⟨rr, rest, e2, e3, e4, e5, e6⟩ := lp h (jq hn) (by rw [he]; exact IK _) hin i0 (.inl i8)
  refine ⟨rr, rest, e2, e3, e5, e6, ?_⟩
  rw [e4, he]
  unfold pM
  rw [if_pos i8, rR hq]
  show ({ (l9 ts m q (qm k (fQ ts q))).aJ ((q : Int) + 1) ⟨1, [(qm k (fQ ts q)).next.pure i], .zero⟩ with ready := [] } : Wd) = _
  rw [Cm hq, wC]
  have ec : sv (qm k (fQ ts q)) = (qm k (fQ ts q)).next.pure i := by
   unfold sv; rw [hi]; dsimp only; rw [if_pos i8]
  rw [ec]; rfl
 ·have e0 : kQ ts m q k = l9 ts m q (f7 (ts.getD q 0) q) := by unfold kQ; rw [if_pos (by omega), hk]; exact congrArg (l9 ts m q) r1
  have e1 : kQ ts m q (k + 1) = l9 ts m (q + 1) (fQ ts (q + 1)) := by unfold kQ; rw [if_neg (by omega)]
  rw [e0] at he
  rw [e1]
  have hin : eM (ck ts) { x with ready := [] } ((q : Int) + 1) = some ⟨17, 0, 0, 0⟩ := by
   rw [he]
   unfold eM
   rw [rR hq]; rfl
  obtain ⟨rr, rest, e2, e3, e4, e5, e6⟩ := lp h (jq hn) (by rw [he]; exact IK _) hin (by show (0 : Int) ≤ 17; decide) (.inr (.inr (.inr (.inl rfl))))
  refine ⟨rr, rest, e2, e3, e5, e6, ?_⟩
  rw [e4, he]
  have hst : pM (ck ts) (l9 ts m q (f7 (ts.getD q 0) q)) ((q : Int) + 1) ⟨17, 0, 0, 0⟩ = .on (((l9 ts m q (f7 (ts.getD q 0) q)).next ((q : Int) + 1)).sleep ((q : Int) + 1) ⟨17, 0, 0, 0⟩) := rfl
  rw [hst]
  have P5 : (l9 ts m q (f7 (ts.getD q 0) q)).next ((q : Int) + 1) = l9 ts m q (fE (ts.getD q 0) q) := by
   unfold Wd.next
   rw [rR hq]
   exact Cm hq
  rw [P5]
  have Cj : aF (l9 ts m q (fE (ts.getD q 0) q)) ((q : Int) + 1) 0 = 1 + (ts.getD q 0 : Int) := by
   unfold aF; rw [rR hq]; rfl
  have QD := ht q
  have D4 : hG (l9 ts m q (fE (ts.getD q 0) q)) ((q : Int) + 1) ⟨17, 0, 0, 0⟩ = 1 + (ts.getD q 0 : Int) := by
   unfold hG
   show (if 1048576 < aF (l9 ts m q (fE (ts.getD q 0) q)) ((q : Int) + 1) 0 then 1048576 else aF (l9 ts m q (fE (ts.getD q 0) q)) ((q : Int) + 1) 0) = _
   rw [Cj, if_neg (by omega)]
  unfold Wd.sleep
  rw [D4, if_pos (by omega), rR hq]
  have w1 : IntKind.wrap .u64 (1 + (ts.getD q 0 : Int)) = 1 + (ts.getD q 0 : Int) := by
   show (1 + (ts.getD q 0 : Int)) % (2 ^ 64 : Int) = _
   exact Int.emod_eq_of_lt (by omega) (by omega)
  have w2 : IntKind.wrap .u64 (0 + (1 + (ts.getD q 0 : Int))) = 1 + (ts.getD q 0 : Int) := by rw [Int.zero_add]; exact w1
  have w3 : IntKind.wrap .u64 ((q : Int) + 1) = ((q + 1 : Nat) : Int) := by
   show ((q : Int) + 1) % (2 ^ 64 : Int) = _
   rw [Int.emod_eq_of_lt (by omega) (by omega)]; omega
  show ({ (l9 ts m q (fE (ts.getD q 0) q)).aJ ((q : Int) + 1) ⟨3, [fE (ts.getD q 0) q], .zero⟩ with hl := gS (Ck ts q) ⟨IntKind.wrap .u64 (0 + IntKind.wrap .u64 (1 + (ts.getD q 0 : Int))), (q : Int), (q : Int) + 1⟩, fO := IntKind.wrap .u64 ((q : Int) + 1), ready := [] } : Wd) = _
  rw [w1, w2, w3]
  unfold Wd.aJ l9
  rw [show ((q : Int) + 1).toNat = q + 1 from by omega]
  show (⟨m :: (gB ts q _).set q _, _, _, _, _, _, _, _, _, _⟩ : Wd) = _
  rw [Cl hq]; rfl
 ·have e0 : kQ ts m q k = l9 ts m (q + 1) (fQ ts (q + 1)) := by unfold kQ; rw [if_neg (by omega)]
  have e1 : kQ ts m q (k + 1) = l9 ts m (q + 1) (fQ ts (q + 1)) := by unfold kQ; rw [if_neg (by omega)]
  rw [e0] at he
  rw [e1, ← he]
  have hno : ¬ fJ { x with ready := [] } ((q : Int) + 1) := by
   rw [he]
   intro hc
   have hs := hc.2.2.2
   unfold aa l9 at hs
   rw [show ((q : Int) + 1).toNat = q + 1 from by omega] at hs
   change ((gB ts (q + 1) (fQ ts (q + 1))).getD q _).st = 1 at hs
   rw [List.getD_eq_getElem?_getD] at hs
   simp [gB, hq] at hs
  obtain ⟨e2, e3⟩ := DL (p := ck ts) (d := .num 0) hno
  exact ⟨_, _, e2, e3, h.ready, (fun l y e => by cases e), rfl⟩
end
def IL (ts : List Nat) (j : Nat) : ay := ⟨1 + (ts.getD j 0 : Int), (j : Int), (j : Int) + 1⟩
theorem rT (ts : List Nat) : ∀ q, (Ck ts q).Perm ((List.range q).map (IL ts))
 | 0 => List.Perm.refl _
 | q + 1 => by
  rw [Ck, List.range_succ, List.map_append]
  exact mT.trans ((rT ts q).append_right _)
theorem uF (ts : List Nat) : ∀ q, fh (Ck ts q)
 | 0 => by intro i _ hi; simp [Ck] at hi
 | q + 1 => by rw [Ck]; exact Cg (uF ts q)
def mV (ts : List Nat) : List ay := bK ts.length (Ck ts ts.length)
theorem uG (ts : List Nat) (q : Nat) : (Ck ts q).length = q := by rw [(rT ts q).length_eq]; simp
theorem iH (ts : List Nat) : (mV ts).Perm ((List.range ts.length).map (IL ts)) :=
 (kO ts.length _ (by rw [uG]; exact Nat.le_refl _) (uF ts _)).1.trans (rT ts _)
theorem yY (ts : List Nat) : (mV ts).Pairwise (fun a b => b.before a = false) := (kO ts.length _ (by rw [uG]; exact Nat.le_refl _) (uF ts _)).2
theorem iI {ts : List Nat} {y : ay} (h : y ∈ mV ts) : ∃ j, j < ts.length ∧ y = IL ts j := by
 obtain ⟨j, hj, rfl⟩ := List.mem_map.1 ((iH ts).mem_iff.1 h)
 exact ⟨j, List.mem_range.1 hj, rfl⟩
theorem oc (ts : List Nat) : ((mV ts).map (·.id)).Nodup := by
 have h := ((iH ts).map (·.id))
 refine h.nodup_iff.2 ?_
 rw [List.map_map, List.Nodup, List.pairwise_map]
 refine List.Pairwise.imp ?_ List.nodup_range
 intro a b hab e
 have e2 : (a : Int) + 1 = (b : Int) + 1 := e
 exact hab (by omega)
theorem tM : ∀ (f : Nat) (l : List ay) (now : Int), fh l → fh (bM f l now).1
 | 0, l, now, h => h
 | f + 1, l, now, h => by
  rw [ji]
  split
  ·exact tM f _ now (rN h)
  ·exact h
def wE (ts : List Nat) (y : ay) (st : Int) (pc : Int) : eB := ⟨st, [⟨1, pc, (fE (ts.getD y.seq.toNat 0) y.seq.toNat).r, 0⟩], .zero⟩
structure uP (ts : List Nat) (c : Nat) (done cur rest : List ay) (x : Wd) : Prop where
 wv : WV (ck ts) x
 end_ : x.end_ = 0
 clock : x.clock = (c : Int)
 out : x.out = done.map (·.seq)
 ok : fh x.hl
 Js : bK x.hl.length x.hl = rest
 all : mV ts = done ++ cur ++ rest
 len : x.gs.length = ts.length + 1
 run : ∀ y ∈ cur, aa x y.id = wE ts y 1 8
 Jt : ∀ y ∈ rest, aa x y.id = wE ts y 3 8
 late : ∀ y ∈ rest, (c : Int) < y.t
theorem wF : ∀ (l : List Int) (x : Wd), l.Nodup → (∀ g ∈ l, 0 ≤ g ∧ g < x.gs.length) → (∀ q, 0 ≤ q → aa (l.foldl Wd.bX x) q = if q ∈ l then { aa x q with st := 1 } else aa x q) ∧
  (l.foldl Wd.bX x).ready = x.ready ++ l ∧ (l.foldl Wd.bX x).gs.length = x.gs.length ∧ (l.foldl Wd.bX x).end_ = x.end_ ∧ (l.foldl Wd.bX x).clock = x.clock ∧ (l.foldl Wd.bX x).out = x.out ∧ (l.foldl Wd.bX x).hl = x.hl
 | [], x, _, _ => ⟨fun q _ => by simp, by simp, rfl, rfl, rfl, rfl, rfl⟩
 | g :: l, x, hn, hr => by
  obtain ⟨g0, g1⟩ := hr g (by simp)
  have sM := List.nodup_cons.1 hn
  obtain ⟨a, b, c, d, e, f, k⟩ := wF l (x.bX g) sM.2 (fun q hq => by rw [fK]; exact hr q (by simp [hq]))
  rw [List.foldl_cons]
  refine ⟨fun q q0 => ?_, by rw [b]; simp [Wd.bX], by rw [c, fK], d, e, f, k⟩
  rw [a q q0]
  by_cases hq : q = g
  ·subst hq
   rw [if_neg sM.1, if_pos (by simp)]
   exact cq (x := x) g0 g1
  ·rw [jk g0 g1 q0 hq]
   by_cases hl : q ∈ l
   ·rw [if_pos hl, if_pos (by simp [hl])]
   ·rw [if_neg hl, if_neg (by simp [hl, hq])]
section
variable {ts : List Nat} {c : Nat} {done cur rest : List ay} {x : Wd} {y : ay}
theorem uP.lq (h : uP ts c done cur rest x) (hy : y ∈ done ++ cur ++ rest) : ∃ j, j < ts.length ∧ y = IL ts j := iI (by rw [h.all]; exact hy)
theorem uP.start (hn : ts.length ≤ 20) {m : eB} {q : Nat} {f : cB} (h : WV (ck ts) x) (hq : q = ts.length) (he : ({ x with ready := [] } : Wd) = l9 ts m q f) : uP ts 0 [] [] (mV ts) x := by
 subst hq
 have e1 : x.end_ = 0 := congrArg Wd.end_ he
 have e2 : x.clock = 0 := congrArg Wd.clock he
 have e3 : x.out = [] := congrArg Wd.out he
 have e4 : x.hl = Ck ts ts.length := congrArg Wd.hl he
 have e5 : x.gs = m :: gB ts ts.length f := congrArg Wd.gs he
 refine ⟨h, e1, e2, e3, by rw [e4]; exact uF ts _, by rw [e4, uG]; rfl, by simp, by rw [e5]; simp [gB], (fun y hy => by cases hy), fun y hy => ?_, fun y hy => ?_⟩
 ·obtain ⟨j, hj, rfl⟩ := iI hy
  unfold aa
  rw [e5]
  show (m :: gB ts ts.length f).getD ((j : Int) + 1).toNat _ = _
  rw [show ((j : Int) + 1).toNat = j + 1 from by omega]
  show (gB ts ts.length f).getD j _ = _
  rw [List.getD_eq_getElem?_getD]
  simp [gB, hj, wE, IL, fE]
 ·obtain ⟨j, hj, rfl⟩ := iI hy
  show (0 : Int) < 1 + (ts.getD j 0 : Int)
  omega
theorem uP.tick (h : uP ts c done [] rest x) (hn : ts.length ≤ 20) (hc : c < 100) : ∃ cur rest', x.tick.ready = cur.map (·.id) ∧ uP ts (c + 1) done cur rest' x.tick := by
 have hw : IntKind.wrap .u64 (x.clock + 1) = ((c + 1 : Nat) : Int) := by
  rw [h.clock]
  show ((c : Int) + 1) % (2 ^ 64 : Int) = _
  rw [Int.emod_eq_of_lt (by omega) (by omega)]; omega
 obtain ⟨a, b⟩ := rO ((c + 1 : Nat) : Int) x.hl.length x.hl (Nat.le_refl _)
 have hk := tM x.hl.length x.hl ((c + 1 : Nat) : Int) h.ok
 rw [h.Js] at a b
 have Cn : x.tick = (((bM x.hl.length x.hl ((c + 1 : Nat) : Int)).2).map (·.id)).foldl Wd.bX { x with clock := ((c + 1 : Nat) : Int), hl := (bM x.hl.length x.hl ((c + 1 : Nat) : Int)).1, ready := [] } := by
  unfold Wd.tick
  rw [if_neg (by rw [h.end_]; decide), hw]
 rw [a] at Cn
 generalize (bM x.hl.length x.hl ((c + 1 : Nat) : Int)).1 = l1 at Cn b hk
 have F3 := List.takeWhile_append_dropWhile (p := jn ((c + 1 : Nat) : Int)) (l := rest)
 have dW := h.all
 rw [List.append_nil] at dW
 have Ju : rest.Pairwise (fun a b => b.before a = false) := by
  have := yY ts
  rw [dW, List.pairwise_append] at this
  exact this.2.1
 have ye : ((rest.takeWhile (jn ((c + 1 : Nat) : Int))).map (·.id)).Nodup := by
  have := oc ts
  rw [dW, ← F3, List.map_append, List.map_append] at this
  exact (List.nodup_append.1 (List.nodup_append.1 this).2.1).1
 have Mp : ∀ y ∈ rest.dropWhile (jn ((c + 1 : Nat) : Int)), y.id ∉ (rest.takeWhile (jn ((c + 1 : Nat) : Int))).map (·.id) := by
  have := oc ts
  rw [dW, ← F3, List.map_append, List.map_append] at this
  intro y hy hm
  exact (List.nodup_append.1 (List.nodup_append.1 this).2.1).2.2 _ hm _ (List.mem_map_of_mem hy) rfl
 have IM : ∀ y ∈ rest, 0 ≤ y.id ∧ y.id < x.gs.length := fun y hy => by
  obtain ⟨j, hj, rfl⟩ := h.lq (y := y) (by simp [hy])
  rw [h.len]
  show 0 ≤ (j : Int) + 1 ∧ (j : Int) + 1 < ((ts.length + 1 : Nat) : Int)
  omega
 have Mq : ∀ y ∈ rest.takeWhile (jn ((c + 1 : Nat) : Int)), y ∈ rest := fun y hy => List.takeWhile_subset _ hy
 have Nw : ∀ y ∈ rest.dropWhile (jn ((c + 1 : Nat) : Int)), y ∈ rest := fun y hy => (List.dropWhile_sublist _).subset hy
 obtain ⟨w1, w2, w3, w4, w5, w6, w7⟩ := wF ((rest.takeWhile (jn ((c + 1 : Nat) : Int))).map (·.id)) { x with clock := ((c + 1 : Nat) : Int), hl := l1, ready := [] } ye (fun g hg => by
  obtain ⟨y, hy, rfl⟩ := List.mem_map.1 hg
  exact IM y (Mq y hy))
 have IN : ∀ y ∈ rest.dropWhile (jn ((c + 1 : Nat) : Int)), ((c + 1 : Nat) : Int) < y.t := by
  cases hd : rest.dropWhile (jn ((c + 1 : Nat) : Int)) with
  | nil => intro y hy; cases hy
  | cons z l =>
   have hz : ¬ jn ((c + 1 : Nat) : Int) z = true := by
    have := List.head_dropWhile_not (jn ((c + 1 : Nat) : Int)) (l := rest) (by rw [hd]; simp)
    simp only [hd, List.head_cons] at this
    rw [this]; decide
   have P6 : ((c + 1 : Nat) : Int) < z.t := by unfold jn at hz; simpa using hz
   have P7 : (z :: l).Pairwise (fun a b => b.before a = false) := by rw [← hd]; exact Ju.sublist (List.dropWhile_sublist _)
   intro y hy
   rcases List.mem_cons.1 hy with rfl | hy
   ·exact P6
   ·have := (List.pairwise_cons.1 P7).1 y hy
    unfold ay.before at this
    simp only [Bool.or_eq_false_iff, decide_eq_false_iff_not] at this
    omega
 refine ⟨rest.takeWhile (jn ((c + 1 : Nat) : Int)), rest.dropWhile (jn ((c + 1 : Nat) : Int)), by rw [Cn, w2]; rfl, (yW h.wv).2.1, by rw [Cn, w4]; exact h.end_, by rw [Cn, w5], by rw [Cn, w6]; exact h.out, by rw [Cn, w7]; exact hk, by rw [Cn, w7]; exact b, by rw [dW, List.append_assoc, F3], by rw [Cn, w3]; exact h.len, fun y hy => ?_, fun y hy => ?_, IN⟩
 ·rw [Cn, w1 y.id (IM y (Mq y hy)).1, if_pos (List.mem_map_of_mem hy)]
  have := h.Jt y (Mq y hy)
  show ({ aa x y.id with st := 1 } : eB) = _
  rw [this]; rfl
 ·rw [Cn, w1 y.id (IM y (Nw y hy)).1, if_neg (Mp y hy)]
  exact h.Jt y (Nw y hy)
theorem uP.emit (h : uP ts c done (y :: cur) rest x) (hn : ts.length ≤ 20) : ∃ r rest', gG (ck ts) x y.id (.num 0) = some (r, rest') ∧ asks (ck ts) { x with ready := [] } y.id = none ∧ (∀ l z, r ≠ .e7 l z) ∧ uP ts c (done ++ [y]) cur rest r.fin ∧ aa r.fin y.id = wE ts y 1 9 := by
 obtain ⟨j, hj, Jv⟩ := h.lq (y := y) (by simp)
 have hg := h.run y (by simp)
 have fO : y.seq = (j : Int) := by rw [Jv]; rfl
 have IM : y.id = (j : Int) + 1 := by rw [Jv]; rfl
 have jO : fJ { x with ready := [] } y.id := ⟨by omega, by show y.id < x.gs.length; rw [h.len]; omega, h.end_, by show (aa x y.id).st = 1; rw [hg]; rfl⟩
 have hin : eM (ck ts) { x with ready := [] } y.id = some ⟨20, 3, 0, 0⟩ := by
  show eM (ck ts) x y.id = _
  unfold eM
  rw [hg]; rfl
 obtain ⟨rr, rest', e1, e2, e3, e4, e5⟩ := lp h.wv (jq hn) jO hin (by show (0 : Int) ≤ 20; decide) (.inr (.inr (.inr (.inr rfl))))
 refine ⟨rr, rest', e1, e2, e5, ?_⟩
 have hst : pM (ck ts) { x with ready := [] } y.id ⟨20, 3, 0, 0⟩ = (Wd.next { x with ready := [] } y.id).emit y.id ⟨20, 3, 0, 0⟩ := rfl
 rw [hst] at e3
 have hlen : done.length ≤ 20 := by
  have h1 := congrArg List.length h.all
  rw [(iH ts).length_eq] at h1
  simp only [List.length_map, List.length_range, List.length_append] at h1
  omega
 have Cj : aF (Wd.next { x with ready := [] } y.id) y.id 3 = y.seq := by
  unfold aF
  have : aa (Wd.next { x with ready := [] } y.id) y.id = (aa x y.id).bj (aa x y.id).top.next := cq jO.1 jO.2.1
  rw [this, hg, fO]
  show ((y.seq.toNat : Nat) : Int) = (j : Int)
  rw [fO]; rfl
 unfold Wd.emit at e3
 have EX : (Wd.next { x with ready := [] } y.id).out.length = done.length := by
  show x.out.length = _
  rw [h.out, List.length_map]
 rw [if_neg (by omega), Cj] at e3
 subst e3
 have Ag : ∀ q, 0 ≤ q → q ≠ y.id → aa (Wd.next { x with ready := [] } y.id) q = aa x q := fun q q0 hne => gi (x := { x with ready := [] }) jO.1 jO.2.1 q0 hne
 have ye := oc ts
 rw [h.all] at ye
 have hne : ∀ z ∈ cur ++ rest, z.id ≠ y.id := by
  intro z hz e
  have h2 : (done.map (·.id) ++ (y.id :: (cur ++ rest).map (·.id))).Nodup := by simpa using ye
  exact (List.nodup_cons.1 (List.nodup_append.1 h2).2.1).1 (by rw [← e]; exact List.mem_map_of_mem hz)
 have Dh : ∀ z ∈ cur ++ rest, 0 ≤ z.id := fun z hz => by
  obtain ⟨k, hk, rfl⟩ := h.lq (y := z) (by
   rcases List.mem_append.1 hz with hz | hz
   ·simp [hz]
   ·simp [hz])
  show 0 ≤ (k : Int) + 1; omega
 refine ⟨⟨e4, h.end_, h.clock, ?_, h.ok, h.Js, by rw [h.all]; simp, ?_, fun z hz => ?_, fun z hz => ?_, h.late⟩, ?_⟩
 ·show (x.out ++ [y.seq]) = _
  rw [h.out]; simp
 ·show ((Wd.next { x with ready := [] } y.id)).gs.length = _
  rw [show ((Wd.next { x with ready := [] } y.id)).gs.length = x.gs.length from by simp [Wd.next, Wd.aJ]]; exact h.len
 ·show aa (Wd.next { x with ready := [] } y.id) z.id = _
  rw [Ag _ (Dh z (by simp [hz])) (hne z (by simp [hz]))]; exact h.run z (by simp [hz])
 ·show aa (Wd.next { x with ready := [] } y.id) z.id = _
  rw [Ag _ (Dh z (by simp [hz])) (hne z (by simp [hz]))]; exact h.Jt z hz
 ·show aa (Wd.next { x with ready := [] } y.id) y.id = _
  have : aa (Wd.next { x with ready := [] } y.id) y.id = (aa x y.id).bj (aa x y.id).top.next := cq jO.1 jO.2.1
  rw [this, hg]; rfl
theorem uP.ret (h : uP ts c done cur rest x) (hn : ts.length ≤ 20) (hy : y ∈ done) (hg : aa x y.id = wE ts y 1 9) : ∃ r rest', gG (ck ts) x y.id (.num 0) = some (r, rest') ∧ asks (ck ts) { x with ready := [] } y.id = none ∧ (∀ l z, r ≠ .e7 l z) ∧ uP ts c done cur rest r.fin := by
 obtain ⟨j, hj, Jv⟩ := h.lq (y := y) (by simp [hy])
 have IM : y.id = (j : Int) + 1 := by rw [Jv]; rfl
 have jO : fJ { x with ready := [] } y.id := ⟨by omega, by show y.id < x.gs.length; rw [h.len]; omega, h.end_, by show (aa x y.id).st = 1; rw [hg]; rfl⟩
 have hin : eM (ck ts) { x with ready := [] } y.id = some ⟨10, 0, 0, 0⟩ := by
  show eM (ck ts) x y.id = _
  unfold eM
  rw [hg]; rfl
 obtain ⟨rr, rest', e1, e2, e3, e4, e5⟩ := lp h.wv (jq hn) jO hin (by show (0 : Int) ≤ 10; decide) (.inr (.inl rfl))
 refine ⟨rr, rest', e1, e2, e5, ?_⟩
 have hst : pM (ck ts) { x with ready := [] } y.id ⟨10, 0, 0, 0⟩ = .on ((Wd.next { x with ready := [] } y.id).back y.id ⟨10, 0, 0, 0⟩) := rfl
 rw [hst] at e3
 have FJ : aa (Wd.next { x with ready := [] } y.id) y.id = wE ts y 1 10 := by
  have : aa (Wd.next { x with ready := [] } y.id) y.id = (aa x y.id).bj (aa x y.id).top.next := cq jO.1 jO.2.1
  rw [this, hg]; rfl
 unfold Wd.back at e3
 rw [FJ, if_neg (by show ¬ 2 ≤ 1; decide), if_neg (by omega)] at e3
 subst e3
 have P8 : (Wd.next { x with ready := [] } y.id).gs.length = x.gs.length := by simp [Wd.next, Wd.aJ]
 have Ag : ∀ q, 0 ≤ q → q ≠ y.id → aa ((Wd.next { x with ready := [] } y.id).aJ y.id { wE ts y 1 10 with st := 4 }) q = aa x q := fun q q0 hne => by
  rw [gi jO.1 (by rw [P8]; exact jO.2.1) q0 hne]
  exact gi (x := { x with ready := [] }) jO.1 jO.2.1 q0 hne
 have ye := oc ts
 rw [h.all, List.append_assoc, List.map_append] at ye
 have hne : ∀ z ∈ cur ++ rest, z.id ≠ y.id := fun z hz e => (List.nodup_append.1 ye).2.2 _ (List.mem_map_of_mem hy) _ (List.mem_map_of_mem hz) e.symm
 have Dh : ∀ z ∈ cur ++ rest, 0 ≤ z.id := fun z hz => by
  obtain ⟨k, hk, rfl⟩ := h.lq (y := z) (by rw [List.append_assoc]; exact List.mem_append_right _ hz)
  show 0 ≤ (k : Int) + 1; omega
 refine ⟨e4, h.end_, h.clock, h.out, h.ok, h.Js, h.all, ?_, fun z hz => ?_, fun z hz => ?_, h.late⟩
 ·show ((Wd.next { x with ready := [] } y.id).aJ y.id _).gs.length = _
  rw [show ((Wd.next { x with ready := [] } y.id).aJ y.id { wE ts y 1 10 with st := 4 }).gs.length = x.gs.length from by simp [Wd.next, Wd.aJ]]; exact h.len
 ·exact (Ag _ (Dh z (by simp [hz])) (hne z (by simp [hz]))).trans (h.run z hz)
 ·exact (Ag _ (Dh z (by simp [hz])) (hne z (by simp [hz]))).trans (h.Jt z hz)
theorem uP.fin (h : uP ts 31 done [] rest x) (ht : ∀ j, ts.getD j 0 < 30) : rest = [] ∧ x.out = (mV ts).map (·.seq) := by
 have hr : rest = [] := by
  cases hr : rest with
  | nil => rfl
  | cons z l =>
   exfalso
   have hz : z ∈ rest := by rw [hr]; simp
   have h1 := h.late z hz
   obtain ⟨j, hj, rfl⟩ := h.lq (y := z) (by simp [hz])
   have h2 := ht j
   have h3 : ((31 : Nat) : Int) < 1 + (ts.getD j 0 : Int) := h1
   omega
 have := h.all
 rw [hr] at this
 simp only [List.append_nil] at this
 exact ⟨hr, by rw [this]; exact h.out⟩
end
end Go.Proofs
namespace Go.Proofs
open Go.AF Go.Deep
theorem z4 (l : List (Nat → Int)) : (kE [.i64]).cells l = cI.cells (l.map (· 0)) := by
 induction l with
 | nil => rfl
 | cons g l ih => rw [gY.bR, List.map_cons, gY.bR, ih]; rfl
theorem pq.rs {α : Type} {E : gY α} {M : Mem} {A : Option Addr} {n c : Nat} {ks : List IntKind} (h : pq M A n c ks) (f : (Nat → Int) → α) (hc : ∀ l, (kE ks).cells l = E.cells (l.map f)) : ∃ l : List α, l.length = n ∧ n ≤ c ∧ n ≤ 9223372036854775807 ∧ (0 < n → RS E M A c l) := by
 obtain ⟨l, rfl, h1, h2, h3, _⟩ := h
 refine ⟨l.map f, by simp, h1, Nat.le_trans h2 (by decide), fun h0 => ⟨?_, by simpa using h1⟩⟩
 rw [← hc]
 exact h3 h0
end Go.Proofs
namespace Go.Proofs
open Go.AF
set_option maxRecDepth 100000
set_option maxHeartbeats 1000000
attribute [local irreducible] bG dz fN dU aE fL aB bW bq aW bD aX
section
variable {R : Mem} {L L' L2 : List HP} {M : Mem} {K : Value → Mem → Prop} {Kp : List PanicEntry → Mem → Prop} {pa : PA} {p : cR} {dr : Value} {b : Nat} {x : Wd} {g : Int}
theorem tN {d : fU} {y : Wd} {kp : Bool} (h : Hp R L M) [o : xU b L pa p x L'] (hp : lX R pa p) (uO : ∃ f c d, dr = .func f c d) (he : exec p x g d = some (y, kp)) (ha : asks p { x with ready := [] } g = none)
  (k : ∀ R' A c M', R.le R' → RS cI R' A c y.ready → Hp R' (aM (b9 pa p) b y :: L') M' → K (.agg #[.bool kp, .slice A y.ready.length c]) M') :
  ae Try.prog 9 #[.pointer (some ⟨b, 0, none⟩), .int .i64 g, dr] M K Kp :=
 B4 h hp uO he (by rw [ha]) k
end
def p0 : cR := ⟨[[⟨20, 0, 0, 0⟩, ⟨10, 0, 0, 0⟩]], [], 0, []⟩
def Mr : Wd × Bool := (exec p0 (Wd.new p0) 0 (.num 0)).getD (Wd.new p0, false)
def IP : Wd × Bool := (exec p0 Mr.1 0 (.num 0)).getD (Wd.new p0, false)
theorem F4 : exec p0 (Wd.new p0) 0 (.num 0) = some (Mr.1, true) := by kernel_rfl
theorem F5 : exec p0 Mr.1 0 (.num 0) = some (IP.1, false) := by kernel_rfl
section
variable {R : Mem} {L L' : List HP} {M : Mem} {K : Value → Mem → Prop} {Kp : List PanicEntry → Mem → Prop}
theorem wG (h : Hp R L M) (k : ∀ R' M', R.le R' → Hp R' L M' → K (.bool true) M') : ae Try.prog 6 #[] M K Kp := by
 refine jI ?_
 refine aj h ?_
 clear h; intro k1 M h
 refine aj h ?_
 clear h; intro k3 M h
 have h1 := (h.pt k1).j6 (E := zF) (l := [⟨20, 0, 0, 0⟩, ⟨10, 0, 0, 0⟩]) rfl
 obtain ⟨R1, Ms, pI, h2⟩ := h1.iX (some ⟨k1, 0, none⟩)
 have h3 := h2.j6 (E := Jn) (l := [(some ⟨k1, 0, none⟩, 2, 2)]) rfl
 obtain ⟨R2, wH, Ek, h4⟩ := h3.iX (some ⟨k3, 0, none⟩)
 clear h h1 h2 h3
 have hp : lX R2 ⟨some ⟨k3, 0, none⟩, 1, none, 0, none, 0⟩ p0 := ⟨⟨_, Ek, rfl, fun i t f a b => by
  match i, a, b with
  | 0, a, b => simp at a; cases b; subst a; exact ⟨pI.le wH, rfl⟩
  | i + 1, a, b => simp at a⟩, RS.nil _ _⟩
 have hle : R.le R2 := Mem.le_trans Ms wH
 refine tD (p := p0) (pa := ⟨some ⟨k3, 0, none⟩, 1, none, 0, none, 0⟩) h4 (RS.nil _ _) (by decide) (by decide) ?_
 clear h4
 intro b M h
 refine sW (ai ?_)
 refine tN h hp ⟨_, _, _, rfl⟩ F4 (by kernel_rfl) ?_
 clear h
 intro R3 A1 c1 M z5 P9 h
 refine ⟨_, _, _, _, rfl, ?_⟩
 refine tN h (hp.le z5) ⟨_, _, _, rfl⟩ F5 (by kernel_rfl) ?_
 clear h
 intro R4 A2 c2 M DP Qa h
 refine ⟨_, _, _, _, rfl, ?_⟩
 repeat (first|(refine aj h ?_;clear h;intro kb M h)|(refine ak h ?_;clear h;intro M h)|refine St.to h ?_|(apply Exists.intro;(repeat apply Exists.intro);refine And.intro rfl ?_)|refine aq ?_|refine af ?_|refine ai ?_)
 refine zL h ?_
 refine ⟨_, _, rfl, ?_⟩
 have e2 : IP.1.out = [0] := by kernel_rfl
 refine tC h (by rw [e2]; decide) ?_
 clear h
 intro A c M h
 refine bu ?_
 refine vv h (af ?_)
 refine vv h ?_
 refine af ?_
 have e1 : (IP.1.end_ == 1) = true := by kernel_rfl
 rw [e2] at h
 rw [e1, e2]
 refine af (Be (by rfl) ?_)
 refine ⟨by omega, by decide, ?_⟩
 obtain ⟨bo, rfl⟩ := h.bO (A := A) (by decide) (by decide)
 refine bh ?_
 refine bl (Src.at (h.src (A := some ⟨bo, 0, none⟩)) h (i := 0) (j := 0) rfl rfl (by simp [cI])) ?_
 refine Be (by rfl) ?_
 have e4 : IP.1.gs.length = 1 := by kernel_rfl
 refine ux h (by omega) (by omega) ?_
 have e3 : (aa IP.1 0).st = 4 := by kernel_rfl
 rw [e3]
 exact gN (k _ _ (Mem.le_trans hle (Mem.le_trans z5 DP)) (h.sub eX))
end
theorem yZ : bt Try.prog 32 31 4 32 [.int .i64 0, .int .i64 0, .int .i64 0, .int .i64 0] := bt.mk' (zv := .agg #[.int .i64 0, .int .i64 0, .int .i64 0, .int .i64 0]) (by kernel_rfl) (by kernel_rfl) rfl (by omega)
theorem uH {A : Option Addr} {b o : Nat} {G : Nat → Nat → Prop} (e : A = some ⟨b, o, none⟩) (g : G b o) : aB A G := by subst e; exact bh g
def Ev (v : Int) : Nat := (IntKind.wrap .i64 (((Nat.bitwise and (BitVec.ofInt IntKind.i64.bits v).toNat (BitVec.ofInt IntKind.i64.bits 255).toNat) : Nat) : Int)).toNat % 30
theorem od (v : Int) : IntKind.wrap .i64 (1 + Int.tmod (IntKind.wrap .i64 (((Nat.bitwise and (BitVec.ofInt IntKind.i64.bits v).toNat (BitVec.ofInt IntKind.i64.bits 255).toNat) : Nat) : Int)) 30) = 1 + (Ev v : Int) ∧ Ev v < 30 := by
 obtain ⟨q, hq, yH⟩ := mask (x := v) (y := 255) (m := 255) rfl (by omega)
 unfold Ev
 rw [hq, Int.toNat_natCast, show (30 : Int) = ((30 : Nat) : Int) from rfl, ← Int.ofNat_tmod]
 exact ⟨cG (by omega) (by omega), by omega⟩
def Aj (l : List Int) : List Nat := (l.take 20).map Ev
theorem uI (l : List Int) : (Aj l).length = min 20 l.length := by simp [Aj]
theorem Co (l : List Int) (j : Nat) : (Aj l).getD j 0 < 30 := by
 rw [List.getD_eq_getElem?_getD]
 cases h : (Aj l)[j]? with
 | none => simp
 | some t =>
  obtain ⟨v, _, rfl⟩ := List.mem_map.1 (List.mem_of_getElem? h)
  exact (od v).2
theorem F6 {l : List Int} {j : Nat} {v : Int} (hj : j < 20) (h : l[j]? = some v) : (Aj l).getD j 0 = Ev v := by
 rw [List.getD_eq_getElem?_getD]
 simp [Aj, List.getElem?_take, hj, h]
section
variable {R : Mem} {L L' : List HP} {M : Mem} {K : Value → Mem → Prop} {Kp : List PanicEntry → Mem → Prop} {pa : PA} {p : cR} {x : Wd} {b : Nat} {g : Int}
theorem lu {dr : Value} {r : Out Wd} {rest : Bool} (h : Hp R (aM (b9 pa p) b x :: L) M) (hp : lX R pa p) (uO : ∃ f c d, dr = .func f c d) (he : gG p x g (.num 0) = some (r, rest)) (ha : asks p { x with ready := [] } g = none) (ye : ∀ l y, r ≠ .e7 l y)
  (k : ∀ R' v M', R.le R' → Hp R' (aM (b9 pa p) b r.fin :: L) M' → (∃ t A n c, v = .agg #[.bool t, .slice A n c]) → K v M') :
  ae Try.prog 9 #[.pointer (some ⟨b, 0, none⟩), .int .i64 g, dr] M K Kp := by
 refine oU (b := b) (L2 := L) h hp uO he (by rw [ha]) ?_
 cases r with
 | on y => exact fun R' A c M' h1 h2 h3 => k R' _ M' h1 h3 ⟨_, _, _, _, rfl⟩
 | cT n y => exact fun R' A c M' h1 h2 h3 => k R' _ M' h1 h3 ⟨_, _, _, _, rfl⟩
 | e7 l y => exact absurd rfl (ye l y)
end
section
variable {M : Mem} {K : Value → Mem → Prop} {Kp : List PanicEntry → Mem → Prop}
theorem rV {B : Option Addr} {m cb : Nat} (hB : pq M B m cb [.i64]) (k : ∀ M', iS [] M M' → K (.bool true) M') : ae Try.prog 5 #[.slice B m cb] M K Kp := by
 refine gf ?_
 obtain ⟨l, Kg, _, _, hl⟩ := pq.rs (E := cI) hB (· 0) z4
 subst Kg
 refine wG (Hp.start M) ?_
 intro R0 M' IQ h
 have k' : ∀ (R : Mem) (L : List HP) M', R0.le R → Hp R L M' → K (.bool true) M' := fun R L M' hle h => k M' (jv.EW (fun b o hb => h.le b o (hle b o (IQ b o hb))) [])
 clear k
 refine j4 (ai ?_)
 have Nx : 0 < l.length → RS cI R0 B cb l := fun hp => (hl hp).le IQ
 clear hl
 have Qb : (if (20 : Int) < ((l.length : Nat) : Int) then (20 : Int) else ((l.length : Nat) : Int)) = (((Aj l).length : Nat) : Int) := by rw [uI]; split <;> omega
 simp only [Qb]
 have uJ : (Aj l).length ≤ 20 := by rw [uI]; omega
 have Md : (Aj l).length ≤ l.length := by rw [uI]; omega
 have hlt := Co l
 have Ag : ∀ (j : Nat) v, j < (Aj l).length → l[j]? = some v → (Aj l).getD j 0 = Ev v := fun j v hj hv => F6 (by omega) hv
 generalize Qc : Aj l = ts at uJ Md hlt Ag
 refine aj h ?_
 clear h; intro k4 M h
 replace h := h.j6 (E := zF) (l := []) rfl
 refine ⟨fun d vs M => ∃ (j : Nat) (A : Option Addr) (c : Nat), vs = [.slice A (fq ts j).length c, .int .i64 (j : Int)] ∧ d = ts.length - j ∧ j ≤ ts.length ∧ Hp R0 [dm zF 31 A c (fq ts j)] M, ⟨_, 0, _, _, rfl, rfl, by omega, h⟩, ?_⟩
 clear h
 rintro d _ A n c ii M ⟨j, A1, c1, he, hd, hj, h⟩
 simp only [List.cons.injEq, Value.slice.injEq, Value.int.injEq, and_true, true_and] at he
 obtain ⟨⟨rfl, rfl, rfl⟩, rfl⟩ := he
 have hml := dS ts j
 refine aG.2 ⟨fun DQ => ?_, fun hge => ?_⟩
 ·obtain ⟨v, hv⟩ := aP (l := l) (i := j) (by omega)
  have hr := Nx (by omega)
  obtain ⟨b0, o0, hb⟩ := hr.some (by omega) (by decide)
  rw [hb] at hr
  refine ⟨by omega, by omega, uH hb ?_⟩
  refine bl (Src.at hr.src h hv (j := 0) rfl (by simp [cI])) ⟨by decide, ?_⟩
  rw [(od v).1]
  have e1 : IntKind.wrap .i64 (1 + (Ev v : Int) + IntKind.wrap .i64 (1000 * (j : Int))) = jo (ts.getD j 0) j := by
   have := (od v).2
   rw [Ag j v (by omega) hv, show IntKind.wrap .i64 (1000 * (j : Int)) = 1000 * (j : Int) from cG (by omega) (by omega), cG (by omega) (by omega)]; rfl
  rw [e1]
  refine aj h ?_
  clear h; intro iw M h
  refine h.vR (A := A) yZ [⟨1, 1, jo (ts.getD j 0) j, 0⟩, ⟨11, 1, 1, 2⟩] rfl rfl rfl (by simp [hml]; omega) ?_
  clear h; intro A' c' M h
  refine bu ⟨ts.length - (j + 1), by omega, j + 1, A', c', ?_, rfl, by omega, h⟩
  rw [bk (by omega), show (fq ts (j + 1)).length = (fq ts j).length + 2 from by rw [dS, dS]; omega]
 have Gk : j = ts.length := by omega
 subst Gk
 refine aj h ?_
 clear h; intro rY M h
 have ec : (((fq ts ts.length).length : Nat) : Int) = 2 * (ts.length : Int) := by rw [hml]; omega
 rw [ec] at h
 refine h.vR (A := A) yZ [⟨12, 0, 0, 0⟩, ⟨7, 2 * (ts.length : Int), 0, 0⟩] rfl rfl rfl (by simp [hml]; omega) ?_
 clear h; intro A4 c4 M h
 refine bu ?_
 refine aj h ?_
 clear h; intro qT M h
 refine aj h ?_
 clear h; intro og M h
 obtain ⟨R1, l1, r1, h⟩ := ((h.pt qT).j6 (E := zF) (l := mU) rfl).iX (some ⟨qT, 0, none⟩)
 obtain ⟨R2, l2, r2, h⟩ := ((h.pt og).j6 (E := Jn) (l := [(A4, (fq ts ts.length).length + 2, c4), (some ⟨qT, 0, none⟩, 10, 10)]) rfl).iX (some ⟨og, 0, none⟩)
 obtain ⟨R3, l3, r3, h⟩ := h.iX A4
 have hp : lX R3 ⟨some ⟨og, 0, none⟩, 2, none, 0, none, 0⟩ (ck ts) := by
  refine ⟨⟨_, r2.le l3, rfl, fun i t f a b => ?_⟩, RS.nil _ _⟩
  match i, a, b with
  | 0, a, b => cases a; cases b; exact ⟨r3, by simp⟩
  | 1, a, b => cases a; cases b; exact ⟨r1.le (Mem.le_trans l2 l3), rfl⟩
  | i + 2, a, b => simp at a
 have hok := jq uJ
 have Ny : R0.le R3 := Mem.le_trans l1 (Mem.le_trans l2 l3)
 clear r1 r2 r3 l1 l2 l3 hd hge ec hml
 refine tD (p := ck ts) (pa := ⟨some ⟨og, 0, none⟩, 2, none, 0, none, 0⟩) h (RS.nil _ _) (show (0 : Nat) ≤ 1000000 by decide) (show (0 : Int) ≤ 0 ∧ (0 : Int) ≤ 1000000 by decide) ?_
 clear h; intro b M h
 refine sW ?_
 have Qd : IntKind.wrap .i64 (2 * ((ts.length : Nat) : Int)) = ((2 * ts.length : Nat) : Int) := by rw [cG (by omega) (by omega)]; omega
 rw [Qd]
 refine ⟨fun d vs M => ∃ (j : Nat) (x : Wd) (R : Mem), vs = [.int .i64 (j : Int)] ∧ d = 2 * ts.length - j ∧ j ≤ 2 * ts.length ∧ R3.le R ∧ WV (ck ts) x ∧ (∃ r, ({ x with ready := [] } : Wd) = wD ts (j / 2) (j : Int) r ∧ (j % 2 = 1 → r.getD 1 0 = jo (ts.getD (j / 2) 0) (j / 2))) ∧ Hp R [aM (b9 ⟨some ⟨og, 0, none⟩, 2, none, 0, none, 0⟩ (ck ts)) b x] M,
  ⟨_, 0, Wd.new (ck ts), R3, rfl, rfl, by omega, Mem.le_refl _, FX hok, ⟨_, rfl, fun e => by omega⟩, h⟩, ?_⟩
 clear h
 rintro d _ ii M ⟨j, x, R, he, hd, hj, hle, hw, ⟨r, hr, pI⟩, h⟩
 simp only [List.cons.injEq, Value.int.injEq, and_true, true_and] at he
 subst he
 refine aG.2 ⟨fun DQ => ?_, fun hge => ?_⟩
 ·have hst : ∃ r2, DN (ck ts) x 0 (wD ts ((j + 1) / 2) ((j + 1 : Nat) : Int) r2) ∧ ((j + 1) % 2 = 1 → r2.getD 1 0 = jo (ts.getD ((j + 1) / 2) 0) ((j + 1) / 2)) := by
   rcases Nat.mod_two_eq_zero_or_one j with hm | hm
   ·have e1 : (j : Int) = 2 * ((j / 2 : Nat) : Int) := by omega
    rw [e1] at hr
    obtain ⟨r1, a, b⟩ := F0 hw uJ (by omega) hr
    rw [show (j + 1) / 2 = j / 2 from by omega, show ((j + 1 : Nat) : Int) = 2 * ((j / 2 : Nat) : Int) + 1 from by omega]
    exact ⟨r1, b, fun _ => a⟩
   ·have e1 : (j : Int) = 2 * ((j / 2 : Nat) : Int) + 1 := by omega
    rw [e1] at hr
    obtain ⟨r1, a⟩ := F1 hw uJ (by omega) hr (pI hm)
    rw [show (j + 1) / 2 = j / 2 + 1 from by omega, show ((j + 1 : Nat) : Int) = 2 * ((j / 2 + 1 : Nat) : Int) from by omega]
    exact ⟨r1, a, fun e => by omega⟩
  obtain ⟨r2, ⟨rr, rest, q1, q2, q3, q4, q5⟩, Ek⟩ := hst
  refine lu h (hp.le hle) ⟨_, _, _, rfl⟩ q1 q2 q4 ?_
  clear h; rintro R' _ M' wH h ⟨t, A, n, c, rfl⟩
  exact ⟨_, _, _, _, rfl, 2 * ts.length - (j + 1), by omega, j + 1, rr.fin, R', by rw [bk (by omega)], rfl, by omega, Mem.le_trans hle wH, q3, ⟨r2, q5, Ek⟩, h⟩
 have Gk : j = 2 * ts.length := by omega
 subst Gk
 rw [show 2 * ts.length / 2 = ts.length from by omega] at hr
 clear pI hlt hge hd hj
 have hlt := Co l
 rw [Qc] at hlt
 have IF : ({ x with ready := [] } : Wd) = l9 ts ⟨1, [⟨0, ((2 * ts.length : Nat) : Int), r, 0⟩], .zero⟩ 0 (fQ ts 0) := by
  rw [hr]; unfold wD l9; rw [DO]; rfl
 generalize (⟨1, [⟨0, ((2 * ts.length : Nat) : Int), r, 0⟩], .zero⟩ : eB) = mg at IF
 clear hr
 refine ⟨fun d vs M => ∃ (q : Nat) (x : Wd) (R : Mem), vs = [.int .i64 ((q + 1 : Nat) : Int)] ∧ d = ts.length - q ∧ q ≤ ts.length ∧ R3.le R ∧ WV (ck ts) x ∧ ({ x with ready := [] } : Wd) = l9 ts mg q (fQ ts q) ∧ Hp R [aM (b9 ⟨some ⟨og, 0, none⟩, 2, none, 0, none, 0⟩ (ck ts)) b x] M,
  ⟨_, 0, x, R, rfl, rfl, by omega, hle, hw, IF, h⟩, ?_⟩
 clear h IF hw hle x R
 rintro d _ ii M ⟨q, x, R, he, hd, hq, hle, hw, hr, h⟩
 simp only [List.cons.injEq, Value.int.injEq, and_true, true_and] at he
 subst he
 refine aG.2 ⟨fun DQ => ?_, fun hge => ?_⟩
 ·refine ⟨fun d2 vs M => ∃ (kk : Nat) (x : Wd) (R : Mem), vs = [.int .i64 (kk : Int)] ∧ d2 = 300 - kk ∧ kk ≤ 300 ∧ R3.le R ∧ WV (ck ts) x ∧ ({ x with ready := [] } : Wd) = kQ ts mg q kk ∧ Hp R [aM (b9 ⟨some ⟨og, 0, none⟩, 2, none, 0, none, 0⟩ (ck ts)) b x] M,
   ⟨_, 0, x, R, rfl, rfl, by omega, hle, hw, by rw [hr]; unfold kQ; rw [if_pos (by omega)]; rfl, h⟩, ?_⟩
  clear h hr hw hle x R
  rintro d2 _ ii M ⟨kk, x, R, he, FU, hk, hle, hw, hr, h⟩
  simp only [List.cons.injEq, Value.int.injEq, and_true, true_and] at he
  subst he
  refine aG.2 ⟨fun Mt => ?_, fun Mu => ?_⟩
  ·obtain ⟨rr, rest, q1, q2, q3, q4, q5⟩ := IJ hw uJ hlt (by omega) hr
   refine lu (g := ((q + 1 : Nat) : Int)) h (hp.le hle) ⟨_, _, _, rfl⟩ (by rw [show ((q + 1 : Nat) : Int) = (q : Int) + 1 from by omega]; exact q1) (by rw [show ((q + 1 : Nat) : Int) = (q : Int) + 1 from by omega]; exact q2) q4 ?_
   clear h; rintro R' _ M' wH h ⟨t, A, n, c, rfl⟩
   exact ⟨_, _, _, _, rfl, 300 - (kk + 1), by omega, kk + 1, rr.fin, R', by rw [bk (by omega)], rfl, by omega, Mem.le_trans hle wH, q3, q5, h⟩
  ·have Mv : kk = 300 := by omega
   subst Mv
   refine ⟨ts.length - (q + 1), by omega, q + 1, x, R, by rw [bk (by omega)], rfl, by omega, hle, hw, ?_, h⟩
   rw [hr]; unfold kQ; rw [if_neg (by omega)]
 have Nz : q = ts.length := by omega
 have hC := uP.start uJ hw Nz hr
 clear hr Nz hge hd hq q hw
 refine ⟨fun d vs M => ∃ (c : Nat) (x : Wd) (done rest : List ay) (R : Mem), vs = [.int .i64 (c : Int)] ∧ d = 31 - c ∧ c ≤ 31 ∧ R3.le R ∧ uP ts c done [] rest x ∧ Hp R [aM (b9 ⟨some ⟨og, 0, none⟩, 2, none, 0, none, 0⟩ (ck ts)) b x] M,
  ⟨_, 0, x, [], mV ts, R, rfl, rfl, by omega, hle, hC, h⟩, ?_⟩
 clear h hC hle x R
 rintro d _ ii M ⟨c, x, done, rest, R, he, hd, hc, hle, hC, h⟩
 simp only [List.cons.injEq, Value.int.injEq, and_true, true_and] at he
 subst he
 refine aG.2 ⟨fun DQ => ?_, fun hge => ?_⟩
 ·obtain ⟨cur, rest', hrd, IS⟩ := hC.tick uJ (by omega)
  refine ya (b := b) h (by have := hC.wv.wm; omega) (yW hC.wv).1 ?_
  clear h; intro R' A cA M wH rA h
  rw [hrd] at rA ⊢
  have Ej : cur.length ≤ 20 := by
   have h1 := congrArg List.length IS.all
   rw [(iH ts).length_eq] at h1
   simp only [List.length_map, List.length_range, List.length_append] at h1
   omega
  refine bu ?_
  refine ⟨fun d2 vs M => ∃ (i : Nat) (y : Wd) (R2 : Mem), vs = [.int .i64 (i : Int)] ∧ d2 = cur.length - i ∧ i ≤ cur.length ∧ R'.le R2 ∧ uP ts (c + 1) (done ++ cur.take i) (cur.drop i) rest' y ∧ Hp R2 [aM (b9 ⟨some ⟨og, 0, none⟩, 2, none, 0, none, 0⟩ (ck ts)) b y] M,
   ⟨_, 0, x.tick, R', rfl, rfl, by omega, Mem.le_refl _, by simpa using IS, h⟩, ?_⟩
  clear h IS hC
  rintro d2 _ ii M ⟨i, y, R2, he, FU, hi, z5, hC, h⟩
  simp only [List.cons.injEq, Value.int.injEq, and_true, true_and] at he
  subst he
  rw [List.length_map]
  have F7 := Mem.le_trans hle (Mem.le_trans wH z5)
  refine aG.2 ⟨fun Mt => ?_, fun Mu => ?_⟩
  ·obtain ⟨z, hz⟩ := aP (l := cur) (i := i) (by omega)
   have Qe : (cur.map (·.id))[i]? = some z.id := by rw [List.getElem?_map, hz]; rfl
   have Mw := rA.le z5
   obtain ⟨b1, o1, pO⟩ := Mw.some (by rw [List.length_map]; omega) (by decide)
   rw [pO] at Mw
   refine ⟨by omega, by omega, uH pO ?_⟩
   refine bl (Src.at Mw.src h Qe (j := 0) rfl (by simp [cI])) ?_
   have uO : cur.drop i = z :: cur.drop (i + 1) := by
    obtain ⟨hh, e⟩ := List.getElem?_eq_some_iff.1 hz
    rw [List.drop_eq_getElem_cons hh, e]
   have NA : cur.take (i + 1) = cur.take i ++ [z] := by
    obtain ⟨hh, e⟩ := List.getElem?_eq_some_iff.1 hz
    rw [List.take_add_one, hz]; rfl
   rw [uO] at hC
   obtain ⟨r1, s1, a1, a2, a3, NB, FL⟩ := hC.emit uJ
   rw [List.append_assoc, ← NA] at NB
   refine lu h (hp.le F7) ⟨_, _, _, rfl⟩ a1 a2 a3 ?_
   clear h; rintro R4 _ M' DP h ⟨t, A', n, c', rfl⟩
   refine ⟨_, _, _, _, rfl, ?_⟩
   obtain ⟨r2, s2, Qf, b2, b3, IS⟩ := NB.ret uJ (y := z) (by rw [NA]; simp) FL
   refine lu h (hp.le (Mem.le_trans F7 DP)) ⟨_, _, _, rfl⟩ Qf b2 b3 ?_
   clear h; rintro R5 _ M' Mx h ⟨t, A', n, c', rfl⟩
   exact ⟨_, _, _, _, rfl, cur.length - (i + 1), by omega, i + 1, r2.fin, R5, by rw [bk (by omega)], rfl, by omega, Mem.le_trans z5 (Mem.le_trans DP Mx), IS, h⟩
  ·have ei : i = cur.length := by omega
   subst ei
   rw [List.take_length, List.drop_length] at hC
   exact ⟨31 - (c + 1), by omega, c + 1, y, _, _, R2, by rw [bk (by omega)], rfl, by omega, F7, hC, h⟩
 have My : c = 31 := by omega
 subst My
 obtain ⟨IU, hout⟩ := hC.fin hlt
 subst IU
 have D4 := (iH ts).length_eq
 rw [List.length_map, List.length_range] at D4
 have EX : x.out.length = ts.length := by rw [hout, List.length_map, D4]
 refine tC (b := b) h (by omega) ?_
 clear h; intro A cA M h
 refine bu ?_
 have IV : ∀ (i : Nat) (y : ay), (mV ts)[i]? = some y → ∃ j v, j < ts.length ∧ l[j]? = some v ∧ y.seq = (j : Int) ∧ y.t = 1 + (Ev v : Int) := by
  intro i y hy
  obtain ⟨j, hj, rfl⟩ := iI (List.mem_of_getElem? hy)
  obtain ⟨v, hv⟩ := aP (l := l) (i := j) (by omega)
  exact ⟨j, v, hj, hv, rfl, by show 1 + (ts.getD j 0 : Int) = _; rw [Ag j v hj hv]⟩
 have Ju := yY ts
 have ye := oc ts
 have IW : ∀ (i : Nat) (y z : ay), (mV ts)[i]? = some y → (mV ts)[i + 1]? = some z → y.t ≤ z.t ∧ (y.t = z.t → y.seq < z.seq) := by
  intro i y z hy hz
  obtain ⟨h1, e1⟩ := List.getElem?_eq_some_iff.1 hy
  obtain ⟨h2, e2⟩ := List.getElem?_eq_some_iff.1 hz
  have hb := List.pairwise_iff_getElem.1 Ju i (i + 1) h1 h2 (by omega)
  rw [e1, e2] at hb
  have hne : y.id ≠ z.id := by
   have := List.pairwise_iff_getElem.1 ye i (i + 1) (by rw [List.length_map]; exact h1) (by rw [List.length_map]; exact h2) (by omega)
   rw [List.getElem_map, List.getElem_map, e1, e2] at this
   exact this
  obtain ⟨a, _, ha⟩ := iI (List.mem_of_getElem? hy)
  obtain ⟨c, _, hc⟩ := iI (List.mem_of_getElem? hz)
  have ia : y.id = y.seq + 1 := by rw [ha]; rfl
  have ic : z.id = z.seq + 1 := by rw [hc]; rfl
  unfold ay.before at hb
  simp only [Bool.or_eq_false_iff, decide_eq_false_iff_not, Bool.and_eq_false_iff, beq_eq_false_iff_ne] at hb
  refine ⟨by omega, fun e => ?_⟩
  rcases hb.2 with h3 | h3
  ·exact absurd e.symm h3
  ·omega
 rw [hout] at h EX
 have Mz : ∀ (i : Nat) (y : ay), (mV ts)[i]? = some y → ((mV ts).map (·.seq))[i]? = some y.seq := fun i y hy => by rw [List.getElem?_map, hy]; rfl
 rw [hout, List.length_map, D4]
 have MA : (mV ts).length ≤ 20 := by omega
 generalize hS : mV ts = S at h IV IW Mz D4 MA EX
 clear Ju ye
 refine ⟨fun d vs M => ∃ (i : Nat) (last : Int), vs = [.int .i64 last, .int .i64 (i : Int)] ∧ d = ts.length - i ∧ i ≤ ts.length ∧ (i = 0 → last = -1) ∧ (∀ (k : Nat) (y : ay), i = k + 1 → S[k]? = some y → last = y.t) ∧ Hp R [dm cI 2 A cA (S.map (·.seq)), aM (b9 ⟨some ⟨og, 0, none⟩, 2, none, 0, none, 0⟩ (ck ts)) b x] M,
  ⟨_, 0, -1, rfl, rfl, by omega, fun _ => rfl, (fun k y e => by omega), h⟩, ?_⟩
 clear h
 rintro d _ NC ii M ⟨i, last, he, hd, hi, F8, vT, h⟩
 simp only [List.cons.injEq, Value.int.injEq, and_true, true_and] at he
 obtain ⟨rfl, rfl⟩ := he
 refine aG.2 ⟨fun DQ => ?_, fun hge => ?_⟩
 ·obtain ⟨y, hy⟩ := aP (l := S) (i := i) (by omega)
  obtain ⟨j, v, hj, hv, hys, Qg⟩ := IV i y hy
  have hA : Src R [dm cI 2 A cA (S.map (·.seq)), aM (b9 ⟨some ⟨og, 0, none⟩, 2, none, 0, none, 0⟩ (ck ts)) b x] A (cI.cells (S.map (·.seq))) := Src.row (A := A)
  obtain ⟨bA, oA, rfl⟩ := hA.l7 h (by omega) (by decide)
  refine ⟨by omega, by omega, bh ?_⟩
  refine bl (hA.at h (Mz i y hy) (j := 0) rfl (by simp [cI])) ?_
  have hr := (Nx (by omega)).le (Mem.le_trans Ny hle)
  obtain ⟨b0, o0, hb⟩ := hr.some (by omega) (by decide)
  rw [hb] at hr
  rw [hys]
  refine ⟨by omega, by omega, uH hb ?_⟩
  refine bl (Src.at hr.src h hv (j := 0) rfl (by simp [cI])) ⟨by decide, ?_⟩
  rw [(od v).1, ← Qg]
  have Qh : (0 : Int) < y.t := by omega
  have fin : ∃ k, k < d ∧ ∃ (i' : Nat) (last : Int), [Value.int .i64 y.t, .int .i64 (IntKind.wrap .i64 ((i : Int) + 1))] = [.int .i64 last, .int .i64 (i' : Int)] ∧ k = ts.length - i' ∧ i' ≤ ts.length ∧ (i' = 0 → last = -1) ∧ (∀ (k : Nat) (y : ay), i' = k + 1 → S[k]? = some y → last = y.t) ∧ Hp R [dm cI 2 (some ⟨bA, oA, none⟩) cA (S.map (·.seq)), aM (b9 ⟨some ⟨og, 0, none⟩, 2, none, 0, none, 0⟩ (ck ts)) b x] M :=
   ⟨ts.length - (i + 1), by omega, i + 1, y.t, by rw [bk (by omega)], rfl, by omega, (fun e => by omega), (fun k z e hz => by
    have : k = i := by omega
    subst this
    rw [hy] at hz; cases hz; rfl), h⟩
  cases i with
  | zero =>
   have e := F8 rfl
   subst e
   exact aG.2 ⟨fun hh => by omega, fun _ => aG.2 ⟨fun hh => by omega, fun _ => fin⟩⟩
  | succ i =>
   obtain ⟨z, hz⟩ := aP (l := S) (i := i) (by omega)
   have e := vT i z rfl hz
   subst e
   obtain ⟨o1, o2⟩ := IW i z y hz hy
   refine aG.2 ⟨fun hh => by omega, fun _ => aG.2 ⟨fun _ => cL.2 ⟨fun heq => ?_, fun _ => fin⟩, fun _ => fin⟩⟩
   rw [cG (by omega) (by omega)]
   refine ⟨by omega, by omega, bh ?_⟩
   refine bl (hA.at h (Mz i z hz) (j := 0) rfl (by simp [cI])) ?_
   have h3 := o2 heq.symm
   exact aG.2 ⟨fun hh => by omega, fun _ => fin⟩
 refine cL.2 ⟨fun _ => ?_, fun hne => absurd rfl hne⟩
 refine rz (b := b) h (by have := hC.wv.wm; omega) ?_
 clear h; intro A2 c2 M h
 have Jp := hC.Js
 rw [Jp] at h ⊢
 refine bu ?_
 exact k' R _ _ (Mem.le_trans Ny hle) h
end
end Go.Proofs
