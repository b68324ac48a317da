/- A part of proofs about one program. -/
import Derived.Test.YtnnlgknlialpmaaGreatZTraceSeenLib
set_option linter.unusedVariables false
namespace Go.AF
abbrev HP := Mem → Prop
theorem Mem.fP {A B : Mem} (h : A.dj B) : A.union B = B.union A := by
 funext b; unfold Mem.union; rcases h b with h | h <;> rw [h]
 ·cases B b <;> rfl
 ·cases A b <;> rfl
theorem Mem.qN {A B : Mem} (h : A.dj B) : B.dj A := fun b => (h b).symm
theorem Mem.uv (A B : Mem) : A.le (A.union B) := fun b o h => Mem.union_left h
theorem Mem.mT {A B : Mem} (h : A.dj B) : B.le (A.union B) := by rw [Mem.fP h]; exact Mem.uv B A
theorem Mem.le_refl (A : Mem) : A.le A := fun _ _ h => h
theorem Mem.le_trans {A B D : Mem} (h : A.le B) (g : B.le D) : A.le D := fun b o x => g b o (h b o x)
theorem Mem.pI (A : Mem) : Mem.empty.union A = A := by funext b; rfl
theorem Mem.EA (A : Mem) : A.union Mem.empty = A := by funext b; unfold Mem.union Mem.empty; cases A b <;> rfl
theorem Mem.Mj (A : Mem) : A.dj Mem.empty := fun _ => .inr rfl
theorem Mem.zh (A : Mem) : Mem.empty.dj A := fun _ => .inl rfl
def b6 : List HP → HP
 | [], _ => True
 | P :: l, M => ∃ A B : Mem, M = A.union B ∧ A.dj B ∧ P A ∧ b6 l B
def Mem.sub (M A : Mem) : Mem := fun b => match A b with | some _ => none | none => M b
theorem Mem.Gy (A M : Mem) : A.dj (M.sub A) := fun b => by
 unfold Mem.sub; cases h : A b <;> simp
theorem Mem.vY {A M : Mem} (h : A.le M) : A.union (M.sub A) = M := by
 funext b; unfold Mem.union Mem.sub
 cases hb : A b with
 | none => rfl
 | some o => rw [h b o hb]
theorem b6.mono : ∀ {l : List HP} {A M : Mem}, b6 l A → A.le M → b6 l M
 | [], _, _, _, _ => trivial
 | P :: l, A, M, ⟨X, Y, e, hd, hp, hs⟩, hle => by
  have hX : X.le M := fun b o h => hle b o (by rw [e]; exact Mem.union_left h)
  refine ⟨X, M.sub X, (Mem.vY hX).symm, Mem.Gy X M, hp, b6.mono hs fun b o h => ?_⟩
  unfold Mem.sub
  rcases hd b with hx | hx
  ·rw [hx]; exact hle b o (by rw [e, Mem.fP hd]; exact Mem.union_left h)
  ·rw [h] at hx; cases hx
theorem b6.swap {P Q : HP} {l : List HP} {M : Mem} (h : b6 (P :: Q :: l) M) : b6 (Q :: P :: l) M := by
 obtain ⟨A, B, rfl, h1, hP, A', B', rfl, h2, hQ, hl⟩ := h
 obtain ⟨h3, h4⟩ := Mem.gv.1 h1
 refine ⟨A', A.union B', ?_, Mem.gv.2 ⟨Mem.qN h3, h2⟩, hQ, A, B', rfl, h4, hP, hl⟩
 rw [← Mem.eT, Mem.fP h3, Mem.eT]
theorem b6.drop {P : HP} {l : List HP} {M : Mem} (h : b6 (P :: l) M) : b6 l M := by
 obtain ⟨A, B, rfl, h1, hP, hl⟩ := h
 exact hl.mono (Mem.mT h1)
theorem b6.tail {P : HP} {l l' : List HP} {M : Mem} (h : b6 (P :: l) M) (f : ∀ A, b6 l A → b6 l' A) : b6 (P :: l') M := by
 obtain ⟨A, B, e, h1, hP, hl⟩ := h
 exact ⟨A, B, e, h1, hP, f _ hl⟩
theorem b6.imp {P Q : HP} {l : List HP} {M : Mem} (h : b6 (P :: l) M) (f : ∀ A, P A → Q A) : b6 (Q :: l) M := by
 obtain ⟨A, B, e, h1, hP, hl⟩ := h
 exact ⟨A, B, e, h1, f _ hP, hl⟩
theorem b6.app : ∀ {l l' : List HP} {A B : Mem}, b6 l A → b6 l' B → A.dj B → b6 (l ++ l') (A.union B)
 | [], l', A, B, _, h, hd => h.mono (Mem.mT hd)
 | P :: l, l', A, B, ⟨X, Y, e, h1, hp, hs⟩, h, hd => by
  subst e
  obtain ⟨d1, d2⟩ := Mem.lg.1 hd
  exact ⟨X, Y.union B, by rw [Mem.eT], Mem.gv.2 ⟨h1, d1⟩, hp, b6.app hs h d2⟩
theorem b6.split : ∀ {l l' : List HP} {M : Mem}, b6 (l ++ l') M → ∃ A B, M = A.union B ∧ A.dj B ∧ b6 l A ∧ b6 l' B
 | [], l', M, h => ⟨Mem.empty, M, (Mem.pI M).symm, Mem.zh M, trivial, h⟩
 | P :: l, l', M, ⟨X, Y, e, h1, hp, hs⟩ => by
  obtain ⟨A, B, rfl, h2, ha, hb⟩ := b6.split hs
  obtain ⟨d1, d2⟩ := Mem.gv.1 h1
  exact ⟨X.union A, B, by rw [e, Mem.eT], Mem.lg.2 ⟨d2, h2⟩, ⟨X, A, rfl, d1, hp, ha⟩, hb⟩
inductive dc : List HP → HP → List HP → Prop
 | here {P : HP} {l : List HP} : dc (P :: l) P l
 | there {P Q : HP} {l l' : List HP} : dc l P l' → dc (Q :: l) P (Q :: l')
theorem b6.pick {l l' : List HP} {P : HP} (hp : dc l P l') : ∀ {M : Mem}, b6 l M → b6 (P :: l') M := by
 induction hp with
 | here => exact fun h => h
 | there _ ih => exact fun h => (h.tail fun _ => ih).swap
theorem b6.nH {l l' : List HP} {P : HP} (hp : dc l P l') : ∀ {M : Mem}, b6 (P :: l') M → b6 l M := by
 induction hp with
 | here => exact fun h => h
 | there _ ih => exact fun h => h.swap.tail fun _ => ih
def sep (l : List HP) : HP := b6 l
def exs {α : Type} (P : α → HP) : HP := fun M => ∃ x, P x M
def fact (p : Prop) : HP := fun _ => p
def pt (b : Nat) (cs : List Value) (T : Nat) : HP := fun A => A b = some (.cells cs.toArray T (0, 0))
def ob (b : Nat) (o : Obj) : HP := fun A => A b = some o
def own (z T : Nat) (A : Option Addr) (n c : Nat) (l : List Value) : HP := fun M => ud M z T A n c l
def Hp (R : Mem) (L : List HP) : HP := fun M => ∃ B, M = R.union B ∧ R.dj B ∧ b6 L B
theorem Hp.start (R : Mem) : Hp R [] R := ⟨Mem.empty, (Mem.EA R).symm, Mem.Mj R, trivial⟩
theorem Hp.le {R : Mem} {L : List HP} {M : Mem} (h : Hp R L M) : R.le M := by obtain ⟨B, rfl, _, _⟩ := h; exact Mem.uv _ _
theorem Hp.TI {R : Mem} {L : List HP} {M : Mem} (h : Hp R L M) : nG [] R M := oE.TI (fun b o hb => h.le b o hb) []
theorem Hp.map {R : Mem} {L L' : List HP} {M : Mem} (h : Hp R L M) (f : ∀ A, b6 L A → b6 L' A) : Hp R L' M := by
 obtain ⟨B, e, h1, h2⟩ := h; exact ⟨B, e, h1, f _ h2⟩
theorem Hp.pick {R : Mem} {L L' : List HP} {P : HP} {M : Mem} (h : Hp R L M) (hp : dc L P L') : Hp R (P :: L') M := h.map fun _ => b6.pick hp
theorem Hp.nH {R : Mem} {L L' : List HP} {P : HP} {M : Mem} (h : Hp R (P :: L') M) (hp : dc L P L') : Hp R L M := h.map fun _ => b6.nH hp
theorem Hp.swap {R : Mem} {L : List HP} {P Q : HP} {M : Mem} (h : Hp R (P :: Q :: L) M) : Hp R (Q :: P :: L) M := h.map fun _ => b6.swap
theorem Hp.drop {R : Mem} {L : List HP} {P : HP} {M : Mem} (h : Hp R (P :: L) M) : Hp R L M := h.map fun _ => b6.drop
theorem Hp.imp {R : Mem} {L : List HP} {P Q : HP} {M : Mem} (h : Hp R (P :: L) M) (f : ∀ A, P A → Q A) : Hp R (Q :: L) M := h.map fun _ hs => hs.imp f
theorem Hp.de {α : Type} {R : Mem} {L : List HP} {P : α → HP} {M : Mem} : Hp R (exs P :: L) M ↔ ∃ x, Hp R (P x :: L) M := by
 constructor
 ·rintro ⟨B, e, h1, X, Y, e2, h2, ⟨x, hp⟩, hs⟩; exact ⟨x, B, e, h1, X, Y, e2, h2, hp, hs⟩
 ·rintro ⟨x, h⟩; exact h.imp fun A ha => ⟨x, ha⟩
theorem Hp.fZ {R : Mem} {L : List HP} {p : Prop} {M : Mem} : Hp R (fact p :: L) M ↔ p ∧ Hp R L M := by
 constructor
 ·intro h; exact ⟨by obtain ⟨B, e, h1, X, Y, e2, h2, hp, hs⟩ := h; exact hp, h.drop⟩
 ·rintro ⟨hp, B, e, h1, hs⟩; exact ⟨B, e, h1, Mem.empty, B, (Mem.pI B).symm, Mem.zh B, hp, hs⟩
theorem Hp.aS {R : Mem} {L l : List HP} {M : Mem} : Hp R (sep l :: L) M ↔ Hp R (l ++ L) M := by
 constructor
 ·rintro ⟨B, e, h1, X, Y, rfl, h2, hp, hs⟩; exact ⟨_, e, h1, b6.app hp hs h2⟩
 ·rintro ⟨B, e, h1, h⟩
  obtain ⟨X, Y, rfl, h2, hp, hs⟩ := b6.split h
  exact ⟨_, e, h1, X, Y, rfl, h2, hp, hs⟩
theorem Hp.fst {R : Mem} {L : List HP} {P : HP} {M : Mem} (h : Hp R (P :: L) M) : ∃ A, P A ∧ A.le M ∧ R.dj A := by
 obtain ⟨B, rfl, h1, X, Y, rfl, h2, hp, hs⟩ := h
 exact ⟨X, hp, Mem.le_trans (Mem.uv X Y) (Mem.mT h1), (Mem.gv.1 h1).1⟩
theorem Hp.zi {R : Mem} {L : List HP} {b T : Nat} {cs : List Value} {M : Mem} (h : Hp R (pt b cs T :: L) M) : M b = some (.cells cs.toArray T (0, 0)) := by
 obtain ⟨A, hp, hle, _⟩ := h.fst; exact hle _ _ hp
theorem Hp.Mk {R : Mem} {L : List HP} {b : Nat} {o : Obj} {M : Mem} (h : Hp R (ob b o :: L) M) : M b = some o := by
 obtain ⟨A, hp, hle, _⟩ := h.fst; exact hle _ _ hp
theorem Hp.ld {R : Mem} {L L' : List HP} {b T o : Nat} {cs : List Value} {M : Mem} {v : Value} (h : Hp R L M) (hp : dc L (pt b cs T) L') (hv : cs[o]? = some v) : M.ld ⟨b, o, none⟩ = some v := by
 rw [Iu (h.pick hp).zi]; simpa using hv
theorem Hp.set {R : Mem} {L : List HP} {P Q : HP} {M : Mem} {b : Nat} {o x : Obj} (h : Hp R (P :: L) M) (hb : ∀ A, P A → A b = some x) (hq : ∀ A, P A → Q (A.set b o)) : Hp R (Q :: L) (M.set b o) := by
 obtain ⟨B, rfl, h1, X, Y, rfl, h2, hp, hs⟩ := h
 have hx := hb X hp
 have hY : Y b = none := by rcases h2 b with h | h; rw [hx] at h; cases h; exact h
 have hR : R b = none := by rcases h1 b with h | h; exact h; rw [Mem.union_left hx] at h; cases h
 have hd := ta (o := o) (b := b) h2 hY
 refine ⟨(X.set b o).union Y, ?_, ?_, X.set b o, Y, rfl, hd, hq X hp, hs⟩
 ·rw [← kM, Mem.fP h1, kM, Mem.fP]
  exact ta (Mem.qN h1) hR
 ·rw [← kM]; exact Mem.qN (ta (Mem.qN h1) hR)
theorem Hp.new {R : Mem} {L : List HP} {P : HP} {M : Mem} {b : Nat} {o : Obj} (h : Hp R L M) (hb : M b = none) (hq : P (single b o)) : Hp R (P :: L) (M.set b o) := by
 obtain ⟨B, rfl, h1, hs⟩ := h
 obtain ⟨hR, hB⟩ := nD hb
 refine ⟨(single b o).union B, ?_, ?_, single b o, B, rfl, Mem.qN (kN.2 hB), hq, hs⟩
 ·rw [Mem.fP h1, kM, Mem.fP, td hB, Mem.fP (kN.2 hB)]
  exact ta (Mem.qN h1) hR
 ·exact Mem.gv.2 ⟨kN.2 hR, h1⟩
theorem Hp.put {R : Mem} {L : List HP} {M : Mem} {b o T : Nat} {v : Value} {cs : List Value} (h : Hp R (pt b cs T :: L) M) (ho : o < cs.length) : M.wr ⟨b, o, none⟩ = true ∧ Hp R (pt b (cs.set o v) T :: L) (M.put ⟨b, o, none⟩ v) := by
 refine ⟨Sq h.zi (by simpa using ho), ?_⟩
 rw [Mg h.zi]
 refine h.set (x := .cells cs.toArray T (0, 0)) (fun A ha => ha) fun A ha => ?_
 show (A.set b _) b = _
 rw [eV]; simp
class JV (l : List Value) (n : Nat) (v : Value) (l' : outParam (List Value)) : Prop where
 eq : n < l.length ∧ l' = l.set n v
instance JV.zero {x v : Value} {l : List Value} : JV (x :: l) 0 v (v :: l) := ⟨by simp⟩
instance JV.succ {x v : Value} {l l' : List Value} {n : Nat} [h : JV l n v l'] : JV (x :: l) (n + 1) v (x :: l') := ⟨by obtain ⟨h1, h2⟩ := h.eq; subst h2; simp [h1]⟩
class BJ (b o : Nat) (v : Value) (L : List HP) (L' : outParam (List HP)) : Prop where
 put : ∀ (R M : Mem), Hp R L M → M.wr ⟨b, o, none⟩ = true ∧ Hp R L' (M.put ⟨b, o, none⟩ v)
instance BJ.here {b o T : Nat} {v : Value} {cs cs' : List Value} {L : List HP} [h : JV cs o v cs'] : BJ b o v (pt b cs T :: L) (pt b cs' T :: L) :=
 ⟨fun R M hM => by obtain ⟨h1, rfl⟩ := h.eq; exact hM.put h1⟩
theorem Hp.tail {R : Mem} {P : HP} {L : List HP} {M : Mem} (h : Hp R (P :: L) M) : ∃ R', R.le R' ∧ Hp R' L M ∧ ∀ M' L', Hp R' L' M' → R'.le M' → Hp R (P :: L') M' := by
 obtain ⟨B, rfl, h1, X, Y, rfl, h2, hp, hs⟩ := h
 obtain ⟨d1, d2⟩ := Mem.gv.1 h1
 refine ⟨R.union X, Mem.uv _ _, ⟨Y, by rw [Mem.eT], Mem.lg.2 ⟨d2, h2⟩, hs⟩, fun M' L' h' _ => ?_⟩
 obtain ⟨B', rfl, h3, hs'⟩ := h'
 obtain ⟨e1, e2⟩ := Mem.lg.1 h3
 exact ⟨X.union B', by rw [Mem.eT], Mem.gv.2 ⟨d1, e1⟩, X, B', rfl, e2, hp, hs'⟩
instance (priority := low) BJ.there {b o : Nat} {v : Value} {P : HP} {L L' : List HP} [h : BJ b o v L L'] : BJ b o v (P :: L) (P :: L') :=
 ⟨fun R M hM => by
  obtain ⟨R', h1, h2, h3⟩ := hM.tail
  obtain ⟨a, b⟩ := h.put R' M h2
  exact ⟨a, h3 _ _ b b.le⟩⟩
theorem au {R : Mem} {L L' : List HP} {M : Mem} {b o : Nat} {v : Value} {G : Mem → Prop} (h : Hp R L M) [hp : BJ b o v L L'] (k : ∀ M', Hp R L' M' → G M') : aM M ⟨b, o, none⟩ v G :=
 ⟨(hp.put R M h).1, k _ (hp.put R M h).2⟩
theorem aj {R : Mem} {L : List HP} {M : Mem} {cs : List Value} {T : Nat} {G : Nat → Mem → Prop} (h : Hp R L M) (k : ∀ b M', Hp R (pt b cs T :: L) M' → G b M') : aX M (.cells cs.toArray T (0, 0)) G :=
 fun b hb => k b _ (h.new hb (by show (single b _) b = _; simp [single]))
theorem Sr {R : Mem} {L : List HP} {M : Mem} {o : Obj} {G : Nat → Mem → Prop} (h : Hp R L M) (k : ∀ b M', Hp R (ob b o :: L) M' → G b M') : aX M o G :=
 fun b hb => k b _ (h.new hb (by show (single b _) b = _; simp [single]))
def Mem.Gz (M : Mem) (D : List Nat) : Mem := fun b => if b ∈ D then M b else none
theorem Mem.TJ (M : Mem) (D : List Nat) : (M.Gz D).le M := fun b o h => by
 unfold Mem.Gz at h; split at h
 ·exact h
 ·cases h
theorem Mem.TK {M : Mem} {D : List Nat} {b : Nat} (h : b ∈ D) : (M.Gz D) b = M b := by unfold Mem.Gz; rw [if_pos h]
theorem Hp.change {R : Mem} {L : List HP} {P Q : HP} {M M' : Mem} {D D' : List Nat} (h : Hp R (P :: L) M) (hD : ∀ A, P A → ∀ x ∈ D, ∃ o, A x = some o) (hc : nG D M M') (hf : ∀ x ∈ D', x ∈ D ∨ M x = none) (hq : Q (M'.Gz D')) : Hp R (Q :: L) M' := by
 obtain ⟨B, rfl, h1, X, Y, rfl, h2, hp, hs⟩ := h
 have inD : ∀ x ∈ D, R x = none ∧ Y x = none := fun x hx => by
  obtain ⟨o, ho⟩ := hD X hp x hx
  constructor
  ·rcases h1 x with h | h; exact h; rw [Mem.union_left ho] at h; cases h
  ·rcases h2 x with h | h; rw [ho] at h; cases h; exact h
 have XO : ∀ x ∈ D', R x = none ∧ Y x = none := fun x hx => by
  rcases hf x hx with hx | hx
  ·exact inD x hx
  ·obtain ⟨a, b⟩ := nD hx
   exact ⟨a, (nD b).2⟩
 have hR : R.le M' := fun b o hb => (hc b o (Mem.union_left hb)).2 fun hx => by rw [(inD b hx).1] at hb; cases hb
 have hY : Y.le M' := fun b o hb => (hc b o (Mem.mT h1 b o (Mem.mT h2 b o hb))).2 fun hx => by rw [(inD b hx).2] at hb; cases hb
 have hXR : (M'.Gz D').le (M'.sub R) := fun b o hb => by
  have : b ∈ D' := by unfold Mem.Gz at hb; split at hb; assumption; cases hb
  unfold Mem.sub; rw [(XO b this).1]; exact Mem.TJ _ _ b o hb
 refine ⟨M'.sub R, (Mem.vY hR).symm, Mem.Gy R M', M'.Gz D', (M'.sub R).sub (M'.Gz D'), (Mem.vY hXR).symm, Mem.Gy _ _, hq, hs.mono fun b o hb => ?_⟩
 have za : b ∉ D' := fun hx => by rw [(XO b hx).2] at hb; cases hb
 have PM : R b = none := by rcases h1 b with h | h; exact h; rw [Mem.fP h2, Mem.union_left hb] at h; cases h
 have : (M'.Gz D') b = none := by unfold Mem.Gz; rw [if_neg za]
 unfold Mem.sub
 rw [this, PM]
 exact hY b o hb
theorem ud.Gz {M : Mem} {z T : Nat} {A : Option Addr} {n c : Nat} {l : List Value} (h : ud M z T A n c l) : ud (M.Gz (AQ A)) z T A n c l := by
 obtain ⟨h1, h2 | ⟨b, cs, h3, h4, h5⟩⟩ := h
 ·exact ⟨h1, .inl h2⟩
 ·subst h3; exact ⟨h1, .inr ⟨b, cs, rfl, by rw [Mem.TK (by simp [AQ])]; exact h4, h5⟩⟩
theorem ud.mono {M M' : Mem} {z T : Nat} {A : Option Addr} {n c : Nat} {l : List Value} (h : ud M z T A n c l) (hle : M.le M') : ud M' z T A n c l := by
 obtain ⟨h1, h2 | ⟨b, cs, h3, h4, h5⟩⟩ := h
 ·exact ⟨h1, .inl h2⟩
 ·exact ⟨h1, .inr ⟨b, cs, h3, hle _ _ h4, h5⟩⟩
theorem Hp.vZ {R : Mem} {L : List HP} {z T : Nat} {A : Option Addr} {n c : Nat} {l : List Value} {M : Mem} (h : Hp R (own z T A n c l :: L) M) : ud M z T A n c l := by
 obtain ⟨X, hp, hle, _⟩ := h.fst; exact ud.mono hp hle
theorem Hp.sl {R : Mem} {L L' : List HP} {z T : Nat} {A : Option Addr} {n c : Nat} {l : List Value} {M : Mem} (h : Hp R L M) (hp : dc L (own z T A n c l) L') : Sl M A l := (h.pick hp).vZ.sl
theorem Hp.slR {R : Mem} {L : List HP} {A : Option Addr} {l : List Value} {M : Mem} (h : Hp R L M) (hr : Sl R A l) : Sl M A l := hr.mono fun b o hb => h.le b o hb
theorem Hp.cap {R : Mem} {L : List HP} {z T : Nat} {A : Option Addr} {n c : Nat} {l : List Value} {M : Mem} (h : Hp R (own z T A n c l :: L) M) : n ≤ c := h.vZ.cap
theorem Hp.len {R : Mem} {L : List HP} {z T : Nat} {A : Option Addr} {n c : Nat} {l : List Value} {M : Mem} (h : Hp R (own z T A n c l :: L) M) : l.length = n * z := h.vZ.1
theorem Hp.PZ {R : Mem} {L : List HP} {M : Mem} (h : Hp R L M) (z T : Nat) : Hp R (own z T none 0 0 [] :: L) M := by
 obtain ⟨B, e, h1, hs⟩ := h
 exact ⟨B, e, h1, Mem.empty, B, (Mem.pI B).symm, Mem.zh B, ud.nil _ _ _, hs⟩
theorem Hp.Ml {R : Mem} {L : List HP} {b z T n c : Nat} {cs l : List Value} {M : Mem} (h : Hp R (pt b cs T :: L) M) (hl : l.length = n * z) (hc : cs.length = c * z) (hn : n ≤ c) (he : ∀ i, i < n * z → cs[i]? = l[i]?) : Hp R (own z T (some ⟨b, 0, none⟩) n c l :: L) M :=
 h.imp fun A ha => ⟨hl, .inr ⟨b, cs.toArray, rfl, ha, by simpa using hc, hn, fun i hi => by simpa using he i hi⟩⟩
theorem Hp.CU {R : Mem} {L : List HP} {b z T n : Nat} {cs : List Value} {M : Mem} (h : Hp R (pt b cs T :: L) M) (hc : cs.length = n * z) : Hp R (own z T (some ⟨b, 0, none⟩) n n cs :: L) M :=
 h.Ml hc hc (Nat.le_refl _) fun _ _ => rfl
theorem Hp.Mm {R : Mem} {L : List HP} {z T : Nat} {A : Option Addr} {n c m : Nat} {l : List Value} {M : Mem} (h : Hp R (own z T A n c l :: L) M) (hm : m ≤ n) : Hp R (own z T A m c (l.take (m * z)) :: L) M := by
 have hz : m * z ≤ n * z := Nat.mul_le_mul_right z hm
 refine h.imp fun X hx => ?_
 obtain ⟨h1, ⟨h2, h3, h4⟩ | ⟨b, cs, h3, h4, h5, h6, h7⟩⟩ := hx
 ·refine ⟨by rw [List.length_take, h1]; omega, .inl ⟨h2, by omega, h4⟩⟩
 ·refine ⟨by rw [List.length_take, h1]; omega, .inr ⟨b, cs, h3, h4, h5, by omega, fun i hi => ?_⟩⟩
  rw [h7 i (by omega), List.getElem?_take, if_pos hi]
theorem Hp.TL {R : Mem} {L : List HP} {z T : Nat} {A : Option Addr} {n c i : Nat} {l : List Value} {M : Mem} (h : Hp R (own z T A n c l :: L) M) (hi : i < l.length) : ∃ b, A = some ⟨b, 0, none⟩ ∧ M.ld ⟨b, i, none⟩ = l[i]? := by
 obtain ⟨b, o, rfl, g⟩ := h.vZ.sl.get hi
 obtain ⟨_, ⟨h2, _⟩ | ⟨b', cs, h3, _⟩⟩ := h.vZ
 ·cases h2
 ·cases h3; exact ⟨b, rfl, by simpa using g⟩
theorem Hp.and {R : Mem} {L : List HP} {P : HP} {p : Prop} {M : Mem} (h : Hp R ((fun A => P A ∧ p) :: L) M) : p ∧ Hp R (P :: L) M := by
 obtain ⟨A, ⟨_, hp⟩, _⟩ := h.fst
 exact ⟨hp, h.imp fun A ha => ha.1⟩
theorem Hp.Mn {R : Mem} {L : List HP} {z T : Nat} {b n c : Nat} {l : List Value} {M : Mem} (h : Hp R (own z T (some ⟨b, 0, none⟩) n c l :: L) M) :
  ∃ cs, (cs.length = c * z ∧ n ≤ c ∧ l.length = n * z ∧ ∀ i, i < n * z → cs[i]? = l[i]?) ∧ Hp R (pt b cs T :: L) M := by
 have h2 : Hp R (exs (fun cs : List Value => fun A => pt b cs T A ∧ (cs.length = c * z ∧ n ≤ c ∧ l.length = n * z ∧ ∀ i, i < n * z → cs[i]? = l[i]?)) :: L) M := by
  refine h.imp fun A ha => ?_
  obtain ⟨h1, ⟨h2, _⟩ | ⟨b', cs, h3, h4, h5, h6, h7⟩⟩ := ha
  ·cases h2
  ·cases h3
   exact ⟨cs.toList, by simpa [pt] using h4, by simpa using h5, h6, h1, fun i hi => by simpa using h7 i hi⟩
 obtain ⟨cs, h3⟩ := Hp.de.1 h2
 exact ⟨cs, h3.and⟩
theorem Hp.Iv {R : Mem} {L : List HP} {z T : Nat} {b n c i : Nat} {l : List Value} {M : Mem} {v : Value} (h : Hp R (own z T (some ⟨b, 0, none⟩) n c l :: L) M) (hi : i < l.length) :
  M.wr ⟨b, i, none⟩ = true ∧ Hp R (own z T (some ⟨b, 0, none⟩) n c (l.set i v) :: L) (M.put ⟨b, i, none⟩ v) := by
 obtain ⟨cs, ⟨h1, h2, h3, h4⟩, h5⟩ := h.Mn
 have hz : n * z ≤ c * z := Nat.mul_le_mul_right z h2
 obtain ⟨g1, g2⟩ := h5.put (v := v) (o := i) (by omega)
 refine ⟨g1, g2.Ml (by simpa using h3) (by simpa using h1) h2 fun j hj => ?_⟩
 rw [List.getElem?_set, List.getElem?_set, h4 j hj]
 by_cases hij : i = j
 ·subst hij; rw [if_pos rfl, if_pos rfl, if_pos (by omega), if_pos (by omega)]
 ·rw [if_neg hij, if_neg hij]
theorem JW {R : Mem} {L L' : List HP} {z T : Nat} {b n c i : Nat} {l : List Value} {M : Mem} {v : Value} {G : Mem → Prop} (h : Hp R L M) (hp : dc L (own z T (some ⟨b, 0, none⟩) n c l) L') (hi : i < l.length)
  (k : ∀ M', Hp R (own z T (some ⟨b, 0, none⟩) n c (l.set i v) :: L') M' → G M') : aM M ⟨b, i, none⟩ v G :=
 ⟨((h.pick hp).Iv (v := v) hi).1, k _ ((h.pick hp).Iv (v := v) hi).2⟩
class JX (l : List Value) (n : Nat) (v : outParam Value) : Prop where
 eq : l[n]? = some v
instance JX.zero {x : Value} {l : List Value} : JX (x :: l) 0 x := ⟨rfl⟩
instance JX.succ {x v : Value} {l : List Value} {n : Nat} [h : JX l n v] : JX (x :: l) (n + 1) v := ⟨by simpa using h.eq⟩
class nI (b o : Nat) (L : List HP) (v : outParam Value) : Prop where
 ld : ∀ (R M : Mem), Hp R L M → M.ld ⟨b, o, none⟩ = some v
instance nI.here {b o T : Nat} {cs : List Value} {L : List HP} {v : Value} [h : JX cs o v] : nI b o (pt b cs T :: L) v := ⟨fun R M hM => hM.ld .here h.eq⟩
instance (priority := low) nI.there {b o : Nat} {P : HP} {L : List HP} {v : Value} [h : nI b o L v] : nI b o (P :: L) v := ⟨fun R M hM => h.ld R M hM.drop⟩
theorem aG {R : Mem} {L : List HP} {M : Mem} {b o : Nat} {k : IntKind} {n : Int} {G : Int → Prop} (h : Hp R L M) [hp : nI b o L (.int k n)] (g : G n) : aI (M.ld ⟨b, o, none⟩) k G := by
 rw [hp.ld R M h]; simpa [aI] using g
theorem BK {R : Mem} {L : List HP} {M : Mem} {b o : Nat} {t : Bool} {G : Bool → Prop} (h : Hp R L M) [hp : nI b o L (.bool t)] (g : G t) : c7 (M.ld ⟨b, o, none⟩) G := by
 rw [hp.ld R M h]; exact g
theorem XP {R : Mem} {L : List HP} {M : Mem} {b o : Nat} {t : ByteArray} {G : ByteArray → Prop} (h : Hp R L M) [hp : nI b o L (.string t)] (g : G t) : fm (M.ld ⟨b, o, none⟩) G := by
 rw [hp.ld R M h]; exact g
theorem ou {R : Mem} {L : List HP} {M : Mem} {b o : Nat} {p : Option Addr} {G : Option Addr → Prop} (h : Hp R L M) [hp : nI b o L (.pointer p)] (g : G p) : cy (M.ld ⟨b, o, none⟩) G := by
 rw [hp.ld R M h]; exact g
theorem aF {R : Mem} {L : List HP} {M : Mem} {b o : Nat} {A : Option Addr} {n c : Nat} {G : Option Addr → Nat → Nat → Prop} (h : Hp R L M) [hp : nI b o L (.slice A n c)] (g : G A n c) : aB (M.ld ⟨b, o, none⟩) G := by
 rw [hp.ld R M h]; exact g
theorem BL {R : Mem} {L : List HP} {M : Mem} {b o : Nat} {v : Value} {G : Value → Prop} (h : Hp R L M) [hp : nI b o L v] (g : G v) : eN (M.ld ⟨b, o, none⟩) G := by
 rw [hp.ld R M h]; exact g
theorem bO {R : Mem} {L : List HP} {M : Mem} {b o : Nat} {v : Value} (h : Hp R L M) [hp : nI b o L v] : M.ld ⟨b, o, none⟩ = some v := hp.ld R M h
theorem Hp.Mo {R : Mem} {L L' : List HP} {b T : Nat} {cs : List Value} {M : Mem} (h : Hp R L M) (hp : dc L (pt b cs T) L') : Sl M (some ⟨b, 0, none⟩) cs := fun i hi => by
 rw [Iu (h.pick hp).zi, Nat.zero_add]; simp
theorem Hp.P0 {z T : Nat} {A : Option Addr} {n c : Nat} {l : List Value} : ∀ X, own z T A n c l X → ∀ x ∈ AQ A, ∃ o, X x = some o := fun X hX x hx => ud.some hX hx
theorem Hp.append {P : Program} {t e z bytes ty : Nat} {zero : List Value} {A B : Option Addr} {n c m d : Nat} {l r : List Value} {R : Mem} {L : List HP} {M : Mem} {K : Value → Mem → Prop} {Kp : List PanicEntry → Mem → Prop}
  (h : Hp R (own z e A n c l :: L) M) (E : bj P t e z bytes zero) (hr : Sl M B r) (lq : r.length = m * z) (hp : ∀ v ∈ r, Value.plainCell v = true) (hb : (n + m) * bytes ≤ 140737488355328)
  (k : ∀ A' c' M', Hp R (own z e A' (n + m) c' (l ++ r) :: L) M' → K (.slice A' (n + m) c') M') :
  bk P (Builtin.append_ #[t, t] ty #[.slice A n c, .slice B m d]) M K Kp := by
 refine E.append h.vZ hr lq hp hb fun A' c' M' h1 h2 h3 => k A' c' M' ?_
 refine h.change (Q := own z e A' (n + m) c' (l ++ r)) (D := AQ A) (D' := AQ A') Hp.P0 h2 (fun x hx => ?_) h1.Gz
 rcases h3 with rfl | ⟨b, rfl, hb⟩
 ·exact .inl hx
 ·simp only [AQ, List.mem_singleton] at hx; subst hx; exact .inr hb
theorem Hp.make {P : Program} {t e z bytes n : Nat} {zero : List Value} {R : Mem} {L : List HP} {M : Mem} {K : Value → Mem → Prop} {Kp : List PanicEntry → Mem → Prop}
  (h : Hp R L M) (E : bj P t e z bytes zero) (hb : n * bytes ≤ 140737488355328)
  (k : ∀ b M', Hp R (own z e (some ⟨b, 0, none⟩) n n (List.replicate n zero).flatten :: L) M' → K (.slice (some ⟨b, 0, none⟩) n n) M') :
  bk P (Instr.makeSlice t (.int .i64 (n : Int)) (.int .i64 (n : Int))) M K Kp := by
 refine E.make hb fun b hb => k b _ ?_
 have hz : zero.length = z := by obtain ⟨_, _, _, _, _, _, _, _, hl, _⟩ := E; exact hl
 exact (h.new (P := pt b (List.replicate n zero).flatten e) hb (by show (single b _) b = _; simp [single])).CU (by simp [hz])
theorem Hp.seal {R : Mem} {L : List HP} {P : HP} {M : Mem} (h : Hp R (P :: L) M) : ∃ R' A, P A ∧ R.le R' ∧ A.le R' ∧ Hp R' L M := by
 obtain ⟨B, rfl, h1, X, Y, rfl, h2, hp, hs⟩ := h
 obtain ⟨d1, d2⟩ := Mem.gv.1 h1
 exact ⟨R.union X, X, hp, Mem.uv _ _, Mem.mT d1, Y, by rw [Mem.eT], Mem.lg.2 ⟨d2, h2⟩, hs⟩
theorem Sl.le {M M' : Mem} {A : Option Addr} {l : List Value} (h : Sl M A l) (hle : M.le M') : Sl M' A l := h.mono hle
theorem Hp.Mp {R : Mem} {L : List HP} {z T : Nat} {A : Option Addr} {n c : Nat} {l : List Value} {M : Mem} (h : Hp R (own z T A n c l :: L) M) : ∃ R', R.le R' ∧ Sl R' A l ∧ Hp R' L M := by
 obtain ⟨R', X, hp, h1, h2, h3⟩ := h.seal
 exact ⟨R', h1, Sl.le (ud.sl hp) h2, h3⟩
theorem dc.idx {P : HP} : ∀ {ls : List HP} {i : Nat}, i < ls.length → dc (ls.set i P) P (ls.eraseIdx i)
 | [], _, h => by simp at h
 | Q :: l, 0, _ => .here
 | Q :: l, i + 1, h => .there (dc.idx (by simpa using h))
theorem dc.app {ls ls' L : List HP} {P : HP} (h : dc ls P ls') : dc (ls ++ L) P (ls' ++ L) := by
 induction h with
 | here => exact .here
 | there _ ih => exact .there ih
theorem b6.aS {l L : List HP} {M : Mem} : b6 (sep l :: L) M ↔ b6 (l ++ L) M := by
 constructor
 ·rintro ⟨X, Y, rfl, h2, hp, hs⟩; exact b6.app hp hs h2
 ·intro h; obtain ⟨X, Y, rfl, h2, hp, hs⟩ := b6.split h; exact ⟨X, Y, rfl, h2, hp, hs⟩
theorem Hp.focus {R : Mem} {L ls : List HP} {P : HP} {M : Mem} {i : Nat} (h : Hp R (sep ls :: L) M) (hi : ls[i]? = some P) : Hp R (P :: sep (ls.eraseIdx i) :: L) M := by
 obtain ⟨hl, he⟩ := List.getElem?_eq_some_iff.1 hi
 have hp : dc ls P (ls.eraseIdx i) := by
  have := dc.idx (P := P) hl
  rwa [show ls.set i P = ls from by rw [← he]; simp] at this
 exact h.map fun A hs => (b6.pick hp.app (b6.aS.1 hs)).tail fun B hb => b6.aS.2 hb
theorem Hp.P2 {R : Mem} {L ls : List HP} {P : HP} {M : Mem} {i : Nat} (h : Hp R (P :: sep (ls.eraseIdx i) :: L) M) (hi : i < ls.length) : Hp R (sep (ls.set i P) :: L) M :=
 h.map fun A hs => b6.aS.2 (b6.nH (dc.idx hi).app (hs.tail fun B hb => b6.aS.1 hb))
theorem c6 {k : IntKind} {n : Int} {G : Int → Prop} (g : G n) : aI (some (.int k n)) k G := by simpa [aI] using g
theorem ov {t : Bool} {G : Bool → Prop} (g : G t) : c7 (some (.bool t)) G := g
theorem XQ {t : ByteArray} {G : ByteArray → Prop} (g : G t) : fm (some (.string t)) G := g
theorem jL {p : Option Addr} {G : Option Addr → Prop} (g : G p) : cy (some (.pointer p)) G := g
theorem aQ {A : Option Addr} {n c : Nat} {G : Option Addr → Nat → Nat → Prop} (g : G A n c) : aB (some (.slice A n c)) G := g
theorem Mq {v : Value} {G : Value → Prop} (g : G v) : eN (some v) G := g
theorem bg {b o : Nat} {G : Nat → Nat → Prop} (g : G b o) : aE (some ⟨b, o, none⟩) G := g
theorem uw {M : Mem} {a : Addr} {i : Nat} : M.fK a i 0 = some [] := rfl
theorem Mr {M : Mem} {b o i n : Nat} {v : Value} {vs : List Value} (h : M.ld ⟨b, o + i, none⟩ = some v) (g : M.fK ⟨b, o, none⟩ (i + 1) n = some vs) : M.fK ⟨b, o, none⟩ i (n + 1) = some (v :: vs) := by
 simp only [Mem.fK, add_eq, h, g, Option.map_some]
theorem BM {M : Mem} {b o : Nat} : ∀ (n i : Nat), M.fK ⟨b, o, none⟩ (i + 1) n = M.fK ⟨b, o + 1, none⟩ i n
 | 0, i => rfl
 | n + 1, i => by simp only [Mem.fK, add_eq, show o + (i + 1) = o + 1 + i from by omega, BM n (i + 1)]
theorem jM {M : Mem} {b o n : Nat} {v : Value} {vs : List Value} (h : M.ld ⟨b, o, none⟩ = some v) (g : M.fK ⟨b, o + 1, none⟩ 0 n = some vs) : M.fK ⟨b, o, none⟩ 0 (n + 1) = some (v :: vs) := Mr h (by rw [BM]; exact g)
def Src (R : Mem) (L : List HP) (A : Option Addr) (l : List Value) : Prop := ∀ M, Hp R L M → Sl M A l
theorem Src.own {R : Mem} {L L' : List HP} {z T : Nat} {A : Option Addr} {n c : Nat} {l : List Value} (hp : dc L (own z T A n c l) L') : Src R L A l := fun M h => h.sl hp
theorem Src.pt {R : Mem} {L L' : List HP} {b T : Nat} {l : List Value} (hp : dc L (pt b l T) L') : Src R L (some ⟨b, 0, none⟩) l := fun M h => h.Mo hp
theorem Src.ro {R : Mem} {L : List HP} {A : Option Addr} {l : List Value} (hr : Sl R A l) : Src R L A l := fun M h => h.slR hr
theorem Src.cons {R : Mem} {L : List HP} {P : HP} {A : Option Addr} {l : List Value} (hr : Src R L A l) : Src R (P :: L) A l := fun M h => hr M h.drop
theorem Src.nil (R : Mem) (L : List HP) : Src R L none [] := fun M h => rfl
theorem Src.take {R : Mem} {L : List HP} {A : Option Addr} {l : List Value} (h : Src R L A l) (k : Nat) : Src R L A (l.take k) := fun M hM => (h M hM).take k
theorem Sl.XR {M : Mem} {A : Option Addr} {l : List Value} {m c z : Nat} (h : Sl M A l) (hc : l.length ≤ c * z) : Sl M (Go.AF.lO A m c z) (l.drop (m * z)) := by
 unfold Go.AF.lO
 split
 ·rename_i he
  have : l.drop (m * z) = [] := List.drop_of_length_le (by rw [← he]; exact hc)
  rw [this]
  match A, h with
  | none, h => rfl
  | some ⟨b, o, none⟩, h => intro i hi; simp at hi
 ·match A, h with
  | none, h => rw [show l = [] from h]; simp [Sl]
  | some ⟨b, o, none⟩, h =>
   rw [Option.map_some, add_eq]
   intro i hi
   rw [List.length_drop] at hi
   rw [show o + m * z + i = o + (m * z + i) from by omega, h (m * z + i) (by omega), List.getElem?_drop]
theorem Src.slAt {R : Mem} {L : List HP} {A : Option Addr} {l : List Value} {m c z : Nat} (h : Src R L A l) (hc : l.length ≤ c * z) : Src R L (Go.AF.lO A m c z) (l.drop (m * z)) := fun M hM => (h M hM).XR hc
theorem Sl.at {M : Mem} {b o i o' : Nat} {l : List Value} {v : Value} (h : Sl M (some ⟨b, o, none⟩) l) (e : o' = o + i) (hv : l[i]? = some v) : M.ld ⟨b, o', none⟩ = some v := by
 subst e
 rw [h i (List.getElem?_eq_some_iff.1 hv).1, hv]
theorem Sl.Su {M : Mem} {A : Option Addr} {l : List Value} (h : Sl M A l) (hl : 0 < l.length) : ∃ b o, A = some ⟨b, o, none⟩ := by
 obtain ⟨b, o, e, _⟩ := h.get hl; exact ⟨b, o, e⟩
theorem Src.isAt {R : Mem} {L : List HP} {A : Option Addr} {l : List Value} (h : Src R L A l) (hl : 0 < l.length) {M : Mem} (hM : Hp R L M) : ∃ b o, A = some ⟨b, o, none⟩ := (h M hM).Su hl
theorem Sl.fK {M : Mem} {b o o' i n : Nat} {l vs : List Value} (h : Sl M (some ⟨b, o, none⟩) l) (e : o' = o + i) (hv : (l.drop i).take n = vs) (hn : vs.length = n) : M.fK ⟨b, o', none⟩ 0 n = some vs := by
 subst e
 have := vX (M := M) (b := b) (o := o + i) vs 0 (fun j hj => by
  subst hv
  rw [List.length_take, List.length_drop] at hj
  rw [show o + i + (0 + j) = o + (i + j) from by omega, h (i + j) (by omega), List.getElem?_take, if_pos (by omega), List.getElem?_drop])
 rwa [hn] at this
theorem be {M : Mem} {a : Addr} {k : IntKind} {n : Int} {G : Int → Prop} (h : M.ld a = some (.int k n)) (g : G n) : aI (M.ld a) k G := by rw [h]; simpa [aI] using g
theorem Ms {M : Mem} {a : Addr} {t : Bool} {G : Bool → Prop} (h : M.ld a = some (.bool t)) (g : G t) : c7 (M.ld a) G := by rw [h]; exact g
theorem mU {M : Mem} {a : Addr} {p : Option Addr} {G : Option Addr → Prop} (h : M.ld a = some (.pointer p)) (g : G p) : cy (M.ld a) G := by rw [h]; exact g
theorem GB {M : Mem} {a : Addr} {A : Option Addr} {n c : Nat} {G : Option Addr → Nat → Nat → Prop} (h : M.ld a = some (.slice A n c)) (g : G A n c) : aB (M.ld a) G := by rw [h]; exact g
theorem Hp.copy {P : Program} {t e z bytes ty k : Nat} {zero : List Value} {B : Option Addr} {m d : Nat} {r : List Value} {R : Mem} {L L' : List HP} {M : Mem} {K : Value → Mem → Prop} {Kp : List PanicEntry → Mem → Prop}
  (h : Hp R L M) (hk : dc L (Go.AF.pt k [] e) L') (E : bj P t e z bytes zero) (hr : Src R L B r) (lq : r.length = m * z) (hp : ∀ v ∈ r, Value.plainCell v = true) (hb : m * bytes ≤ 140737488355328)
  (g : ∀ A' c' M', Hp R (Go.AF.own z e A' m c' r :: L') M' → K (.slice A' m c') M') :
  bk P (Builtin.append_ #[t, t] ty #[.slice (some ⟨k, 0, none⟩) 0 0, .slice B m d]) M K Kp := by
 have h2 : Hp R (Go.AF.own z e (some ⟨k, 0, none⟩) 0 0 [] :: L') M := (h.pick hk).CU (by simp)
 refine h2.append E (hr _ h) lq hp (by simpa using hb) fun A' c' M' h3 => ?_
 rw [Nat.zero_add] at h3 ⊢
 exact g A' c' M' (by simpa using h3)
theorem Hp.P3 {P : Program} {t e z bytes ty k : Nat} {zero : List Value} {A : Option Addr} {n c m d : Nat} {l r : List Value} {R : Mem} {L L' nJ : List HP} {M : Mem} {K : Value → Mem → Prop} {Kp : List PanicEntry → Mem → Prop}
  (h : Hp R L M) (ha : dc L (Go.AF.own z e A n c l) L') (hk : dc L' (Go.AF.pt k r e) nJ) (E : bj P t e z bytes zero) (lq : r.length = m * z) (hp : ∀ v ∈ r, Value.plainCell v = true) (hb : (n + m) * bytes ≤ 140737488355328)
  (g : ∀ A' c' M', Hp R (Go.AF.own z e A' (n + m) c' (l ++ r) :: nJ) M' → K (.slice A' (n + m) c') M') :
  bk P (Builtin.append_ #[t, t] ty #[.slice A n c, .slice (some ⟨k, 0, none⟩) m d]) M K Kp := by
 have h2 := h.pick ha
 exact h2.append E (h2.Mo (.there hk)) lq hp hb fun A' c' M' h3 => g A' c' M' ((h3.pick (.there hk)).drop)
theorem Hp.P4 {P : Program} {t e z bytes ty : Nat} {zero : List Value} {A B : Option Addr} {n c m d : Nat} {l r : List Value} {R : Mem} {L L' : List HP} {M : Mem} {K : Value → Mem → Prop} {Kp : List PanicEntry → Mem → Prop}
  (h : Hp R L M) (ha : dc L (Go.AF.own z e A n c l) L') (E : bj P t e z bytes zero) (hr : Src R L B r) (lq : r.length = m * z) (hp : ∀ v ∈ r, Value.plainCell v = true) (hb : (n + m) * bytes ≤ 140737488355328)
  (g : ∀ A' c' M', Hp R (Go.AF.own z e A' (n + m) c' (l ++ r) :: L') M' → K (.slice A' (n + m) c') M') :
  bk P (Builtin.append_ #[t, t] ty #[.slice A n c, .slice B m d]) M K Kp :=
 (h.pick ha).append E (hr _ h) lq hp hb g
theorem wc {t : Bool} {X Y : Prop} (h : t = true) (g : X) : aP t X Y := by subst h; exact g
theorem lu {t : Bool} {X Y : Prop} (h : t = false) (g : Y) : aP t X Y := by subst h; exact g
theorem ai {X Y : Prop} (g : X) : aP true X Y := g
theorem ae {X Y : Prop} (g : Y) : aP false X Y := g
attribute [irreducible] pt ob own sep exs fact
end Go.AF
