/- A part of proofs about one program. -/
import Derived.Test.YtnnlgknlialpmaaGreatZReplayToldLib
set_option linter.unusedVariables false
namespace Go.AF
abbrev HP := Mem → Prop
theorem Mem.dU {A B : Mem} (h : A.dj B) : A.union B = B.union A := by
 funext b; unfold Mem.union; rcases h b with h | h <;> rw [h]
 ·cases B b <;> rfl
 ·cases A b <;> rfl
theorem Mem.mW {A B : Mem} (h : A.dj B) : B.dj A := fun b => (h b).symm
theorem Mem.pV (A B : Mem) : A.le (A.union B) := fun b o h => Mem.union_left h
theorem Mem.jJ {A B : Mem} (h : A.dj B) : B.le (A.union B) := by rw [Mem.dU h]; exact Mem.pV B A
theorem Mem.le_refl (A : Mem) : A.le A := fun _ _ h => h
theorem Mem.le_trans {A B D : Mem} (h : A.le B) (g : B.le D) : A.le D := fun b o x => g b o (h b o x)
theorem Mem.lV (A : Mem) : Mem.empty.union A = A := by funext b; rfl
theorem Mem.Am (A : Mem) : A.union Mem.empty = A := by funext b; unfold Mem.union Mem.empty; cases A b <;> rfl
theorem Mem.GU (A : Mem) : A.dj Mem.empty := fun _ => .inr rfl
theorem Mem.uK (A : Mem) : Mem.empty.dj A := fun _ => .inl rfl
def bF : List HP → HP
 | [], _ => True
 | P :: l, M => ∃ A B : Mem, M = A.union B ∧ A.dj B ∧ P A ∧ bF l B
def Mem.sub (M A : Mem) : Mem := fun b => match A b with | some _ => none | none => M b
theorem Mem.Ct (A M : Mem) : A.dj (M.sub A) := fun b => by
 unfold Mem.sub; cases h : A b <;> simp
theorem Mem.rN {A M : Mem} (h : A.le M) : A.union (M.sub A) = M := by
 funext b; unfold Mem.union Mem.sub
 cases hb : A b with
 | none => rfl
 | some o => rw [h b o hb]
theorem bF.mono : ∀ {l : List HP} {A M : Mem}, bF l A → A.le M → bF l M
 | [], _, _, _, _ => trivial
 | P :: l, A, M, ⟨X, Y, e, hd, hp, hs⟩, hle => by
  have hX : X.le M := fun b o h => hle b o (by rw [e]; exact Mem.union_left h)
  refine ⟨X, M.sub X, (Mem.rN hX).symm, Mem.Ct X M, hp, bF.mono hs fun b o h => ?_⟩
  unfold Mem.sub
  rcases hd b with hx | hx
  ·rw [hx]; exact hle b o (by rw [e, Mem.dU hd]; exact Mem.union_left h)
  ·rw [h] at hx; cases hx
theorem bF.swap {P Q : HP} {l : List HP} {M : Mem} (h : bF (P :: Q :: l) M) : bF (Q :: P :: l) M := by
 obtain ⟨A, B, rfl, h1, hP, A', B', rfl, h2, hQ, hl⟩ := h
 obtain ⟨h3, h4⟩ := Mem.eL.1 h1
 refine ⟨A', A.union B', ?_, Mem.eL.2 ⟨Mem.mW h3, h2⟩, hQ, A, B', rfl, h4, hP, hl⟩
 rw [← Mem.c7, Mem.dU h3, Mem.c7]
theorem bF.drop {P : HP} {l : List HP} {M : Mem} (h : bF (P :: l) M) : bF l M := by
 obtain ⟨A, B, rfl, h1, hP, hl⟩ := h
 exact hl.mono (Mem.jJ h1)
theorem bF.tail {P : HP} {l l' : List HP} {M : Mem} (h : bF (P :: l) M) (f : ∀ A, bF l A → bF l' A) : bF (P :: l') M := by
 obtain ⟨A, B, e, h1, hP, hl⟩ := h
 exact ⟨A, B, e, h1, hP, f _ hl⟩
theorem bF.imp {P Q : HP} {l : List HP} {M : Mem} (h : bF (P :: l) M) (f : ∀ A, P A → Q A) : bF (Q :: l) M := by
 obtain ⟨A, B, e, h1, hP, hl⟩ := h
 exact ⟨A, B, e, h1, f _ hP, hl⟩
theorem bF.app : ∀ {l l' : List HP} {A B : Mem}, bF l A → bF l' B → A.dj B → bF (l ++ l') (A.union B)
 | [], l', A, B, _, h, hd => h.mono (Mem.jJ hd)
 | P :: l, l', A, B, ⟨X, Y, e, h1, hp, hs⟩, h, hd => by
  subst e
  obtain ⟨d1, d2⟩ := Mem.iB.1 hd
  exact ⟨X, Y.union B, by rw [Mem.c7], Mem.eL.2 ⟨h1, d1⟩, hp, bF.app hs h d2⟩
theorem bF.split : ∀ {l l' : List HP} {M : Mem}, bF (l ++ l') M → ∃ A B, M = A.union B ∧ A.dj B ∧ bF l A ∧ bF l' B
 | [], l', M, h => ⟨Mem.empty, M, (Mem.lV M).symm, Mem.uK M, trivial, h⟩
 | P :: l, l', M, ⟨X, Y, e, h1, hp, hs⟩ => by
  obtain ⟨A, B, rfl, h2, ha, hb⟩ := bF.split hs
  obtain ⟨d1, d2⟩ := Mem.eL.1 h1
  exact ⟨X.union A, B, by rw [e, Mem.c7], Mem.iB.2 ⟨d2, h2⟩, ⟨X, A, rfl, d1, hp, ha⟩, hb⟩
inductive cv : List HP → HP → List HP → Prop
 | here {P : HP} {l : List HP} : cv (P :: l) P l
 | there {P Q : HP} {l l' : List HP} : cv l P l' → cv (Q :: l) P (Q :: l')
theorem bF.pick {l l' : List HP} {P : HP} (hp : cv l P l') : ∀ {M : Mem}, bF l M → bF (P :: l') M := by
 induction hp with
 | here => exact fun h => h
 | there _ ih => exact fun h => (h.tail fun _ => ih).swap
theorem bF.j9 {l l' : List HP} {P : HP} (hp : cv l P l') : ∀ {M : Mem}, bF (P :: l') M → bF l M := by
 induction hp with
 | here => exact fun h => h
 | there _ ih => exact fun h => h.swap.tail fun _ => ih
def sep (l : List HP) : HP := bF l
def exs {α : Type} (P : α → HP) : HP := fun M => ∃ x, P x M
def fact (p : Prop) : HP := fun _ => p
def pt (b : Nat) (cs : List Value) (T : Nat) : HP := fun A => A b = some (.cells cs.toArray T (0, 0))
def ob (b : Nat) (o : Obj) : HP := fun A => A b = some o
def own (z T : Nat) (A : Option Addr) (n c : Nat) (l : List Value) : HP := fun M => pD M z T A n c l
def Hp (R : Mem) (L : List HP) : HP := fun M => ∃ B, M = R.union B ∧ R.dj B ∧ bF L B
theorem Hp.start (R : Mem) : Hp R [] R := ⟨Mem.empty, (Mem.Am R).symm, Mem.GU R, trivial⟩
theorem Hp.le {R : Mem} {L : List HP} {M : Mem} (h : Hp R L M) : R.le M := by obtain ⟨B, rfl, _, _⟩ := h; exact Mem.pV _ _
theorem Hp.MN {R : Mem} {L : List HP} {M : Mem} (h : Hp R L M) : j7 [] R M := kS.MN (fun b o hb => h.le b o hb) []
theorem Hp.map {R : Mem} {L L' : List HP} {M : Mem} (h : Hp R L M) (f : ∀ A, bF L A → bF L' A) : Hp R L' M := by
 obtain ⟨B, e, h1, h2⟩ := h; exact ⟨B, e, h1, f _ h2⟩
theorem Hp.pick {R : Mem} {L L' : List HP} {P : HP} {M : Mem} (h : Hp R L M) (hp : cv L P L') : Hp R (P :: L') M := h.map fun _ => bF.pick hp
theorem Hp.j9 {R : Mem} {L L' : List HP} {P : HP} {M : Mem} (h : Hp R (P :: L') M) (hp : cv L P L') : Hp R L M := h.map fun _ => bF.j9 hp
theorem Hp.swap {R : Mem} {L : List HP} {P Q : HP} {M : Mem} (h : Hp R (P :: Q :: L) M) : Hp R (Q :: P :: L) M := h.map fun _ => bF.swap
theorem Hp.drop {R : Mem} {L : List HP} {P : HP} {M : Mem} (h : Hp R (P :: L) M) : Hp R L M := h.map fun _ => bF.drop
theorem Hp.imp {R : Mem} {L : List HP} {P Q : HP} {M : Mem} (h : Hp R (P :: L) M) (f : ∀ A, P A → Q A) : Hp R (Q :: L) M := h.map fun _ hs => hs.imp f
theorem Hp.cP {α : Type} {R : Mem} {L : List HP} {P : α → HP} {M : Mem} : Hp R (exs P :: L) M ↔ ∃ x, Hp R (P x :: L) M := by
 constructor
 ·rintro ⟨B, e, h1, X, Y, e2, h2, ⟨x, hp⟩, hs⟩; exact ⟨x, B, e, h1, X, Y, e2, h2, hp, hs⟩
 ·rintro ⟨x, h⟩; exact h.imp fun A ha => ⟨x, ha⟩
theorem Hp.dZ {R : Mem} {L : List HP} {p : Prop} {M : Mem} : Hp R (fact p :: L) M ↔ p ∧ Hp R L M := by
 constructor
 ·intro h; exact ⟨by obtain ⟨B, e, h1, X, Y, e2, h2, hp, hs⟩ := h; exact hp, h.drop⟩
 ·rintro ⟨hp, B, e, h1, hs⟩; exact ⟨B, e, h1, Mem.empty, B, (Mem.lV B).symm, Mem.uK B, hp, hs⟩
theorem Hp.aO {R : Mem} {L l : List HP} {M : Mem} : Hp R (sep l :: L) M ↔ Hp R (l ++ L) M := by
 constructor
 ·rintro ⟨B, e, h1, X, Y, rfl, h2, hp, hs⟩; exact ⟨_, e, h1, bF.app hp hs h2⟩
 ·rintro ⟨B, e, h1, h⟩
  obtain ⟨X, Y, rfl, h2, hp, hs⟩ := bF.split h
  exact ⟨_, e, h1, X, Y, rfl, h2, hp, hs⟩
theorem Hp.fst {R : Mem} {L : List HP} {P : HP} {M : Mem} (h : Hp R (P :: L) M) : ∃ A, P A ∧ A.le M ∧ R.dj A := by
 obtain ⟨B, rfl, h1, X, Y, rfl, h2, hp, hs⟩ := h
 exact ⟨X, hp, Mem.le_trans (Mem.pV X Y) (Mem.jJ h1), (Mem.eL.1 h1).1⟩
theorem Hp.xJ {R : Mem} {L : List HP} {b T : Nat} {cs : List Value} {M : Mem} (h : Hp R (pt b cs T :: L) M) : M b = some (.cells cs.toArray T (0, 0)) := by
 obtain ⟨A, hp, hle, _⟩ := h.fst; exact hle _ _ hp
theorem Hp.GV {R : Mem} {L : List HP} {b : Nat} {o : Obj} {M : Mem} (h : Hp R (ob b o :: L) M) : M b = some o := by
 obtain ⟨A, hp, hle, _⟩ := h.fst; exact hle _ _ hp
theorem Hp.ld {R : Mem} {L L' : List HP} {b T o : Nat} {cs : List Value} {M : Mem} {v : Value} (h : Hp R L M) (hp : cv L (pt b cs T) L') (hv : cs[o]? = some v) : M.ld ⟨b, o, none⟩ = some v := by
 rw [DQ (h.pick hp).xJ]; simpa using hv
theorem Hp.set {R : Mem} {L : List HP} {P Q : HP} {M : Mem} {b : Nat} {o x : Obj} (h : Hp R (P :: L) M) (hb : ∀ A, P A → A b = some x) (hq : ∀ A, P A → Q (A.set b o)) : Hp R (Q :: L) (M.set b o) := by
 obtain ⟨B, rfl, h1, X, Y, rfl, h2, hp, hs⟩ := h
 have hx := hb X hp
 have hY : Y b = none := by rcases h2 b with h | h; rw [hx] at h; cases h; exact h
 have hR : R b = none := by rcases h1 b with h | h; exact h; rw [Mem.union_left hx] at h; cases h
 have hd := oB (o := o) (b := b) h2 hY
 refine ⟨(X.set b o).union Y, ?_, ?_, X.set b o, Y, rfl, hd, hq X hp, hs⟩
 ·rw [← ic, Mem.dU h1, ic, Mem.dU]
  exact oB (Mem.mW h1) hR
 ·rw [← ic]; exact Mem.mW (oB (Mem.mW h1) hR)
theorem Hp.new {R : Mem} {L : List HP} {P : HP} {M : Mem} {b : Nat} {o : Obj} (h : Hp R L M) (hb : M b = none) (hq : P (single b o)) : Hp R (P :: L) (M.set b o) := by
 obtain ⟨B, rfl, h1, hs⟩ := h
 obtain ⟨hR, hB⟩ := j4 hb
 refine ⟨(single b o).union B, ?_, ?_, single b o, B, rfl, Mem.mW (ie.2 hB), hq, hs⟩
 ·rw [Mem.dU h1, ic, Mem.dU, oC hB, Mem.dU (ie.2 hB)]
  exact oB (Mem.mW h1) hR
 ·exact Mem.eL.2 ⟨ie.2 hR, h1⟩
theorem Hp.put {R : Mem} {L : List HP} {M : Mem} {b o T : Nat} {v : Value} {cs : List Value} (h : Hp R (pt b cs T :: L) M) (ho : o < cs.length) : M.wr ⟨b, o, none⟩ = true ∧ Hp R (pt b (cs.set o v) T :: L) (M.put ⟨b, o, none⟩ v) := by
 refine ⟨Lv h.xJ (by simpa using ho), ?_⟩
 rw [GQ h.xJ]
 refine h.set (x := .cells cs.toArray T (0, 0)) (fun A ha => ha) fun A ha => ?_
 show (A.set b _) b = _
 rw [fq]; simp
class EU (l : List Value) (n : Nat) (v : Value) (l' : outParam (List Value)) : Prop where
 eq : n < l.length ∧ l' = l.set n v
instance EU.zero {x v : Value} {l : List Value} : EU (x :: l) 0 v (v :: l) := ⟨by simp⟩
instance EU.succ {x v : Value} {l l' : List Value} {n : Nat} [h : EU l n v l'] : EU (x :: l) (n + 1) v (x :: l') := ⟨by obtain ⟨h1, h2⟩ := h.eq; subst h2; simp [h1]⟩
class xK (b o : Nat) (v : Value) (L : List HP) (L' : outParam (List HP)) : Prop where
 put : ∀ (R M : Mem), Hp R L M → M.wr ⟨b, o, none⟩ = true ∧ Hp R L' (M.put ⟨b, o, none⟩ v)
instance xK.here {b o T : Nat} {v : Value} {cs cs' : List Value} {L : List HP} [h : EU cs o v cs'] : xK b o v (pt b cs T :: L) (pt b cs' T :: L) :=
 ⟨fun R M hM => by obtain ⟨h1, rfl⟩ := h.eq; exact hM.put h1⟩
theorem Hp.tail {R : Mem} {P : HP} {L : List HP} {M : Mem} (h : Hp R (P :: L) M) : ∃ R', R.le R' ∧ Hp R' L M ∧ ∀ M' L', Hp R' L' M' → R'.le M' → Hp R (P :: L') M' := by
 obtain ⟨B, rfl, h1, X, Y, rfl, h2, hp, hs⟩ := h
 obtain ⟨d1, d2⟩ := Mem.eL.1 h1
 refine ⟨R.union X, Mem.pV _ _, ⟨Y, by rw [Mem.c7], Mem.iB.2 ⟨d2, h2⟩, hs⟩, fun M' L' h' _ => ?_⟩
 obtain ⟨B', rfl, h3, hs'⟩ := h'
 obtain ⟨e1, e2⟩ := Mem.iB.1 h3
 exact ⟨X.union B', by rw [Mem.c7], Mem.eL.2 ⟨d1, e1⟩, X, B', rfl, e2, hp, hs'⟩
instance (priority := low) xK.there {b o : Nat} {v : Value} {P : HP} {L L' : List HP} [h : xK b o v L L'] : xK b o v (P :: L) (P :: L') :=
 ⟨fun R M hM => by
  obtain ⟨R', h1, h2, h3⟩ := hM.tail
  obtain ⟨a, b⟩ := h.put R' M h2
  exact ⟨a, h3 _ _ b b.le⟩⟩
theorem ak {R : Mem} {L L' : List HP} {M : Mem} {b o : Nat} {v : Value} {G : Mem → Prop} (h : Hp R L M) [hp : xK b o v L L'] (k : ∀ M', Hp R L' M' → G M') : aF M ⟨b, o, none⟩ v G :=
 ⟨(hp.put R M h).1, k _ (hp.put R M h).2⟩
theorem aj {R : Mem} {L : List HP} {M : Mem} {cs : List Value} {T : Nat} {G : Nat → Mem → Prop} (h : Hp R L M) (k : ∀ b M', Hp R (pt b cs T :: L) M' → G b M') : aX M (.cells cs.toArray T (0, 0)) G :=
 fun b hb => k b _ (h.new hb (by show (single b _) b = _; simp [single]))
theorem Lw {R : Mem} {L : List HP} {M : Mem} {o : Obj} {G : Nat → Mem → Prop} (h : Hp R L M) (k : ∀ b M', Hp R (ob b o :: L) M' → G b M') : aX M o G :=
 fun b hb => k b _ (h.new hb (by show (single b _) b = _; simp [single]))
def Mem.Cu (M : Mem) (D : List Nat) : Mem := fun b => if b ∈ D then M b else none
theorem Mem.MP (M : Mem) (D : List Nat) : (M.Cu D).le M := fun b o h => by
 unfold Mem.Cu at h; split at h
 ·exact h
 ·cases h
theorem Mem.MQ {M : Mem} {D : List Nat} {b : Nat} (h : b ∈ D) : (M.Cu D) b = M b := by unfold Mem.Cu; rw [if_pos h]
theorem Hp.change {R : Mem} {L : List HP} {P Q : HP} {M M' : Mem} {D D' : List Nat} (h : Hp R (P :: L) M) (hD : ∀ A, P A → ∀ x ∈ D, ∃ o, A x = some o) (hc : j7 D M M') (hf : ∀ x ∈ D', x ∈ D ∨ M x = none) (hq : Q (M'.Cu D')) : Hp R (Q :: L) M' := by
 obtain ⟨B, rfl, h1, X, Y, rfl, h2, hp, hs⟩ := h
 have Tr : ∀ x ∈ D, R x = none ∧ Y x = none := fun x hx => by
  obtain ⟨o, ho⟩ := hD X hp x hx
  constructor
  ·rcases h1 x with h | h; exact h; rw [Mem.union_left ho] at h; cases h
  ·rcases h2 x with h | h; rw [ho] at h; cases h; exact h
 have Ql : ∀ x ∈ D', R x = none ∧ Y x = none := fun x hx => by
  rcases hf x hx with hx | hx
  ·exact Tr x hx
  ·obtain ⟨a, b⟩ := j4 hx
   exact ⟨a, (j4 b).2⟩
 have hR : R.le M' := fun b o hb => (hc b o (Mem.union_left hb)).2 fun hx => by rw [(Tr b hx).1] at hb; cases hb
 have hY : Y.le M' := fun b o hb => (hc b o (Mem.jJ h1 b o (Mem.jJ h2 b o hb))).2 fun hx => by rw [(Tr b hx).2] at hb; cases hb
 have hXR : (M'.Cu D').le (M'.sub R) := fun b o hb => by
  have : b ∈ D' := by unfold Mem.Cu at hb; split at hb; assumption; cases hb
  unfold Mem.sub; rw [(Ql b this).1]; exact Mem.MP _ _ b o hb
 refine ⟨M'.sub R, (Mem.rN hR).symm, Mem.Ct R M', M'.Cu D', (M'.sub R).sub (M'.Cu D'), (Mem.rN hXR).symm, Mem.Ct _ _, hq, hs.mono fun b o hb => ?_⟩
 have wv : b ∉ D' := fun hx => by rw [(Ql b hx).2] at hb; cases hb
 have Lq : R b = none := by rcases h1 b with h | h; exact h; rw [Mem.dU h2, Mem.union_left hb] at h; cases h
 have : (M'.Cu D') b = none := by unfold Mem.Cu; rw [if_neg wv]
 unfold Mem.sub
 rw [this, Lq]
 exact hY b o hb
theorem pD.Cu {M : Mem} {z T : Nat} {A : Option Addr} {n c : Nat} {l : List Value} (h : pD M z T A n c l) : pD (M.Cu (wM A)) z T A n c l := by
 obtain ⟨h1, h2 | ⟨b, cs, h3, h4, h5⟩⟩ := h
 ·exact ⟨h1, .inl h2⟩
 ·subst h3; exact ⟨h1, .inr ⟨b, cs, rfl, by rw [Mem.MQ (by simp [wM])]; exact h4, h5⟩⟩
theorem pD.mono {M M' : Mem} {z T : Nat} {A : Option Addr} {n c : Nat} {l : List Value} (h : pD M z T A n c l) (hle : M.le M') : pD M' z T A n c l := by
 obtain ⟨h1, h2 | ⟨b, cs, h3, h4, h5⟩⟩ := h
 ·exact ⟨h1, .inl h2⟩
 ·exact ⟨h1, .inr ⟨b, cs, h3, hle _ _ h4, h5⟩⟩
theorem Hp.rO {R : Mem} {L : List HP} {z T : Nat} {A : Option Addr} {n c : Nat} {l : List Value} {M : Mem} (h : Hp R (own z T A n c l :: L) M) : pD M z T A n c l := by
 obtain ⟨X, hp, hle, _⟩ := h.fst; exact pD.mono hp hle
theorem Hp.sl {R : Mem} {L L' : List HP} {z T : Nat} {A : Option Addr} {n c : Nat} {l : List Value} {M : Mem} (h : Hp R L M) (hp : cv L (own z T A n c l) L') : Sl M A l := (h.pick hp).rO.sl
theorem Hp.slR {R : Mem} {L : List HP} {A : Option Addr} {l : List Value} {M : Mem} (h : Hp R L M) (hr : Sl R A l) : Sl M A l := hr.mono fun b o hb => h.le b o hb
theorem Hp.cap {R : Mem} {L : List HP} {z T : Nat} {A : Option Addr} {n c : Nat} {l : List Value} {M : Mem} (h : Hp R (own z T A n c l :: L) M) : n ≤ c := h.rO.cap
theorem Hp.len {R : Mem} {L : List HP} {z T : Nat} {A : Option Addr} {n c : Nat} {l : List Value} {M : Mem} (h : Hp R (own z T A n c l :: L) M) : l.length = n * z := h.rO.1
theorem Hp.JW {R : Mem} {L : List HP} {M : Mem} (h : Hp R L M) (z T : Nat) : Hp R (own z T none 0 0 [] :: L) M := by
 obtain ⟨B, e, h1, hs⟩ := h
 exact ⟨B, e, h1, Mem.empty, B, (Mem.lV B).symm, Mem.uK B, pD.nil _ _ _, hs⟩
theorem Hp.GW {R : Mem} {L : List HP} {b z T n c : Nat} {cs l : List Value} {M : Mem} (h : Hp R (pt b cs T :: L) M) (hl : l.length = n * z) (hc : cs.length = c * z) (hn : n ≤ c) (he : ∀ i, i < n * z → cs[i]? = l[i]?) : Hp R (own z T (some ⟨b, 0, none⟩) n c l :: L) M :=
 h.imp fun A ha => ⟨hl, .inr ⟨b, cs.toArray, rfl, ha, by simpa using hc, hn, fun i hi => by simpa using he i hi⟩⟩
theorem Hp.yH {R : Mem} {L : List HP} {b z T n : Nat} {cs : List Value} {M : Mem} (h : Hp R (pt b cs T :: L) M) (hc : cs.length = n * z) : Hp R (own z T (some ⟨b, 0, none⟩) n n cs :: L) M :=
 h.GW hc hc (Nat.le_refl _) fun _ _ => rfl
theorem Hp.GX {R : Mem} {L : List HP} {z T : Nat} {A : Option Addr} {n c m : Nat} {l : List Value} {M : Mem} (h : Hp R (own z T A n c l :: L) M) (hm : m ≤ n) : Hp R (own z T A m c (l.take (m * z)) :: L) M := by
 have hz : m * z ≤ n * z := Nat.mul_le_mul_right z hm
 refine h.imp fun X hx => ?_
 obtain ⟨h1, ⟨h2, h3, h4⟩ | ⟨b, cs, h3, h4, h5, h6, h7⟩⟩ := hx
 ·refine ⟨by rw [List.length_take, h1]; omega, .inl ⟨h2, by omega, h4⟩⟩
 ·refine ⟨by rw [List.length_take, h1]; omega, .inr ⟨b, cs, h3, h4, h5, by omega, fun i hi => ?_⟩⟩
  rw [h7 i (by omega), List.getElem?_take, if_pos hi]
theorem Hp.MR {R : Mem} {L : List HP} {z T : Nat} {A : Option Addr} {n c i : Nat} {l : List Value} {M : Mem} (h : Hp R (own z T A n c l :: L) M) (hi : i < l.length) : ∃ b, A = some ⟨b, 0, none⟩ ∧ M.ld ⟨b, i, none⟩ = l[i]? := by
 obtain ⟨b, o, rfl, g⟩ := h.rO.sl.get hi
 obtain ⟨_, ⟨h2, _⟩ | ⟨b', cs, h3, _⟩⟩ := h.rO
 ·cases h2
 ·cases h3; exact ⟨b, rfl, by simpa using g⟩
theorem Hp.and {R : Mem} {L : List HP} {P : HP} {p : Prop} {M : Mem} (h : Hp R ((fun A => P A ∧ p) :: L) M) : p ∧ Hp R (P :: L) M := by
 obtain ⟨A, ⟨_, hp⟩, _⟩ := h.fst
 exact ⟨hp, h.imp fun A ha => ha.1⟩
theorem Hp.GY {R : Mem} {L : List HP} {z T : Nat} {b n c : Nat} {l : List Value} {M : Mem} (h : Hp R (own z T (some ⟨b, 0, none⟩) n c l :: L) M) :
  ∃ cs, (cs.length = c * z ∧ n ≤ c ∧ l.length = n * z ∧ ∀ i, i < n * z → cs[i]? = l[i]?) ∧ Hp R (pt b cs T :: L) M := by
 have h2 : Hp R (exs (fun cs : List Value => fun A => pt b cs T A ∧ (cs.length = c * z ∧ n ≤ c ∧ l.length = n * z ∧ ∀ i, i < n * z → cs[i]? = l[i]?)) :: L) M := by
  refine h.imp fun A ha => ?_
  obtain ⟨h1, ⟨h2, _⟩ | ⟨b', cs, h3, h4, h5, h6, h7⟩⟩ := ha
  ·cases h2
  ·cases h3
   exact ⟨cs.toList, by simpa [pt] using h4, by simpa using h5, h6, h1, fun i hi => by simpa using h7 i hi⟩
 obtain ⟨cs, h3⟩ := Hp.cP.1 h2
 exact ⟨cs, h3.and⟩
theorem Hp.DR {R : Mem} {L : List HP} {z T : Nat} {b n c i : Nat} {l : List Value} {M : Mem} {v : Value} (h : Hp R (own z T (some ⟨b, 0, none⟩) n c l :: L) M) (hi : i < l.length) :
  M.wr ⟨b, i, none⟩ = true ∧ Hp R (own z T (some ⟨b, 0, none⟩) n c (l.set i v) :: L) (M.put ⟨b, i, none⟩ v) := by
 obtain ⟨cs, ⟨h1, h2, h3, h4⟩, h5⟩ := h.GY
 have hz : n * z ≤ c * z := Nat.mul_le_mul_right z h2
 obtain ⟨g1, g2⟩ := h5.put (v := v) (o := i) (by omega)
 refine ⟨g1, g2.GW (by simpa using h3) (by simpa using h1) h2 fun j hj => ?_⟩
 rw [List.getElem?_set, List.getElem?_set, h4 j hj]
 by_cases hij : i = j
 ·subst hij; rw [if_pos rfl, if_pos rfl, if_pos (by omega), if_pos (by omega)]
 ·rw [if_neg hij, if_neg hij]
theorem EV {R : Mem} {L L' : List HP} {z T : Nat} {b n c i : Nat} {l : List Value} {M : Mem} {v : Value} {G : Mem → Prop} (h : Hp R L M) (hp : cv L (own z T (some ⟨b, 0, none⟩) n c l) L') (hi : i < l.length)
  (k : ∀ M', Hp R (own z T (some ⟨b, 0, none⟩) n c (l.set i v) :: L') M' → G M') : aF M ⟨b, i, none⟩ v G :=
 ⟨((h.pick hp).DR (v := v) hi).1, k _ ((h.pick hp).DR (v := v) hi).2⟩
class EW (l : List Value) (n : Nat) (v : outParam Value) : Prop where
 eq : l[n]? = some v
instance EW.zero {x : Value} {l : List Value} : EW (x :: l) 0 x := ⟨rfl⟩
instance EW.succ {x v : Value} {l : List Value} {n : Nat} [h : EW l n v] : EW (x :: l) (n + 1) v := ⟨by simpa using h.eq⟩
class ke (b o : Nat) (L : List HP) (v : outParam Value) : Prop where
 ld : ∀ (R M : Mem), Hp R L M → M.ld ⟨b, o, none⟩ = some v
instance ke.here {b o T : Nat} {cs : List Value} {L : List HP} {v : Value} [h : EW cs o v] : ke b o (pt b cs T :: L) v := ⟨fun R M hM => hM.ld .here h.eq⟩
instance (priority := low) ke.there {b o : Nat} {P : HP} {L : List HP} {v : Value} [h : ke b o L v] : ke b o (P :: L) v := ⟨fun R M hM => h.ld R M hM.drop⟩
theorem ae {R : Mem} {L : List HP} {M : Mem} {b o : Nat} {k : IntKind} {n : Int} {G : Int → Prop} (h : Hp R L M) [hp : ke b o L (.int k n)] (g : G n) : aE (M.ld ⟨b, o, none⟩) k G := by
 rw [hp.ld R M h]; simpa [aE] using g
theorem DS {R : Mem} {L : List HP} {M : Mem} {b o : Nat} {t : Bool} {G : Bool → Prop} (h : Hp R L M) [hp : ke b o L (.bool t)] (g : G t) : cY (M.ld ⟨b, o, none⟩) G := by
 rw [hp.ld R M h]; exact g
theorem Qm {R : Mem} {L : List HP} {M : Mem} {b o : Nat} {t : ByteArray} {G : ByteArray → Prop} (h : Hp R L M) [hp : ke b o L (.string t)] (g : G t) : gh (M.ld ⟨b, o, none⟩) G := by
 rw [hp.ld R M h]; exact g
theorem om {R : Mem} {L : List HP} {M : Mem} {b o : Nat} {p : Option Addr} {G : Option Addr → Prop} (h : Hp R L M) [hp : ke b o L (.pointer p)] (g : G p) : cz (M.ld ⟨b, o, none⟩) G := by
 rw [hp.ld R M h]; exact g
theorem av {R : Mem} {L : List HP} {M : Mem} {b o : Nat} {A : Option Addr} {n c : Nat} {G : Option Addr → Nat → Nat → Prop} (h : Hp R L M) [hp : ke b o L (.slice A n c)] (g : G A n c) : ay (M.ld ⟨b, o, none⟩) G := by
 rw [hp.ld R M h]; exact g
theorem GZ {R : Mem} {L : List HP} {M : Mem} {b o : Nat} {v : Value} {G : Value → Prop} (h : Hp R L M) [hp : ke b o L v] (g : G v) : fL (M.ld ⟨b, o, none⟩) G := by
 rw [hp.ld R M h]; exact g
theorem cH {R : Mem} {L : List HP} {M : Mem} {b o : Nat} {v : Value} (h : Hp R L M) [hp : ke b o L v] : M.ld ⟨b, o, none⟩ = some v := hp.ld R M h
theorem Hp.G0 {R : Mem} {L L' : List HP} {b T : Nat} {cs : List Value} {M : Mem} (h : Hp R L M) (hp : cv L (pt b cs T) L') : Sl M (some ⟨b, 0, none⟩) cs := fun i hi => by
 rw [DQ (h.pick hp).xJ, Nat.zero_add]; simp
theorem Hp.JX {z T : Nat} {A : Option Addr} {n c : Nat} {l : List Value} : ∀ X, own z T A n c l X → ∀ x ∈ wM A, ∃ o, X x = some o := fun X hX x hx => pD.some hX hx
theorem Hp.append {P : Program} {t e z bytes ty : Nat} {zero : List Value} {A B : Option Addr} {n c m d : Nat} {l r : List Value} {R : Mem} {L : List HP} {M : Mem} {K : Value → Mem → Prop} {Kp : List PanicEntry → Mem → Prop}
  (h : Hp R (own z e A n c l :: L) M) (E : bn P t e z bytes zero) (hr : Sl M B r) (jr : r.length = m * z) (hp : ∀ v ∈ r, Value.plainCell v = true) (hb : (n + m) * bytes ≤ 140737488355328)
  (k : ∀ A' c' M', Hp R (own z e A' (n + m) c' (l ++ r) :: L) M' → K (.slice A' (n + m) c') M') :
  bh P (Builtin.append_ #[t, t] ty #[.slice A n c, .slice B m d]) M K Kp := by
 refine E.append h.rO hr jr hp hb fun A' c' M' h1 h2 h3 => k A' c' M' ?_
 refine h.change (Q := own z e A' (n + m) c' (l ++ r)) (D := wM A) (D' := wM A') Hp.JX h2 (fun x hx => ?_) h1.Cu
 rcases h3 with rfl | ⟨b, rfl, hb⟩
 ·exact .inl hx
 ·simp only [wM, List.mem_singleton] at hx; subst hx; exact .inr hb
theorem Hp.make {P : Program} {t e z bytes n : Nat} {zero : List Value} {R : Mem} {L : List HP} {M : Mem} {K : Value → Mem → Prop} {Kp : List PanicEntry → Mem → Prop}
  (h : Hp R L M) (E : bn P t e z bytes zero) (hb : n * bytes ≤ 140737488355328)
  (k : ∀ b M', Hp R (own z e (some ⟨b, 0, none⟩) n n (List.replicate n zero).flatten :: L) M' → K (.slice (some ⟨b, 0, none⟩) n n) M') :
  bh P (Instr.makeSlice t (.int .i64 (n : Int)) (.int .i64 (n : Int))) M K Kp := by
 refine E.make hb fun b hb => k b _ ?_
 have hz : zero.length = z := by obtain ⟨_, _, _, _, _, _, _, _, hl, _⟩ := E; exact hl
 exact (h.new (P := pt b (List.replicate n zero).flatten e) hb (by show (single b _) b = _; simp [single])).yH (by simp [hz])
theorem Hp.Ts {R : Mem} {L : List HP} {P : HP} {M : Mem} (h : Hp R (P :: L) M) : ∃ R' A, P A ∧ R.le R' ∧ A.le R' ∧ Hp R' L M := by
 obtain ⟨B, rfl, h1, X, Y, rfl, h2, hp, hs⟩ := h
 obtain ⟨d1, d2⟩ := Mem.eL.1 h1
 exact ⟨R.union X, X, hp, Mem.pV _ _, Mem.jJ d1, Y, by rw [Mem.c7], Mem.iB.2 ⟨d2, h2⟩, hs⟩
theorem Sl.le {M M' : Mem} {A : Option Addr} {l : List Value} (h : Sl M A l) (hle : M.le M') : Sl M' A l := h.mono hle
theorem Hp.G1 {R : Mem} {L : List HP} {z T : Nat} {A : Option Addr} {n c : Nat} {l : List Value} {M : Mem} (h : Hp R (own z T A n c l :: L) M) : ∃ R', R.le R' ∧ Sl R' A l ∧ Hp R' L M := by
 obtain ⟨R', X, hp, h1, h2, h3⟩ := h.Ts
 exact ⟨R', h1, Sl.le (pD.sl hp) h2, h3⟩
theorem cv.idx {P : HP} : ∀ {ls : List HP} {i : Nat}, i < ls.length → cv (ls.set i P) P (ls.eraseIdx i)
 | [], _, h => by simp at h
 | Q :: l, 0, _ => .here
 | Q :: l, i + 1, h => .there (cv.idx (by simpa using h))
theorem cv.app {ls ls' L : List HP} {P : HP} (h : cv ls P ls') : cv (ls ++ L) P (ls' ++ L) := by
 induction h with
 | here => exact .here
 | there _ ih => exact .there ih
theorem bF.aO {l L : List HP} {M : Mem} : bF (sep l :: L) M ↔ bF (l ++ L) M := by
 constructor
 ·rintro ⟨X, Y, rfl, h2, hp, hs⟩; exact bF.app hp hs h2
 ·intro h; obtain ⟨X, Y, rfl, h2, hp, hs⟩ := bF.split h; exact ⟨X, Y, rfl, h2, hp, hs⟩
theorem Hp.focus {R : Mem} {L ls : List HP} {P : HP} {M : Mem} {i : Nat} (h : Hp R (sep ls :: L) M) (hi : ls[i]? = some P) : Hp R (P :: sep (ls.eraseIdx i) :: L) M := by
 obtain ⟨hl, he⟩ := List.getElem?_eq_some_iff.1 hi
 have hp : cv ls P (ls.eraseIdx i) := by
  have := cv.idx (P := P) hl
  rwa [show ls.set i P = ls from by rw [← he]; simp] at this
 exact h.map fun A hs => (bF.pick hp.app (bF.aO.1 hs)).tail fun B hb => bF.aO.2 hb
theorem Hp.JY {R : Mem} {L ls : List HP} {P : HP} {M : Mem} {i : Nat} (h : Hp R (P :: sep (ls.eraseIdx i) :: L) M) (hi : i < ls.length) : Hp R (sep (ls.set i P) :: L) M :=
 h.map fun A hs => bF.aO.2 (bF.j9 (cv.idx hi).app (hs.tail fun B hb => bF.aO.1 hb))
theorem bU {k : IntKind} {n : Int} {G : Int → Prop} (g : G n) : aE (some (.int k n)) k G := by simpa [aE] using g
theorem eC {t : Bool} {G : Bool → Prop} (g : G t) : cY (some (.bool t)) G := g
theorem Qn {t : ByteArray} {G : ByteArray → Prop} (g : G t) : gh (some (.string t)) G := g
theorem gK {p : Option Addr} {G : Option Addr → Prop} (g : G p) : cz (some (.pointer p)) G := g
theorem aY {A : Option Addr} {n c : Nat} {G : Option Addr → Nat → Nat → Prop} (g : G A n c) : ay (some (.slice A n c)) G := g
theorem G2 {v : Value} {G : Value → Prop} (g : G v) : fL (some v) G := g
theorem aS {b o : Nat} {G : Nat → Nat → Prop} (g : G b o) : az (some ⟨b, o, none⟩) G := g
theorem pW {M : Mem} {a : Addr} {i : Nat} : M.dP a i 0 = some [] := rfl
theorem G3 {M : Mem} {b o i n : Nat} {v : Value} {vs : List Value} (h : M.ld ⟨b, o + i, none⟩ = some v) (g : M.dP ⟨b, o, none⟩ (i + 1) n = some vs) : M.dP ⟨b, o, none⟩ i (n + 1) = some (v :: vs) := by
 simp only [Mem.dP, add_eq, h, g, Option.map_some]
theorem xL {M : Mem} {b o : Nat} : ∀ (n i : Nat), M.dP ⟨b, o, none⟩ (i + 1) n = M.dP ⟨b, o + 1, none⟩ i n
 | 0, i => rfl
 | n + 1, i => by simp only [Mem.dP, add_eq, show o + (i + 1) = o + 1 + i from by omega, xL n (i + 1)]
theorem gL {M : Mem} {b o n : Nat} {v : Value} {vs : List Value} (h : M.ld ⟨b, o, none⟩ = some v) (g : M.dP ⟨b, o + 1, none⟩ 0 n = some vs) : M.dP ⟨b, o, none⟩ 0 (n + 1) = some (v :: vs) := G3 h (by rw [xL]; exact g)
def Src (R : Mem) (L : List HP) (A : Option Addr) (l : List Value) : Prop := ∀ M, Hp R L M → Sl M A l
theorem Src.own {R : Mem} {L L' : List HP} {z T : Nat} {A : Option Addr} {n c : Nat} {l : List Value} (hp : cv L (own z T A n c l) L') : Src R L A l := fun M h => h.sl hp
theorem Src.pt {R : Mem} {L L' : List HP} {b T : Nat} {l : List Value} (hp : cv L (pt b l T) L') : Src R L (some ⟨b, 0, none⟩) l := fun M h => h.G0 hp
theorem Src.ro {R : Mem} {L : List HP} {A : Option Addr} {l : List Value} (hr : Sl R A l) : Src R L A l := fun M h => h.slR hr
theorem Src.cons {R : Mem} {L : List HP} {P : HP} {A : Option Addr} {l : List Value} (hr : Src R L A l) : Src R (P :: L) A l := fun M h => hr M h.drop
theorem Src.nil (R : Mem) (L : List HP) : Src R L none [] := fun M h => rfl
theorem Src.take {R : Mem} {L : List HP} {A : Option Addr} {l : List Value} (h : Src R L A l) (k : Nat) : Src R L A (l.take k) := fun M hM => (h M hM).take k
theorem Sl.Qo {M : Mem} {A : Option Addr} {l : List Value} {m c z : Nat} (h : Sl M A l) (hc : l.length ≤ c * z) : Sl M (Go.AF.iO A m c z) (l.drop (m * z)) := by
 unfold Go.AF.iO
 split
 ·rename_i he
  have : l.drop (m * z) = [] := List.drop_of_length_le (by rw [← he]; exact hc)
  rw [this]
  match A, h with
  | none, h => rfl
  | some ⟨b, o, none⟩, h => intro i hi; simp at hi
 ·match A, h with
  | none, h => rw [show l = [] from h]; simp [Sl]
  | some ⟨b, o, none⟩, h =>
   rw [Option.map_some, add_eq]
   intro i hi
   rw [List.length_drop] at hi
   rw [show o + m * z + i = o + (m * z + i) from by omega, h (m * z + i) (by omega), List.getElem?_drop]
theorem Src.Tt {R : Mem} {L : List HP} {A : Option Addr} {l : List Value} {m c z : Nat} (h : Src R L A l) (hc : l.length ≤ c * z) : Src R L (Go.AF.iO A m c z) (l.drop (m * z)) := fun M hM => (h M hM).Qo hc
theorem Sl.at {M : Mem} {b o i o' : Nat} {l : List Value} {v : Value} (h : Sl M (some ⟨b, o, none⟩) l) (e : o' = o + i) (hv : l[i]? = some v) : M.ld ⟨b, o', none⟩ = some v := by
 subst e
 rw [h i (List.getElem?_eq_some_iff.1 hv).1, hv]
theorem Sl.Lx {M : Mem} {A : Option Addr} {l : List Value} (h : Sl M A l) (hl : 0 < l.length) : ∃ b o, A = some ⟨b, o, none⟩ := by
 obtain ⟨b, o, e, _⟩ := h.get hl; exact ⟨b, o, e⟩
theorem Src.Tu {R : Mem} {L : List HP} {A : Option Addr} {l : List Value} (h : Src R L A l) (hl : 0 < l.length) {M : Mem} (hM : Hp R L M) : ∃ b o, A = some ⟨b, o, none⟩ := (h M hM).Lx hl
theorem Sl.dP {M : Mem} {b o o' i n : Nat} {l vs : List Value} (h : Sl M (some ⟨b, o, none⟩) l) (e : o' = o + i) (hv : (l.drop i).take n = vs) (hn : vs.length = n) : M.dP ⟨b, o', none⟩ 0 n = some vs := by
 subst e
 have := rM (M := M) (b := b) (o := o + i) vs 0 (fun j hj => by
  subst hv
  rw [List.length_take, List.length_drop] at hj
  rw [show o + i + (0 + j) = o + (i + j) from by omega, h (i + j) (by omega), List.getElem?_take, if_pos (by omega), List.getElem?_drop])
 rwa [hn] at this
theorem aW {M : Mem} {a : Addr} {k : IntKind} {n : Int} {G : Int → Prop} (h : M.ld a = some (.int k n)) (g : G n) : aE (M.ld a) k G := by rw [h]; simpa [aE] using g
theorem jK {M : Mem} {a : Addr} {p : Option Addr} {G : Option Addr → Prop} (h : M.ld a = some (.pointer p)) (g : G p) : cz (M.ld a) G := by rw [h]; exact g
theorem MS {M : Mem} {a : Addr} {A : Option Addr} {n c : Nat} {G : Option Addr → Nat → Nat → Prop} (h : M.ld a = some (.slice A n c)) (g : G A n c) : ay (M.ld a) G := by rw [h]; exact g
theorem Hp.copy {P : Program} {t e z bytes ty k : Nat} {zero : List Value} {B : Option Addr} {m d : Nat} {r : List Value} {R : Mem} {L L' : List HP} {M : Mem} {K : Value → Mem → Prop} {Kp : List PanicEntry → Mem → Prop}
  (h : Hp R L M) (hk : cv L (Go.AF.pt k [] e) L') (E : bn P t e z bytes zero) (hr : Src R L B r) (jr : r.length = m * z) (hp : ∀ v ∈ r, Value.plainCell v = true) (hb : m * bytes ≤ 140737488355328)
  (g : ∀ A' c' M', Hp R (Go.AF.own z e A' m c' r :: L') M' → K (.slice A' m c') M') :
  bh P (Builtin.append_ #[t, t] ty #[.slice (some ⟨k, 0, none⟩) 0 0, .slice B m d]) M K Kp := by
 have h2 : Hp R (Go.AF.own z e (some ⟨k, 0, none⟩) 0 0 [] :: L') M := (h.pick hk).yH (by simp)
 refine h2.append E (hr _ h) jr hp (by simpa using hb) fun A' c' M' h3 => ?_
 rw [Nat.zero_add] at h3 ⊢
 exact g A' c' M' (by simpa using h3)
theorem Hp.JZ {P : Program} {t e z bytes ty k : Nat} {zero : List Value} {A : Option Addr} {n c m d : Nat} {l r : List Value} {R : Mem} {L L' kN : List HP} {M : Mem} {K : Value → Mem → Prop} {Kp : List PanicEntry → Mem → Prop}
  (h : Hp R L M) (ha : cv L (Go.AF.own z e A n c l) L') (hk : cv L' (Go.AF.pt k r e) kN) (E : bn P t e z bytes zero) (jr : r.length = m * z) (hp : ∀ v ∈ r, Value.plainCell v = true) (hb : (n + m) * bytes ≤ 140737488355328)
  (g : ∀ A' c' M', Hp R (Go.AF.own z e A' (n + m) c' (l ++ r) :: kN) M' → K (.slice A' (n + m) c') M') :
  bh P (Builtin.append_ #[t, t] ty #[.slice A n c, .slice (some ⟨k, 0, none⟩) m d]) M K Kp := by
 have h2 := h.pick ha
 exact h2.append E (h2.G0 (.there hk)) jr hp hb fun A' c' M' h3 => g A' c' M' ((h3.pick (.there hk)).drop)
theorem Hp.J0 {P : Program} {t e z bytes ty : Nat} {zero : List Value} {A B : Option Addr} {n c m d : Nat} {l r : List Value} {R : Mem} {L L' : List HP} {M : Mem} {K : Value → Mem → Prop} {Kp : List PanicEntry → Mem → Prop}
  (h : Hp R L M) (ha : cv L (Go.AF.own z e A n c l) L') (E : bn P t e z bytes zero) (hr : Src R L B r) (jr : r.length = m * z) (hp : ∀ v ∈ r, Value.plainCell v = true) (hb : (n + m) * bytes ≤ 140737488355328)
  (g : ∀ A' c' M', Hp R (Go.AF.own z e A' (n + m) c' (l ++ r) :: L') M' → K (.slice A' (n + m) c') M') :
  bh P (Builtin.append_ #[t, t] ty #[.slice A n c, .slice B m d]) M K Kp :=
 (h.pick ha).append E (hr _ h) jr hp hb g
theorem eu {t : Bool} {X Y : Prop} (h : t = true) (g : X) : aK t X Y := by subst h; exact g
theorem lW {t : Bool} {X Y : Prop} (h : t = false) (g : Y) : aK t X Y := by subst h; exact g
theorem af {X Y : Prop} (g : X) : aK true X Y := g
theorem ai {X Y : Prop} (g : Y) : aK false X Y := g
attribute [irreducible] pt ob own sep exs fact
end Go.AF
