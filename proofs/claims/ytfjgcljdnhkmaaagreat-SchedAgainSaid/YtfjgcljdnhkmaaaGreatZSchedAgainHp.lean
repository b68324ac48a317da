/- A part of proofs about one program. -/
import Derived.Test.YtfjgcljdnhkmaaaGreatZSchedAgainLib
set_option linter.unusedVariables false
namespace Go.AF
abbrev HP := Mem → Prop
theorem Mem.fN {A B : Mem} (h : A.dj B) : A.union B = B.union A := by
 funext b; unfold Mem.union; rcases h b with h | h <;> rw [h]
 ·cases B b <;> rfl
 ·cases A b <;> rfl
theorem Mem.qL {A B : Mem} (h : A.dj B) : B.dj A := fun b => (h b).symm
theorem Mem.uk (A B : Mem) : A.le (A.union B) := fun b o h => Mem.union_left h
theorem Mem.mT {A B : Mem} (h : A.dj B) : B.le (A.union B) := by rw [Mem.fN h]; exact Mem.uk B A
theorem Mem.le_refl (A : Mem) : A.le A := fun _ _ h => h
theorem Mem.le_trans {A B D : Mem} (h : A.le B) (g : B.le D) : A.le D := fun b o x => g b o (h b o x)
theorem Mem.pN (A : Mem) : Mem.empty.union A = A := by funext b; rfl
theorem Mem.ET (A : Mem) : A.union Mem.empty = A := by funext b; unfold Mem.union Mem.empty; cases A b <;> rfl
theorem Mem.Nd (A : Mem) : A.dj Mem.empty := fun _ => .inr rfl
theorem Mem.yY (A : Mem) : Mem.empty.dj A := fun _ => .inl rfl
def bZ : List HP → HP
 | [], _ => True
 | P :: l, M => ∃ A B : Mem, M = A.union B ∧ A.dj B ∧ P A ∧ bZ l B
def Mem.sub (M A : Mem) : Mem := fun b => match A b with | some _ => none | none => M b
theorem Mem.GU (A M : Mem) : A.dj (M.sub A) := fun b => by
 unfold Mem.sub; cases h : A b <;> simp
theorem Mem.vO {A M : Mem} (h : A.le M) : A.union (M.sub A) = M := by
 funext b; unfold Mem.union Mem.sub
 cases hb : A b with
 | none => rfl
 | some o => rw [h b o hb]
theorem bZ.mono : ∀ {l : List HP} {A M : Mem}, bZ l A → A.le M → bZ l M
 | [], _, _, _, _ => trivial
 | P :: l, A, M, ⟨X, Y, e, hd, hp, hs⟩, hle => by
  have hX : X.le M := fun b o h => hle b o (by rw [e]; exact Mem.union_left h)
  refine ⟨X, M.sub X, (Mem.vO hX).symm, Mem.GU X M, hp, bZ.mono hs fun b o h => ?_⟩
  unfold Mem.sub
  rcases hd b with hx | hx
  ·rw [hx]; exact hle b o (by rw [e, Mem.fN hd]; exact Mem.union_left h)
  ·rw [h] at hx; cases hx
theorem bZ.swap {P Q : HP} {l : List HP} {M : Mem} (h : bZ (P :: Q :: l) M) : bZ (Q :: P :: l) M := by
 obtain ⟨A, B, rfl, h1, hP, A', B', rfl, h2, hQ, hl⟩ := h
 obtain ⟨h3, h4⟩ := Mem.gx.1 h1
 refine ⟨A', A.union B', ?_, Mem.gx.2 ⟨Mem.qL h3, h2⟩, hQ, A, B', rfl, h4, hP, hl⟩
 rw [← Mem.eU, Mem.fN h3, Mem.eU]
theorem bZ.drop {P : HP} {l : List HP} {M : Mem} (h : bZ (P :: l) M) : bZ l M := by
 obtain ⟨A, B, rfl, h1, hP, hl⟩ := h
 exact hl.mono (Mem.mT h1)
theorem bZ.tail {P : HP} {l l' : List HP} {M : Mem} (h : bZ (P :: l) M) (f : ∀ A, bZ l A → bZ l' A) : bZ (P :: l') M := by
 obtain ⟨A, B, e, h1, hP, hl⟩ := h
 exact ⟨A, B, e, h1, hP, f _ hl⟩
theorem bZ.imp {P Q : HP} {l : List HP} {M : Mem} (h : bZ (P :: l) M) (f : ∀ A, P A → Q A) : bZ (Q :: l) M := by
 obtain ⟨A, B, e, h1, hP, hl⟩ := h
 exact ⟨A, B, e, h1, f _ hP, hl⟩
theorem bZ.app : ∀ {l l' : List HP} {A B : Mem}, bZ l A → bZ l' B → A.dj B → bZ (l ++ l') (A.union B)
 | [], l', A, B, _, h, hd => h.mono (Mem.mT hd)
 | P :: l, l', A, B, ⟨X, Y, e, h1, hp, hs⟩, h, hd => by
  subst e
  obtain ⟨d1, d2⟩ := Mem.kU.1 hd
  exact ⟨X, Y.union B, by rw [Mem.eU], Mem.gx.2 ⟨h1, d1⟩, hp, bZ.app hs h d2⟩
theorem bZ.split : ∀ {l l' : List HP} {M : Mem}, bZ (l ++ l') M → ∃ A B, M = A.union B ∧ A.dj B ∧ bZ l A ∧ bZ l' B
 | [], l', M, h => ⟨Mem.empty, M, (Mem.pN M).symm, Mem.yY M, trivial, h⟩
 | P :: l, l', M, ⟨X, Y, e, h1, hp, hs⟩ => by
  obtain ⟨A, B, rfl, h2, ha, hb⟩ := bZ.split hs
  obtain ⟨d1, d2⟩ := Mem.gx.1 h1
  exact ⟨X.union A, B, by rw [e, Mem.eU], Mem.kU.2 ⟨d2, h2⟩, ⟨X, A, rfl, d1, hp, ha⟩, hb⟩
inductive de : List HP → HP → List HP → Prop
 | here {P : HP} {l : List HP} : de (P :: l) P l
 | there {P Q : HP} {l l' : List HP} : de l P l' → de (Q :: l) P (Q :: l')
theorem bZ.pick {l l' : List HP} {P : HP} (hp : de l P l') : ∀ {M : Mem}, bZ l M → bZ (P :: l') M := by
 induction hp with
 | here => exact fun h => h
 | there _ ih => exact fun h => (h.tail fun _ => ih).swap
theorem bZ.nK {l l' : List HP} {P : HP} (hp : de l P l') : ∀ {M : Mem}, bZ (P :: l') M → bZ l M := by
 induction hp with
 | here => exact fun h => h
 | there _ ih => exact fun h => h.swap.tail fun _ => ih
def sep (l : List HP) : HP := bZ l
def exs {α : Type} (P : α → HP) : HP := fun M => ∃ x, P x M
def fact (p : Prop) : HP := fun _ => p
def pt (b : Nat) (cs : List Value) (T : Nat) : HP := fun A => A b = some (.cells cs.toArray T (0, 0))
def ob (b : Nat) (o : Obj) : HP := fun A => A b = some o
def own (z T : Nat) (A : Option Addr) (n c : Nat) (l : List Value) : HP := fun M => tT M z T A n c l
def Hp (R : Mem) (L : List HP) : HP := fun M => ∃ B, M = R.union B ∧ R.dj B ∧ bZ L B
theorem Hp.start (R : Mem) : Hp R [] R := ⟨Mem.empty, (Mem.ET R).symm, Mem.Nd R, trivial⟩
theorem Hp.le {R : Mem} {L : List HP} {M : Mem} (h : Hp R L M) : R.le M := by obtain ⟨B, rfl, _, _⟩ := h; exact Mem.uk _ _
theorem Hp.TZ {R : Mem} {L : List HP} {M : Mem} (h : Hp R L M) : nI [] R M := oL.TZ (fun b o hb => h.le b o hb) []
theorem Hp.map {R : Mem} {L L' : List HP} {M : Mem} (h : Hp R L M) (f : ∀ A, bZ L A → bZ L' A) : Hp R L' M := by
 obtain ⟨B, e, h1, h2⟩ := h; exact ⟨B, e, h1, f _ h2⟩
theorem Hp.pick {R : Mem} {L L' : List HP} {P : HP} {M : Mem} (h : Hp R L M) (hp : de L P L') : Hp R (P :: L') M := h.map fun _ => bZ.pick hp
theorem Hp.nK {R : Mem} {L L' : List HP} {P : HP} {M : Mem} (h : Hp R (P :: L') M) (hp : de L P L') : Hp R L M := h.map fun _ => bZ.nK hp
theorem Hp.swap {R : Mem} {L : List HP} {P Q : HP} {M : Mem} (h : Hp R (P :: Q :: L) M) : Hp R (Q :: P :: L) M := h.map fun _ => bZ.swap
theorem Hp.drop {R : Mem} {L : List HP} {P : HP} {M : Mem} (h : Hp R (P :: L) M) : Hp R L M := h.map fun _ => bZ.drop
theorem Hp.imp {R : Mem} {L : List HP} {P Q : HP} {M : Mem} (h : Hp R (P :: L) M) (f : ∀ A, P A → Q A) : Hp R (Q :: L) M := h.map fun _ hs => hs.imp f
theorem Hp.dS {α : Type} {R : Mem} {L : List HP} {P : α → HP} {M : Mem} : Hp R (exs P :: L) M ↔ ∃ x, Hp R (P x :: L) M := by
 constructor
 ·rintro ⟨B, e, h1, X, Y, e2, h2, ⟨x, hp⟩, hs⟩; exact ⟨x, B, e, h1, X, Y, e2, h2, hp, hs⟩
 ·rintro ⟨x, h⟩; exact h.imp fun A ha => ⟨x, ha⟩
theorem Hp.fT {R : Mem} {L : List HP} {p : Prop} {M : Mem} : Hp R (fact p :: L) M ↔ p ∧ Hp R L M := by
 constructor
 ·intro h; exact ⟨by obtain ⟨B, e, h1, X, Y, e2, h2, hp, hs⟩ := h; exact hp, h.drop⟩
 ·rintro ⟨hp, B, e, h1, hs⟩; exact ⟨B, e, h1, Mem.empty, B, (Mem.pN B).symm, Mem.yY B, hp, hs⟩
theorem Hp.bk {R : Mem} {L l : List HP} {M : Mem} : Hp R (sep l :: L) M ↔ Hp R (l ++ L) M := by
 constructor
 ·rintro ⟨B, e, h1, X, Y, rfl, h2, hp, hs⟩; exact ⟨_, e, h1, bZ.app hp hs h2⟩
 ·rintro ⟨B, e, h1, h⟩
  obtain ⟨X, Y, rfl, h2, hp, hs⟩ := bZ.split h
  exact ⟨_, e, h1, X, Y, rfl, h2, hp, hs⟩
theorem Hp.fst {R : Mem} {L : List HP} {P : HP} {M : Mem} (h : Hp R (P :: L) M) : ∃ A, P A ∧ A.le M ∧ R.dj A := by
 obtain ⟨B, rfl, h1, X, Y, rfl, h2, hp, hs⟩ := h
 exact ⟨X, hp, Mem.le_trans (Mem.uk X Y) (Mem.mT h1), (Mem.gx.1 h1).1⟩
theorem Hp.yZ {R : Mem} {L : List HP} {b T : Nat} {cs : List Value} {M : Mem} (h : Hp R (pt b cs T :: L) M) : M b = some (.cells cs.toArray T (0, 0)) := by
 obtain ⟨A, hp, hle, _⟩ := h.fst; exact hle _ _ hp
theorem Hp.Nf {R : Mem} {L : List HP} {b : Nat} {o : Obj} {M : Mem} (h : Hp R (ob b o :: L) M) : M b = some o := by
 obtain ⟨A, hp, hle, _⟩ := h.fst; exact hle _ _ hp
theorem Hp.ld {R : Mem} {L L' : List HP} {b T o : Nat} {cs : List Value} {M : Mem} {v : Value} (h : Hp R L M) (hp : de L (pt b cs T) L') (hv : cs[o]? = some v) : M.ld ⟨b, o, none⟩ = some v := by
 rw [Ja (h.pick hp).yZ]; simpa using hv
theorem Hp.set {R : Mem} {L : List HP} {P Q : HP} {M : Mem} {b : Nat} {o x : Obj} (h : Hp R (P :: L) M) (hb : ∀ A, P A → A b = some x) (hq : ∀ A, P A → Q (A.set b o)) : Hp R (Q :: L) (M.set b o) := by
 obtain ⟨B, rfl, h1, X, Y, rfl, h2, hp, hs⟩ := h
 have hx := hb X hp
 have hY : Y b = none := by rcases h2 b with h | h; rw [hx] at h; cases h; exact h
 have hR : R b = none := by rcases h1 b with h | h; exact h; rw [Mem.union_left hx] at h; cases h
 have hd := sM (o := o) (b := b) h2 hY
 refine ⟨(X.set b o).union Y, ?_, ?_, X.set b o, Y, rfl, hd, hq X hp, hs⟩
 ·rw [← kH, Mem.fN h1, kH, Mem.fN]
  exact sM (Mem.qL h1) hR
 ·rw [← kH]; exact Mem.qL (sM (Mem.qL h1) hR)
theorem Hp.new {R : Mem} {L : List HP} {P : HP} {M : Mem} {b : Nat} {o : Obj} (h : Hp R L M) (hb : M b = none) (hq : P (single b o)) : Hp R (P :: L) (M.set b o) := by
 obtain ⟨B, rfl, h1, hs⟩ := h
 obtain ⟨hR, hB⟩ := nF hb
 refine ⟨(single b o).union B, ?_, ?_, single b o, B, rfl, Mem.qL (kI.2 hB), hq, hs⟩
 ·rw [Mem.fN h1, kH, Mem.fN, sN hB, Mem.fN (kI.2 hB)]
  exact sM (Mem.qL h1) hR
 ·exact Mem.gx.2 ⟨kI.2 hR, h1⟩
theorem Hp.put {R : Mem} {L : List HP} {M : Mem} {b o T : Nat} {v : Value} {cs : List Value} (h : Hp R (pt b cs T :: L) M) (ho : o < cs.length) : M.wr ⟨b, o, none⟩ = true ∧ Hp R (pt b (cs.set o v) T :: L) (M.put ⟨b, o, none⟩ v) := by
 refine ⟨SK h.yZ (by simpa using ho), ?_⟩
 rw [Na h.yZ]
 refine h.set (x := .cells cs.toArray T (0, 0)) (fun A ha => ha) fun A ha => ?_
 show (A.set b _) b = _
 rw [eW]; simp
class KE (l : List Value) (n : Nat) (v : Value) (l' : outParam (List Value)) : Prop where
 eq : n < l.length ∧ l' = l.set n v
instance KE.zero {x v : Value} {l : List Value} : KE (x :: l) 0 v (v :: l) := ⟨by simp⟩
instance KE.succ {x v : Value} {l l' : List Value} {n : Nat} [h : KE l n v l'] : KE (x :: l) (n + 1) v (x :: l') := ⟨by obtain ⟨h1, h2⟩ := h.eq; subst h2; simp [h1]⟩
class BS (b o : Nat) (v : Value) (L : List HP) (L' : outParam (List HP)) : Prop where
 put : ∀ (R M : Mem), Hp R L M → M.wr ⟨b, o, none⟩ = true ∧ Hp R L' (M.put ⟨b, o, none⟩ v)
instance BS.here {b o T : Nat} {v : Value} {cs cs' : List Value} {L : List HP} [h : KE cs o v cs'] : BS b o v (pt b cs T :: L) (pt b cs' T :: L) :=
 ⟨fun R M hM => by obtain ⟨h1, rfl⟩ := h.eq; exact hM.put h1⟩
theorem Hp.tail {R : Mem} {P : HP} {L : List HP} {M : Mem} (h : Hp R (P :: L) M) : ∃ R', R.le R' ∧ Hp R' L M ∧ ∀ M' L', Hp R' L' M' → R'.le M' → Hp R (P :: L') M' := by
 obtain ⟨B, rfl, h1, X, Y, rfl, h2, hp, hs⟩ := h
 obtain ⟨d1, d2⟩ := Mem.gx.1 h1
 refine ⟨R.union X, Mem.uk _ _, ⟨Y, by rw [Mem.eU], Mem.kU.2 ⟨d2, h2⟩, hs⟩, fun M' L' h' _ => ?_⟩
 obtain ⟨B', rfl, h3, hs'⟩ := h'
 obtain ⟨e1, e2⟩ := Mem.kU.1 h3
 exact ⟨X.union B', by rw [Mem.eU], Mem.gx.2 ⟨d1, e1⟩, X, B', rfl, e2, hp, hs'⟩
instance (priority := low) BS.there {b o : Nat} {v : Value} {P : HP} {L L' : List HP} [h : BS b o v L L'] : BS b o v (P :: L) (P :: L') :=
 ⟨fun R M hM => by
  obtain ⟨R', h1, h2, h3⟩ := hM.tail
  obtain ⟨a, b⟩ := h.put R' M h2
  exact ⟨a, h3 _ _ b b.le⟩⟩
theorem av {R : Mem} {L L' : List HP} {M : Mem} {b o : Nat} {v : Value} {G : Mem → Prop} (h : Hp R L M) [hp : BS b o v L L'] (k : ∀ M', Hp R L' M' → G M') : aO M ⟨b, o, none⟩ v G :=
 ⟨(hp.put R M h).1, k _ (hp.put R M h).2⟩
theorem aq {R : Mem} {L : List HP} {M : Mem} {cs : List Value} {T : Nat} {G : Nat → Mem → Prop} (h : Hp R L M) (k : ∀ b M', Hp R (pt b cs T :: L) M' → G b M') : be M (.cells cs.toArray T (0, 0)) G :=
 fun b hb => k b _ (h.new hb (by show (single b _) b = _; simp [single]))
theorem Jb {R : Mem} {L : List HP} {M : Mem} {o : Obj} {G : Nat → Mem → Prop} (h : Hp R L M) (k : ∀ b M', Hp R (ob b o :: L) M' → G b M') : be M o G :=
 fun b hb => k b _ (h.new hb (by show (single b _) b = _; simp [single]))
def Mem.GV (M : Mem) (D : List Nat) : Mem := fun b => if b ∈ D then M b else none
theorem Mem.T3 (M : Mem) (D : List Nat) : (M.GV D).le M := fun b o h => by
 unfold Mem.GV at h; split at h
 ·exact h
 ·cases h
theorem Mem.T4 {M : Mem} {D : List Nat} {b : Nat} (h : b ∈ D) : (M.GV D) b = M b := by unfold Mem.GV; rw [if_pos h]
theorem Hp.change {R : Mem} {L : List HP} {P Q : HP} {M M' : Mem} {D D' : List Nat} (h : Hp R (P :: L) M) (hD : ∀ A, P A → ∀ x ∈ D, ∃ o, A x = some o) (hc : nI D M M') (hf : ∀ x ∈ D', x ∈ D ∨ M x = none) (hq : Q (M'.GV D')) : Hp R (Q :: L) M' := by
 obtain ⟨B, rfl, h1, X, Y, rfl, h2, hp, hs⟩ := h
 have inD : ∀ x ∈ D, R x = none ∧ Y x = none := fun x hx => by
  obtain ⟨o, ho⟩ := hD X hp x hx
  constructor
  ·rcases h1 x with h | h; exact h; rw [Mem.union_left ho] at h; cases h
  ·rcases h2 x with h | h; rw [ho] at h; cases h; exact h
 have YA : ∀ x ∈ D', R x = none ∧ Y x = none := fun x hx => by
  rcases hf x hx with hx | hx
  ·exact inD x hx
  ·obtain ⟨a, b⟩ := nF hx
   exact ⟨a, (nF b).2⟩
 have hR : R.le M' := fun b o hb => (hc b o (Mem.union_left hb)).2 fun hx => by rw [(inD b hx).1] at hb; cases hb
 have hY : Y.le M' := fun b o hb => (hc b o (Mem.mT h1 b o (Mem.mT h2 b o hb))).2 fun hx => by rw [(inD b hx).2] at hb; cases hb
 have hXR : (M'.GV D').le (M'.sub R) := fun b o hb => by
  have : b ∈ D' := by unfold Mem.GV at hb; split at hb; assumption; cases hb
  unfold Mem.sub; rw [(YA b this).1]; exact Mem.T3 _ _ b o hb
 refine ⟨M'.sub R, (Mem.vO hR).symm, Mem.GU R M', M'.GV D', (M'.sub R).sub (M'.GV D'), (Mem.vO hXR).symm, Mem.GU _ _, hq, hs.mono fun b o hb => ?_⟩
 have AG : b ∉ D' := fun hx => by rw [(YA b hx).2] at hb; cases hb
 have P0 : R b = none := by rcases h1 b with h | h; exact h; rw [Mem.fN h2, Mem.union_left hb] at h; cases h
 have : (M'.GV D') b = none := by unfold Mem.GV; rw [if_neg AG]
 unfold Mem.sub
 rw [this, P0]
 exact hY b o hb
theorem tT.GV {M : Mem} {z T : Nat} {A : Option Addr} {n c : Nat} {l : List Value} (h : tT M z T A n c l) : tT (M.GV (AU A)) z T A n c l := by
 obtain ⟨h1, h2 | ⟨b, cs, h3, h4, h5⟩⟩ := h
 ·exact ⟨h1, .inl h2⟩
 ·subst h3; exact ⟨h1, .inr ⟨b, cs, rfl, by rw [Mem.T4 (by simp [AU])]; exact h4, h5⟩⟩
theorem tT.mono {M M' : Mem} {z T : Nat} {A : Option Addr} {n c : Nat} {l : List Value} (h : tT M z T A n c l) (hle : M.le M') : tT M' z T A n c l := by
 obtain ⟨h1, h2 | ⟨b, cs, h3, h4, h5⟩⟩ := h
 ·exact ⟨h1, .inl h2⟩
 ·exact ⟨h1, .inr ⟨b, cs, h3, hle _ _ h4, h5⟩⟩
theorem Hp.vP {R : Mem} {L : List HP} {z T : Nat} {A : Option Addr} {n c : Nat} {l : List Value} {M : Mem} (h : Hp R (own z T A n c l :: L) M) : tT M z T A n c l := by
 obtain ⟨X, hp, hle, _⟩ := h.fst; exact tT.mono hp hle
theorem Hp.sl {R : Mem} {L L' : List HP} {z T : Nat} {A : Option Addr} {n c : Nat} {l : List Value} {M : Mem} (h : Hp R L M) (hp : de L (own z T A n c l) L') : Sl M A l := (h.pick hp).vP.sl
theorem Hp.slR {R : Mem} {L : List HP} {A : Option Addr} {l : List Value} {M : Mem} (h : Hp R L M) (hr : Sl R A l) : Sl M A l := hr.mono fun b o hb => h.le b o hb
theorem Hp.cap {R : Mem} {L : List HP} {z T : Nat} {A : Option Addr} {n c : Nat} {l : List Value} {M : Mem} (h : Hp R (own z T A n c l :: L) M) : n ≤ c := h.vP.cap
theorem Hp.len {R : Mem} {L : List HP} {z T : Nat} {A : Option Addr} {n c : Nat} {l : List Value} {M : Mem} (h : Hp R (own z T A n c l :: L) M) : l.length = n * z := h.vP.1
theorem Hp.QB {R : Mem} {L : List HP} {M : Mem} (h : Hp R L M) (z T : Nat) : Hp R (own z T none 0 0 [] :: L) M := by
 obtain ⟨B, e, h1, hs⟩ := h
 exact ⟨B, e, h1, Mem.empty, B, (Mem.pN B).symm, Mem.yY B, tT.nil _ _ _, hs⟩
theorem Hp.Ng {R : Mem} {L : List HP} {b z T n c : Nat} {cs l : List Value} {M : Mem} (h : Hp R (pt b cs T :: L) M) (hl : l.length = n * z) (hc : cs.length = c * z) (hn : n ≤ c) (he : ∀ i, i < n * z → cs[i]? = l[i]?) : Hp R (own z T (some ⟨b, 0, none⟩) n c l :: L) M :=
 h.imp fun A ha => ⟨hl, .inr ⟨b, cs.toArray, rfl, ha, by simpa using hc, hn, fun i hi => by simpa using he i hi⟩⟩
theorem Hp.C7 {R : Mem} {L : List HP} {b z T n : Nat} {cs : List Value} {M : Mem} (h : Hp R (pt b cs T :: L) M) (hc : cs.length = n * z) : Hp R (own z T (some ⟨b, 0, none⟩) n n cs :: L) M :=
 h.Ng hc hc (Nat.le_refl _) fun _ _ => rfl
theorem Hp.Nh {R : Mem} {L : List HP} {z T : Nat} {A : Option Addr} {n c m : Nat} {l : List Value} {M : Mem} (h : Hp R (own z T A n c l :: L) M) (hm : m ≤ n) : Hp R (own z T A m c (l.take (m * z)) :: L) M := by
 have hz : m * z ≤ n * z := Nat.mul_le_mul_right z hm
 refine h.imp fun X hx => ?_
 obtain ⟨h1, ⟨h2, h3, h4⟩ | ⟨b, cs, h3, h4, h5, h6, h7⟩⟩ := hx
 ·refine ⟨by rw [List.length_take, h1]; omega, .inl ⟨h2, by omega, h4⟩⟩
 ·refine ⟨by rw [List.length_take, h1]; omega, .inr ⟨b, cs, h3, h4, h5, by omega, fun i hi => ?_⟩⟩
  rw [h7 i (by omega), List.getElem?_take, if_pos hi]
theorem Hp.T5 {R : Mem} {L : List HP} {z T : Nat} {A : Option Addr} {n c i : Nat} {l : List Value} {M : Mem} (h : Hp R (own z T A n c l :: L) M) (hi : i < l.length) : ∃ b, A = some ⟨b, 0, none⟩ ∧ M.ld ⟨b, i, none⟩ = l[i]? := by
 obtain ⟨b, o, rfl, g⟩ := h.vP.sl.get hi
 obtain ⟨_, ⟨h2, _⟩ | ⟨b', cs, h3, _⟩⟩ := h.vP
 ·cases h2
 ·cases h3; exact ⟨b, rfl, by simpa using g⟩
theorem Hp.and {R : Mem} {L : List HP} {P : HP} {p : Prop} {M : Mem} (h : Hp R ((fun A => P A ∧ p) :: L) M) : p ∧ Hp R (P :: L) M := by
 obtain ⟨A, ⟨_, hp⟩, _⟩ := h.fst
 exact ⟨hp, h.imp fun A ha => ha.1⟩
theorem Hp.Ni {R : Mem} {L : List HP} {z T : Nat} {b n c : Nat} {l : List Value} {M : Mem} (h : Hp R (own z T (some ⟨b, 0, none⟩) n c l :: L) M) :
  ∃ cs, (cs.length = c * z ∧ n ≤ c ∧ l.length = n * z ∧ ∀ i, i < n * z → cs[i]? = l[i]?) ∧ Hp R (pt b cs T :: L) M := by
 have h2 : Hp R (exs (fun cs : List Value => fun A => pt b cs T A ∧ (cs.length = c * z ∧ n ≤ c ∧ l.length = n * z ∧ ∀ i, i < n * z → cs[i]? = l[i]?)) :: L) M := by
  refine h.imp fun A ha => ?_
  obtain ⟨h1, ⟨h2, _⟩ | ⟨b', cs, h3, h4, h5, h6, h7⟩⟩ := ha
  ·cases h2
  ·cases h3
   exact ⟨cs.toList, by simpa [pt] using h4, by simpa using h5, h6, h1, fun i hi => by simpa using h7 i hi⟩
 obtain ⟨cs, h3⟩ := Hp.dS.1 h2
 exact ⟨cs, h3.and⟩
theorem Hp.Jc {R : Mem} {L : List HP} {z T : Nat} {b n c i : Nat} {l : List Value} {M : Mem} {v : Value} (h : Hp R (own z T (some ⟨b, 0, none⟩) n c l :: L) M) (hi : i < l.length) :
  M.wr ⟨b, i, none⟩ = true ∧ Hp R (own z T (some ⟨b, 0, none⟩) n c (l.set i v) :: L) (M.put ⟨b, i, none⟩ v) := by
 obtain ⟨cs, ⟨h1, h2, h3, h4⟩, h5⟩ := h.Ni
 have hz : n * z ≤ c * z := Nat.mul_le_mul_right z h2
 obtain ⟨g1, g2⟩ := h5.put (v := v) (o := i) (by omega)
 refine ⟨g1, g2.Ng (by simpa using h3) (by simpa using h1) h2 fun j hj => ?_⟩
 rw [List.getElem?_set, List.getElem?_set, h4 j hj]
 by_cases hij : i = j
 ·subst hij; rw [if_pos rfl, if_pos rfl, if_pos (by omega), if_pos (by omega)]
 ·rw [if_neg hij, if_neg hij]
theorem KF {R : Mem} {L L' : List HP} {z T : Nat} {b n c i : Nat} {l : List Value} {M : Mem} {v : Value} {G : Mem → Prop} (h : Hp R L M) (hp : de L (own z T (some ⟨b, 0, none⟩) n c l) L') (hi : i < l.length)
  (k : ∀ M', Hp R (own z T (some ⟨b, 0, none⟩) n c (l.set i v) :: L') M' → G M') : aO M ⟨b, i, none⟩ v G :=
 ⟨((h.pick hp).Jc (v := v) hi).1, k _ ((h.pick hp).Jc (v := v) hi).2⟩
class KG (l : List Value) (n : Nat) (v : outParam Value) : Prop where
 eq : l[n]? = some v
instance KG.zero {x : Value} {l : List Value} : KG (x :: l) 0 x := ⟨rfl⟩
instance KG.succ {x v : Value} {l : List Value} {n : Nat} [h : KG l n v] : KG (x :: l) (n + 1) v := ⟨by simpa using h.eq⟩
class nL (b o : Nat) (L : List HP) (v : outParam Value) : Prop where
 ld : ∀ (R M : Mem), Hp R L M → M.ld ⟨b, o, none⟩ = some v
instance nL.here {b o T : Nat} {cs : List Value} {L : List HP} {v : Value} [h : KG cs o v] : nL b o (pt b cs T :: L) v := ⟨fun R M hM => hM.ld .here h.eq⟩
instance (priority := low) nL.there {b o : Nat} {P : HP} {L : List HP} {v : Value} [h : nL b o L v] : nL b o (P :: L) v := ⟨fun R M hM => h.ld R M hM.drop⟩
theorem aH {R : Mem} {L : List HP} {M : Mem} {b o : Nat} {k : IntKind} {n : Int} {G : Int → Prop} (h : Hp R L M) [hp : nL b o L (.int k n)] (g : G n) : aK (M.ld ⟨b, o, none⟩) k G := by
 rw [hp.ld R M h]; simpa [aK] using g
theorem Jd {R : Mem} {L : List HP} {M : Mem} {b o : Nat} {t : Bool} {G : Bool → Prop} (h : Hp R L M) [hp : nL b o L (.bool t)] (g : G t) : cJ (M.ld ⟨b, o, none⟩) G := by
 rw [hp.ld R M h]; exact g
theorem YB {R : Mem} {L : List HP} {M : Mem} {b o : Nat} {t : ByteArray} {G : ByteArray → Prop} (h : Hp R L M) [hp : nL b o L (.string t)] (g : G t) : fJ (M.ld ⟨b, o, none⟩) G := by
 rw [hp.ld R M h]; exact g
theorem um {R : Mem} {L : List HP} {M : Mem} {b o : Nat} {p : Option Addr} {G : Option Addr → Prop} (h : Hp R L M) [hp : nL b o L (.pointer p)] (g : G p) : bO (M.ld ⟨b, o, none⟩) G := by
 rw [hp.ld R M h]; exact g
theorem aQ {R : Mem} {L : List HP} {M : Mem} {b o : Nat} {A : Option Addr} {n c : Nat} {G : Option Addr → Nat → Nat → Prop} (h : Hp R L M) [hp : nL b o L (.slice A n c)] (g : G A n c) : aD (M.ld ⟨b, o, none⟩) G := by
 rw [hp.ld R M h]; exact g
theorem Nj {R : Mem} {L : List HP} {M : Mem} {b o : Nat} {v : Value} {G : Value → Prop} (h : Hp R L M) [hp : nL b o L v] (g : G v) : fz (M.ld ⟨b, o, none⟩) G := by
 rw [hp.ld R M h]; exact g
theorem aA {R : Mem} {L : List HP} {M : Mem} {b o : Nat} {v : Value} (h : Hp R L M) [hp : nL b o L v] : M.ld ⟨b, o, none⟩ = some v := hp.ld R M h
theorem Hp.Nk {R : Mem} {L L' : List HP} {b T : Nat} {cs : List Value} {M : Mem} (h : Hp R L M) (hp : de L (pt b cs T) L') : Sl M (some ⟨b, 0, none⟩) cs := fun i hi => by
 rw [Ja (h.pick hp).yZ, Nat.zero_add]; simp
theorem Hp.QC {z T : Nat} {A : Option Addr} {n c : Nat} {l : List Value} : ∀ X, own z T A n c l X → ∀ x ∈ AU A, ∃ o, X x = some o := fun X hX x hx => tT.some hX hx
theorem Hp.append {P : Program} {t e z bytes ty : Nat} {zero : List Value} {A B : Option Addr} {n c m d : Nat} {l r : List Value} {R : Mem} {L : List HP} {M : Mem} {K : Value → Mem → Prop} {Kp : List PanicEntry → Mem → Prop}
  (h : Hp R (own z e A n c l :: L) M) (E : bg P t e z bytes zero) (hr : Sl M B r) (kK : r.length = m * z) (hp : ∀ v ∈ r, Value.plainCell v = true) (hb : (n + m) * bytes ≤ 140737488355328)
  (k : ∀ A' c' M', Hp R (own z e A' (n + m) c' (l ++ r) :: L) M' → K (.slice A' (n + m) c') M') :
  aS P (Builtin.append_ #[t, t] ty #[.slice A n c, .slice B m d]) M K Kp := by
 refine E.append h.vP hr kK hp hb fun A' c' M' h1 h2 h3 => k A' c' M' ?_
 refine h.change (Q := own z e A' (n + m) c' (l ++ r)) (D := AU A) (D' := AU A') Hp.QC h2 (fun x hx => ?_) h1.GV
 rcases h3 with rfl | ⟨b, rfl, hb⟩
 ·exact .inl hx
 ·simp only [AU, List.mem_singleton] at hx; subst hx; exact .inr hb
theorem Hp.make {P : Program} {t e z bytes n : Nat} {zero : List Value} {R : Mem} {L : List HP} {M : Mem} {K : Value → Mem → Prop} {Kp : List PanicEntry → Mem → Prop}
  (h : Hp R L M) (E : bg P t e z bytes zero) (hb : n * bytes ≤ 140737488355328)
  (k : ∀ b M', Hp R (own z e (some ⟨b, 0, none⟩) n n (List.replicate n zero).flatten :: L) M' → K (.slice (some ⟨b, 0, none⟩) n n) M') :
  aS P (Instr.makeSlice t (.int .i64 (n : Int)) (.int .i64 (n : Int))) M K Kp := by
 refine E.make hb fun b hb => k b _ ?_
 have hz : zero.length = z := by obtain ⟨_, _, _, _, _, _, _, _, hl, _⟩ := E; exact hl
 exact (h.new (P := pt b (List.replicate n zero).flatten e) hb (by show (single b _) b = _; simp [single])).C7 (by simp [hz])
theorem Hp.seal {R : Mem} {L : List HP} {P : HP} {M : Mem} (h : Hp R (P :: L) M) : ∃ R' A, P A ∧ R.le R' ∧ A.le R' ∧ Hp R' L M := by
 obtain ⟨B, rfl, h1, X, Y, rfl, h2, hp, hs⟩ := h
 obtain ⟨d1, d2⟩ := Mem.gx.1 h1
 exact ⟨R.union X, X, hp, Mem.uk _ _, Mem.mT d1, Y, by rw [Mem.eU], Mem.kU.2 ⟨d2, h2⟩, hs⟩
theorem Sl.le {M M' : Mem} {A : Option Addr} {l : List Value} (h : Sl M A l) (hle : M.le M') : Sl M' A l := h.mono hle
theorem Hp.Nl {R : Mem} {L : List HP} {z T : Nat} {A : Option Addr} {n c : Nat} {l : List Value} {M : Mem} (h : Hp R (own z T A n c l :: L) M) : ∃ R', R.le R' ∧ Sl R' A l ∧ Hp R' L M := by
 obtain ⟨R', X, hp, h1, h2, h3⟩ := h.seal
 exact ⟨R', h1, Sl.le (tT.sl hp) h2, h3⟩
theorem de.idx {P : HP} : ∀ {ls : List HP} {i : Nat}, i < ls.length → de (ls.set i P) P (ls.eraseIdx i)
 | [], _, h => by simp at h
 | Q :: l, 0, _ => .here
 | Q :: l, i + 1, h => .there (de.idx (by simpa using h))
theorem de.app {ls ls' L : List HP} {P : HP} (h : de ls P ls') : de (ls ++ L) P (ls' ++ L) := by
 induction h with
 | here => exact .here
 | there _ ih => exact .there ih
theorem bZ.bk {l L : List HP} {M : Mem} : bZ (sep l :: L) M ↔ bZ (l ++ L) M := by
 constructor
 ·rintro ⟨X, Y, rfl, h2, hp, hs⟩; exact bZ.app hp hs h2
 ·intro h; obtain ⟨X, Y, rfl, h2, hp, hs⟩ := bZ.split h; exact ⟨X, Y, rfl, h2, hp, hs⟩
theorem Hp.focus {R : Mem} {L ls : List HP} {P : HP} {M : Mem} {i : Nat} (h : Hp R (sep ls :: L) M) (hi : ls[i]? = some P) : Hp R (P :: sep (ls.eraseIdx i) :: L) M := by
 obtain ⟨hl, he⟩ := List.getElem?_eq_some_iff.1 hi
 have hp : de ls P (ls.eraseIdx i) := by
  have := de.idx (P := P) hl
  rwa [show ls.set i P = ls from by rw [← he]; simp] at this
 exact h.map fun A hs => (bZ.pick hp.app (bZ.bk.1 hs)).tail fun B hb => bZ.bk.2 hb
theorem Hp.QD {R : Mem} {L ls : List HP} {P : HP} {M : Mem} {i : Nat} (h : Hp R (P :: sep (ls.eraseIdx i) :: L) M) (hi : i < ls.length) : Hp R (sep (ls.set i P) :: L) M :=
 h.map fun A hs => bZ.bk.2 (bZ.nK (de.idx hi).app (hs.tail fun B hb => bZ.bk.1 hb))
theorem ck {k : IntKind} {n : Int} {G : Int → Prop} (g : G n) : aK (some (.int k n)) k G := by simpa [aK] using g
theorem mU {t : Bool} {G : Bool → Prop} (g : G t) : cJ (some (.bool t)) G := g
theorem YC {t : ByteArray} {G : ByteArray → Prop} (g : G t) : fJ (some (.string t)) G := g
theorem g8 {p : Option Addr} {G : Option Addr → Prop} (g : G p) : bO (some (.pointer p)) G := g
theorem aT {A : Option Addr} {n c : Nat} {G : Option Addr → Nat → Nat → Prop} (g : G A n c) : aD (some (.slice A n c)) G := g
theorem Nm {v : Value} {G : Value → Prop} (g : G v) : fz (some v) G := g
theorem br {b o : Nat} {G : Nat → Nat → Prop} (g : G b o) : aG (some ⟨b, o, none⟩) G := g
theorem ae {M : Mem} {a : Addr} {i : Nat} : M.fm a i 0 = some [] := rfl
theorem Nn {M : Mem} {b o i n : Nat} {v : Value} {vs : List Value} (h : M.ld ⟨b, o + i, none⟩ = some v) (g : M.fm ⟨b, o, none⟩ (i + 1) n = some vs) : M.fm ⟨b, o, none⟩ i (n + 1) = some (v :: vs) := by
 simp only [Mem.fm, add_eq, h, g, Option.map_some]
theorem BT {M : Mem} {b o : Nat} : ∀ (n i : Nat), M.fm ⟨b, o, none⟩ (i + 1) n = M.fm ⟨b, o + 1, none⟩ i n
 | 0, i => rfl
 | n + 1, i => by simp only [Mem.fm, add_eq, show o + (i + 1) = o + 1 + i from by omega, BT n (i + 1)]
theorem ay {M : Mem} {b o n : Nat} {v : Value} {vs : List Value} (h : M.ld ⟨b, o, none⟩ = some v) (g : M.fm ⟨b, o + 1, none⟩ 0 n = some vs) : M.fm ⟨b, o, none⟩ 0 (n + 1) = some (v :: vs) := Nn h (by rw [BT]; exact g)
def Src (R : Mem) (L : List HP) (A : Option Addr) (l : List Value) : Prop := ∀ M, Hp R L M → Sl M A l
theorem Src.own {R : Mem} {L L' : List HP} {z T : Nat} {A : Option Addr} {n c : Nat} {l : List Value} (hp : de L (own z T A n c l) L') : Src R L A l := fun M h => h.sl hp
theorem Src.pt {R : Mem} {L L' : List HP} {b T : Nat} {l : List Value} (hp : de L (pt b l T) L') : Src R L (some ⟨b, 0, none⟩) l := fun M h => h.Nk hp
theorem Src.ro {R : Mem} {L : List HP} {A : Option Addr} {l : List Value} (hr : Sl R A l) : Src R L A l := fun M h => h.slR hr
theorem Src.cons {R : Mem} {L : List HP} {P : HP} {A : Option Addr} {l : List Value} (hr : Src R L A l) : Src R (P :: L) A l := fun M h => hr M h.drop
theorem Src.nil (R : Mem) (L : List HP) : Src R L none [] := fun M h => rfl
theorem Src.take {R : Mem} {L : List HP} {A : Option Addr} {l : List Value} (h : Src R L A l) (k : Nat) : Src R L A (l.take k) := fun M hM => (h M hM).take k
theorem Sl.YD {M : Mem} {A : Option Addr} {l : List Value} {m c z : Nat} (h : Sl M A l) (hc : l.length ≤ c * z) : Sl M (Go.AF.lM A m c z) (l.drop (m * z)) := by
 unfold Go.AF.lM
 split
 ·rename_i he
  have : l.drop (m * z) = [] := List.drop_of_length_le (by rw [← he]; exact hc)
  rw [this]
  match A, h with
  | none, h => rfl
  | some ⟨b, o, none⟩, h => intro i hi; simp at hi
 ·match A, h with
  | none, h => rw [show l = [] from h]; simp [Sl]
  | some ⟨b, o, none⟩, h =>
   rw [Option.map_some, add_eq]
   intro i hi
   rw [List.length_drop] at hi
   rw [show o + m * z + i = o + (m * z + i) from by omega, h (m * z + i) (by omega), List.getElem?_drop]
theorem Src.slAt {R : Mem} {L : List HP} {A : Option Addr} {l : List Value} {m c z : Nat} (h : Src R L A l) (hc : l.length ≤ c * z) : Src R L (Go.AF.lM A m c z) (l.drop (m * z)) := fun M hM => (h M hM).YD hc
theorem Sl.at {M : Mem} {b o i o' : Nat} {l : List Value} {v : Value} (h : Sl M (some ⟨b, o, none⟩) l) (e : o' = o + i) (hv : l[i]? = some v) : M.ld ⟨b, o', none⟩ = some v := by
 subst e
 rw [h i (List.getElem?_eq_some_iff.1 hv).1, hv]
theorem Sl.SL {M : Mem} {A : Option Addr} {l : List Value} (h : Sl M A l) (hl : 0 < l.length) : ∃ b o, A = some ⟨b, o, none⟩ := by
 obtain ⟨b, o, e, _⟩ := h.get hl; exact ⟨b, o, e⟩
theorem Src.isAt {R : Mem} {L : List HP} {A : Option Addr} {l : List Value} (h : Src R L A l) (hl : 0 < l.length) {M : Mem} (hM : Hp R L M) : ∃ b o, A = some ⟨b, o, none⟩ := (h M hM).SL hl
theorem Sl.fm {M : Mem} {b o o' i n : Nat} {l vs : List Value} (h : Sl M (some ⟨b, o, none⟩) l) (e : o' = o + i) (hv : (l.drop i).take n = vs) (hn : vs.length = n) : M.fm ⟨b, o', none⟩ 0 n = some vs := by
 subst e
 have := vN (M := M) (b := b) (o := o + i) vs 0 (fun j hj => by
  subst hv
  rw [List.length_take, List.length_drop] at hj
  rw [show o + i + (0 + j) = o + (i + j) from by omega, h (i + j) (by omega), List.getElem?_take, if_pos (by omega), List.getElem?_drop])
 rwa [hn] at this
theorem aZ {M : Mem} {a : Addr} {k : IntKind} {n : Int} {G : Int → Prop} (h : M.ld a = some (.int k n)) (g : G n) : aK (M.ld a) k G := by rw [h]; simpa [aK] using g
theorem lR {M : Mem} {a : Addr} {p : Option Addr} {G : Option Addr → Prop} (h : M.ld a = some (.pointer p)) (g : G p) : bO (M.ld a) G := by rw [h]; exact g
theorem y3 {M : Mem} {a : Addr} {A : Option Addr} {n c : Nat} {G : Option Addr → Nat → Nat → Prop} (h : M.ld a = some (.slice A n c)) (g : G A n c) : aD (M.ld a) G := by rw [h]; exact g
theorem Hp.copy {P : Program} {t e z bytes ty k : Nat} {zero : List Value} {B : Option Addr} {m d : Nat} {r : List Value} {R : Mem} {L L' : List HP} {M : Mem} {K : Value → Mem → Prop} {Kp : List PanicEntry → Mem → Prop}
  (h : Hp R L M) (hk : de L (Go.AF.pt k [] e) L') (E : bg P t e z bytes zero) (hr : Src R L B r) (kK : r.length = m * z) (hp : ∀ v ∈ r, Value.plainCell v = true) (hb : m * bytes ≤ 140737488355328)
  (g : ∀ A' c' M', Hp R (Go.AF.own z e A' m c' r :: L') M' → K (.slice A' m c') M') :
  aS P (Builtin.append_ #[t, t] ty #[.slice (some ⟨k, 0, none⟩) 0 0, .slice B m d]) M K Kp := by
 have h2 : Hp R (Go.AF.own z e (some ⟨k, 0, none⟩) 0 0 [] :: L') M := (h.pick hk).C7 (by simp)
 refine h2.append E (hr _ h) kK hp (by simpa using hb) fun A' c' M' h3 => ?_
 rw [Nat.zero_add] at h3 ⊢
 exact g A' c' M' (by simpa using h3)
theorem Hp.QE {P : Program} {t e z bytes ty k : Nat} {zero : List Value} {A : Option Addr} {n c m d : Nat} {l r : List Value} {R : Mem} {L L' nN : List HP} {M : Mem} {K : Value → Mem → Prop} {Kp : List PanicEntry → Mem → Prop}
  (h : Hp R L M) (ha : de L (Go.AF.own z e A n c l) L') (hk : de L' (Go.AF.pt k r e) nN) (E : bg P t e z bytes zero) (kK : r.length = m * z) (hp : ∀ v ∈ r, Value.plainCell v = true) (hb : (n + m) * bytes ≤ 140737488355328)
  (g : ∀ A' c' M', Hp R (Go.AF.own z e A' (n + m) c' (l ++ r) :: nN) M' → K (.slice A' (n + m) c') M') :
  aS P (Builtin.append_ #[t, t] ty #[.slice A n c, .slice (some ⟨k, 0, none⟩) m d]) M K Kp := by
 have h2 := h.pick ha
 exact h2.append E (h2.Nk (.there hk)) kK hp hb fun A' c' M' h3 => g A' c' M' ((h3.pick (.there hk)).drop)
theorem Hp.QF {P : Program} {t e z bytes ty : Nat} {zero : List Value} {A B : Option Addr} {n c m d : Nat} {l r : List Value} {R : Mem} {L L' : List HP} {M : Mem} {K : Value → Mem → Prop} {Kp : List PanicEntry → Mem → Prop}
  (h : Hp R L M) (ha : de L (Go.AF.own z e A n c l) L') (E : bg P t e z bytes zero) (hr : Src R L B r) (kK : r.length = m * z) (hp : ∀ v ∈ r, Value.plainCell v = true) (hb : (n + m) * bytes ≤ 140737488355328)
  (g : ∀ A' c' M', Hp R (Go.AF.own z e A' (n + m) c' (l ++ r) :: L') M' → K (.slice A' (n + m) c') M') :
  aS P (Builtin.append_ #[t, t] ty #[.slice A n c, .slice B m d]) M K Kp :=
 (h.pick ha).append E (hr _ h) kK hp hb g
theorem vQ {t : Bool} {X Y : Prop} (h : t = true) (g : X) : aV t X Y := by subst h; exact g
theorem C8 {t : Bool} {X Y : Prop} (h : t = false) (g : Y) : aV t X Y := by subst h; exact g
theorem ai {X Y : Prop} (g : X) : aV true X Y := g
theorem aj {X Y : Prop} (g : Y) : aV false X Y := g
attribute [irreducible] pt ob own sep exs fact
end Go.AF
