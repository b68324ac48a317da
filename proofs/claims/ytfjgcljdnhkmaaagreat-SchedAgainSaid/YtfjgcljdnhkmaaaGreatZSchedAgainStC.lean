/- A part of proofs about one program. -/
import Derived.Test.YtfjgcljdnhkmaaaGreatZSchedAgainBig
set_option linter.unusedVariables false
namespace Go.AF
class St (R : Mem) (L : List HP) (M : Mem) (G : Prop) (G' : outParam Prop) : Prop where
 to : Hp R L M → G' → G
section
variable {R : Mem} {L L' : List HP} {M : Mem} {b o : Nat}
instance {k : IntKind} {n : Int} {G : Int → Prop} [nL b o L (.int k n)] : St R L M (aK (M.ld ⟨b, o, none⟩) k G) (G n) := ⟨fun h g => aH h g⟩
instance {n : Bool} {G : Bool → Prop} [nL b o L (.bool n)] : St R L M (cJ (M.ld ⟨b, o, none⟩) G) (G n) := ⟨fun h g => Jd h g⟩
instance {n : ByteArray} {G : ByteArray → Prop} [nL b o L (.string n)] : St R L M (fJ (M.ld ⟨b, o, none⟩) G) (G n) := ⟨fun h g => YB h g⟩
instance {n : Option Addr} {G : Option Addr → Prop} [nL b o L (.pointer n)] : St R L M (bO (M.ld ⟨b, o, none⟩) G) (G n) := ⟨fun h g => um h g⟩
instance {A : Option Addr} {n c : Nat} {G : Option Addr → Nat → Nat → Prop} [nL b o L (.slice A n c)] : St R L M (aD (M.ld ⟨b, o, none⟩) G) (G A n c) := ⟨fun h g => aQ h g⟩
instance {v : Value} {G : Value → Prop} [nL b o L v] : St R L M (fz (M.ld ⟨b, o, none⟩) G) (G v) := ⟨fun h g => Nj h g⟩
instance {k : IntKind} {n : Int} {G : Int → Prop} : St R L M (aK (some (.int k n)) k G) (G n) := ⟨fun _ g => ck g⟩
instance {n : Bool} {G : Bool → Prop} : St R L M (cJ (some (.bool n)) G) (G n) := ⟨fun _ g => mU g⟩
instance {n : ByteArray} {G : ByteArray → Prop} : St R L M (fJ (some (.string n)) G) (G n) := ⟨fun _ g => YC g⟩
instance {n : Option Addr} {G : Option Addr → Prop} : St R L M (bO (some (.pointer n)) G) (G n) := ⟨fun _ g => g8 g⟩
instance {A : Option Addr} {n c : Nat} {G : Option Addr → Nat → Nat → Prop} : St R L M (aD (some (.slice A n c)) G) (G A n c) := ⟨fun _ g => aT g⟩
instance {v : Value} {G : Value → Prop} : St R L M (fz (some v) G) (G v) := ⟨fun _ g => Nm g⟩
instance {G : Nat → Nat → Prop} : St R L M (aG (some ⟨b, o, none⟩) G) (G b o) := ⟨fun _ g => br g⟩
instance {X Y : Prop} : St R L M (aV true X Y) X := ⟨fun _ g => ai g⟩
instance {X Y : Prop} : St R L M (aV false X Y) Y := ⟨fun _ g => aj g⟩
instance {G : Prop} : St R L M (True ∧ G) G := ⟨fun _ g => ⟨trivial, g⟩⟩
instance {v : Value} {G : Prop} [nL b o L v] : St R L M (M.ld ⟨b, o, none⟩ = some v ∧ G) G := ⟨fun h g => ⟨aA h, g⟩⟩
end
theorem bz {L T : List HP} (s : Sub L T := by repeat (first | exact .refl | refine .cons (by repeat (first | exact .here | apply de.there)) ?_ | apply Sub.drop)) : Sub L T := s
abbrev rI (M : Mem) (k o : Nat) (G : Int → Prop) : Prop := aK (M.ld ⟨k, o, none⟩) .i64 G
abbrev rS (M : Mem) (k o : Nat) (G : Option Addr → Nat → Nat → Prop) : Prop := aD (M.ld ⟨k, o, none⟩) G
abbrev sT (M : Mem) (k o : Nat) (v : Value) (G : Mem → Prop) : Prop := aO M ⟨k, o, none⟩ v G
abbrev iV (n : Int) : Value := .int .i64 n
end Go.AF
