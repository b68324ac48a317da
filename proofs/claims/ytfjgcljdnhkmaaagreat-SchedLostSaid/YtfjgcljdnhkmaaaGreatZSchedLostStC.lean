/- A part of proofs about one program. -/
import Derived.Test.YtfjgcljdnhkmaaaGreatZSchedLostBig
set_option linter.unusedVariables false
namespace Go.AF
class St (R : Mem) (L : List HP) (M : Mem) (G : Prop) (G' : outParam Prop) : Prop where
 to : Hp R L M → G' → G
section
variable {R : Mem} {L L' : List HP} {M : Mem} {b o : Nat}
instance {k : IntKind} {n : Int} {G : Int → Prop} [nk b o L (.int k n)] : St R L M (aK (M.ld ⟨b, o, none⟩) k G) (G n) := ⟨fun h g => aJ h g⟩
instance {n : Bool} {G : Bool → Prop} [nk b o L (.bool n)] : St R L M (cD (M.ld ⟨b, o, none⟩) G) (G n) := ⟨fun h g => HQ h g⟩
instance {n : ByteArray} {G : ByteArray → Prop} [nk b o L (.string n)] : St R L M (fH (M.ld ⟨b, o, none⟩) G) (G n) := ⟨fun h g => W3 h g⟩
instance {n : Option Addr} {G : Option Addr → Prop} [nk b o L (.pointer n)] : St R L M (bL (M.ld ⟨b, o, none⟩) G) (G n) := ⟨fun h g => tL h g⟩
instance {A : Option Addr} {n c : Nat} {G : Option Addr → Nat → Nat → Prop} [nk b o L (.slice A n c)] : St R L M (aD (M.ld ⟨b, o, none⟩) G) (G A n c) := ⟨fun h g => aR h g⟩
instance {v : Value} {G : Value → Prop} [nk b o L v] : St R L M (fx (M.ld ⟨b, o, none⟩) G) (G v) := ⟨fun h g => LJ h g⟩
instance {k : IntKind} {n : Int} {G : Int → Prop} : St R L M (aK (some (.int k n)) k G) (G n) := ⟨fun _ g => cE g⟩
instance {n : Bool} {G : Bool → Prop} : St R L M (cD (some (.bool n)) G) (G n) := ⟨fun _ g => mu g⟩
instance {n : ByteArray} {G : ByteArray → Prop} : St R L M (fH (some (.string n)) G) (G n) := ⟨fun _ g => W4 g⟩
instance {n : Option Addr} {G : Option Addr → Prop} : St R L M (bL (some (.pointer n)) G) (G n) := ⟨fun _ g => jk g⟩
instance {A : Option Addr} {n c : Nat} {G : Option Addr → Nat → Nat → Prop} : St R L M (aD (some (.slice A n c)) G) (G A n c) := ⟨fun _ g => aY g⟩
instance {v : Value} {G : Value → Prop} : St R L M (fx (some v) G) (G v) := ⟨fun _ g => LN g⟩
instance {G : Nat → Nat → Prop} : St R L M (aI (some ⟨b, o, none⟩) G) (G b o) := ⟨fun _ g => br g⟩
instance {X Y : Prop} : St R L M (aV true X Y) X := ⟨fun _ g => aq g⟩
instance {X Y : Prop} : St R L M (aV false X Y) Y := ⟨fun _ g => au g⟩
instance {G : Prop} : St R L M (True ∧ G) G := ⟨fun _ g => ⟨trivial, g⟩⟩
instance {v : Value} {G : Prop} [nk b o L v] : St R L M (M.ld ⟨b, o, none⟩ = some v ∧ G) G := ⟨fun h g => ⟨aj h, g⟩⟩
end
abbrev rI (M : Mem) (k o : Nat) (G : Int → Prop) : Prop := aK (M.ld ⟨k, o, none⟩) .i64 G
abbrev rS (M : Mem) (k o : Nat) (G : Option Addr → Nat → Nat → Prop) : Prop := aD (M.ld ⟨k, o, none⟩) G
abbrev sT (M : Mem) (k o : Nat) (v : Value) (G : Mem → Prop) : Prop := aO M ⟨k, o, none⟩ v G
abbrev iV (n : Int) : Value := .int .i64 n
end Go.AF
