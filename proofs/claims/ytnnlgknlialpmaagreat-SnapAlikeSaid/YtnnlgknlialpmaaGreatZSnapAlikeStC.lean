/- A part of proofs about one program. -/
import Derived.Test.YtnnlgknlialpmaaGreatZSnapAlikeBig
set_option linter.unusedVariables false
namespace Go.AF
class St (R : Mem) (L : List HP) (M : Mem) (G : Prop) (G' : outParam Prop) : Prop where
 to : Hp R L M → G' → G
section
variable {R : Mem} {L L' : List HP} {M : Mem} {b o : Nat}
instance {k : IntKind} {n : Int} {G : Int → Prop} [nq b o L (.int k n)] : St R L M (aK (M.ld ⟨b, o, none⟩) k G) (G n) := ⟨fun h g => aF h g⟩
instance {n : Bool} {G : Bool → Prop} [nq b o L (.bool n)] : St R L M (dH (M.ld ⟨b, o, none⟩) G) (G n) := ⟨fun h g => F6 h g⟩
instance {n : ByteArray} {G : ByteArray → Prop} [nq b o L (.string n)] : St R L M (fa (M.ld ⟨b, o, none⟩) G) (G n) := ⟨fun h g => t_exS h g⟩
instance {n : Option Addr} {G : Option Addr → Prop} [nq b o L (.pointer n)] : St R L M (cw (M.ld ⟨b, o, none⟩) G) (G n) := ⟨fun h g => dG h g⟩
instance {A : Option Addr} {n c : Nat} {G : Option Addr → Nat → Nat → Prop} [nq b o L (.slice A n c)] : St R L M (az (M.ld ⟨b, o, none⟩) G) (G A n c) := ⟨fun h g => aL h g⟩
instance {v : Value} {G : Value → Prop} [nq b o L v] : St R L M (fk (M.ld ⟨b, o, none⟩) G) (G v) := ⟨fun h g => OT h g⟩
instance {k : IntKind} {n : Int} {G : Int → Prop} : St R L M (aK (some (.int k n)) k G) (G n) := ⟨fun _ g => cz g⟩
instance {n : Bool} {G : Bool → Prop} : St R L M (dH (some (.bool n)) G) (G n) := ⟨fun _ g => o6 g⟩
instance {n : ByteArray} {G : ByteArray → Prop} : St R L M (fa (some (.string n)) G) (G n) := ⟨fun _ g => KM g⟩
instance {n : Option Addr} {G : Option Addr → Prop} : St R L M (cw (some (.pointer n)) G) (G n) := ⟨fun _ g => jB g⟩
instance {A : Option Addr} {n c : Nat} {G : Option Addr → Nat → Nat → Prop} : St R L M (az (some (.slice A n c)) G) (G A n c) := ⟨fun _ g => aO g⟩
instance {v : Value} {G : Value → Prop} : St R L M (fk (some v) G) (G v) := ⟨fun _ g => OW g⟩
instance {G : Nat → Nat → Prop} : St R L M (aE (some ⟨b, o, none⟩) G) (G b o) := ⟨fun _ g => bg g⟩
instance {X Y : Prop} : St R L M (aS true X Y) X := ⟨fun _ g => ai g⟩
instance {X Y : Prop} : St R L M (aS false X Y) Y := ⟨fun _ g => aj g⟩
instance {G : Prop} : St R L M (True ∧ G) G := ⟨fun _ g => ⟨trivial, g⟩⟩
instance {v : Value} {G : Prop} [nq b o L v] : St R L M (M.ld ⟨b, o, none⟩ = some v ∧ G) G := ⟨fun h g => ⟨bN h, g⟩⟩
end
theorem bu {L T : List HP} (s : Sub L T := by repeat (first | exact .refl | refine .cons (by repeat (first | exact .here | apply cZ.there)) ?_ | apply Sub.drop)) : Sub L T := s
abbrev rI (M : Mem) (k o : Nat) (G : Int → Prop) : Prop := aK (M.ld ⟨k, o, none⟩) .i64 G
abbrev rS (M : Mem) (k o : Nat) (G : Option Addr → Nat → Nat → Prop) : Prop := az (M.ld ⟨k, o, none⟩) G
abbrev sT (M : Mem) (k o : Nat) (v : Value) (G : Mem → Prop) : Prop := aP M ⟨k, o, none⟩ v G
abbrev iV (n : Int) : Value := .int .i64 n
theorem av {X Y : Prop} (y : Y) (x : X := by first | exact rfl | ((repeat (refine jU (bN h) ?_)); exact vI) | omega) : X ∧ Y := ⟨x, y⟩
abbrev rU (M : Mem) (k o : Nat) (G : Int → Prop) : Prop := aK (M.ld ⟨k, o, none⟩) .u64 G
abbrev rB (M : Mem) (k o : Nat) (G : Bool → Prop) : Prop := dH (M.ld ⟨k, o, none⟩) G
abbrev rP (M : Mem) (k o : Nat) (G : Option Addr → Prop) : Prop := cw (M.ld ⟨k, o, none⟩) G
abbrev eI (M : Mem) (k o : Nat) (n : Int) : Prop := M.ld ⟨k, o, none⟩ = some (iV n)
abbrev eS (M : Mem) (k o : Nat) (A : Option Addr) (n c : Nat) : Prop := M.ld ⟨k, o, none⟩ = some (.slice A n c)
abbrev rW (M : Mem) (k : Nat) (G : List Value → Prop) : Prop := Ig (M.fN ⟨k, 0, none⟩ 0 14) G
abbrev IT := Nat → List Value → Mem → Prop
abbrev cl (l : List Value) (T : Nat) : Obj := .cells l.toArray T (0, 0)
abbrev xW (v : Value) (G : Value → Value → Value → Value → Value → Value → Value → Value → Value → Value → Value → Value → Value → Value → Prop) : Prop := ∃ v0 v1 v2 v3 v4 v5 v6 v7 v8 v9 v10 v11 zK Fm : Value, v = .agg #[v0, v1, v2, v3, v4, v5, v6, v7, v8, v9, v10, v11, zK, Fm] ∧ G v0 v1 v2 v3 v4 v5 v6 v7 v8 v9 v10 v11 zK Fm
abbrev eW (M : Mem) (k : Nat) (a0 : Option Addr) (a1 a2 : Nat) (a3 : Option Addr) (a4 a5 : Nat) (a6 : Int) (a7 : Option Addr) (a8 a9 : Nat) (a10 : Option Addr) (a11 a12 : Nat) (a13 : Int) (a14 : Option Addr) (a15 a16 : Nat) (a17 : Option Addr) (a18 a19 : Nat) (a20 : Option Addr) (a21 a22 : Nat) (a23 : Int) (a24 : Option Addr) (a25 a26 : Nat) (a27 : Int) (a28 : Int) (a29 : Option Addr) (a30 a31 : Nat) : Prop := M.fN ⟨k, 0, none⟩ 0 14 = some [.slice a0 a1 a2, .slice a3 a4 a5, .int .i64 a6, .slice a7 a8 a9, .slice a10 a11 a12, .int .u64 a13, .slice a14 a15 a16, .slice a17 a18 a19, .slice a20 a21 a22, .int .u64 a23, .slice a24 a25 a26, .int .i64 a27, .int .i64 a28, .slice a29 a30 a31]
abbrev tW2 (M : Mem) (k : Nat) (a0 : Option Addr) (a1 a2 : Nat) (a3 : Option Addr) (a4 a5 : Nat) (a6 : Int) (a7 : Option Addr) (a8 a9 : Nat) (a10 : Option Addr) (a11 a12 : Nat) (a13 : Int) (a14 : Option Addr) (a15 a16 : Nat) (a17 : Option Addr) (a18 a19 : Nat) (a20 : Option Addr) (a21 a22 : Nat) (a23 : Int) (a24 : Option Addr) (a25 a26 : Nat) (a27 : Int) (a28 : Int) (a29 : Option Addr) (a30 a31 : Nat) (G : Mem → Prop) : Prop := Fz M k 0 [.slice a0 a1 a2, .slice a3 a4 a5, .int .i64 a6, .slice a7 a8 a9, .slice a10 a11 a12, .int .u64 a13, .slice a14 a15 a16, .slice a17 a18 a19, .slice a20 a21 a22, .int .u64 a23, .slice a24 a25 a26, .int .i64 a27, .int .i64 a28, .slice a29 a30 a31] 14 G
abbrev Ax : Obj := .cells #[(.slice none 0 0), (.slice none 0 0), (.slice none 0 0), (.bool false)] 197 (0, 0)
abbrev kI (M : Mem) (k : Nat) (v0 v1 v2 v3 : Value) (G : Mem → Prop) : Prop := sT M k 0 v0 fun M => sT M k (0 + 1) v1 fun M => sT M k (0 + 2) v2 fun M => sT M k (0 + 3) v3 fun M => G M
abbrev KO (M : Mem) (k o : Nat) (G : Option Addr → Nat → Nat → Option Addr → Nat → Nat → Option Addr → Nat → Nat → Bool → Prop) : Prop := rS M k o fun x0 x1 x2 => rS M k (o + 1) fun x3 x4 x5 => rS M k (o + 2) fun x6 x7 x8 => rB M k (o + 3) fun x9 => G x0 x1 x2 x3 x4 x5 x6 x7 x8 x9
abbrev kJ (M : Mem) (k o : Nat) (G : Int → Int → Int → Prop) : Prop := rI M k o fun x0 => rI M k (o + 1) fun x1 => rI M k (o + 2) fun x2 => G x0 x1 x2
abbrev jH : Obj := .cells #[(iV 0), (iV 0), (iV 0)] 280 (0, 0)
abbrev Fo (M : Mem) (k : Nat) (v0 v1 v2 : Value) (G : Mem → Prop) : Prop := sT M k 0 v0 fun M => sT M k (0 + 1) v1 fun M => sT M k (0 + 2) v2 fun M => G M
abbrev oz : Obj := .cells #[(iV 0), (.bool false), (iV 0), (iV 0), (iV 0), (.bool false)] 381 (0, 0)
abbrev sT2 (M : Mem) (k : Nat) (v0 v1 : Value) (G : Mem → Prop) : Prop := sT M k 0 v0 fun M => sT M k (0 + 1) v1 fun M => G M
abbrev zL (M : Mem) (k o : Nat) (G : Int → Bool → Int → Int → Int → Bool → Prop) : Prop := rI M k o fun x0 => rB M k (o + 1) fun x1 => rI M k (o + 2) fun x2 => rI M k (o + 3) fun x3 => rI M k (o + 4) fun x4 => rB M k (o + 5) fun x5 => G x0 x1 x2 x3 x4 x5
abbrev sT6 (M : Mem) (k : Nat) (v0 v1 v2 v3 v4 v5 : Value) (G : Mem → Prop) : Prop := sT M k 0 v0 fun M => sT M k (0 + 1) v1 fun M => sT M k (0 + 2) v2 fun M => sT M k (0 + 3) v3 fun M => sT M k (0 + 4) v4 fun M => sT M k (0 + 5) v5 fun M => G M
abbrev rV : Obj := .cells #[(iV 0), (iV 0), (iV 0)] 165 (0, 0)
abbrev bM (M : Mem) (k o : Nat) (G : Int → Int → Int → Int → Prop) : Prop := rI M k o fun x0 => rI M k (o + 1) fun x1 => rI M k (o + 2) fun x2 => rI M k (o + 3) fun x3 => G x0 x1 x2 x3
abbrev xy : Obj := .cells #[(iV 0), (iV 0), (iV 0), (iV 0)] 27 (0, 0)
abbrev rII (M : Mem) (k o : Nat) (G : Int → Int → Prop) : Prop := rI M k o fun x0 => rI M k (o + 1) fun x1 => G x0 x1
abbrev pb (M : Mem) (k o : Nat) (G : Option Addr → Nat → Nat → Option Addr → Nat → Nat → Int → Option Addr → Nat → Nat → Prop) : Prop := rS M k o fun x0 x1 x2 => rS M k (o + 1) fun x3 x4 x5 => rI M k (o + 2) fun x6 => rS M k (o + 3) fun x7 x8 x9 => G x0 x1 x2 x3 x4 x5 x6 x7 x8 x9
abbrev uo : Obj := .cells #[(iV 0), (iV 0), (iV 0), (iV 0), (.int .u64 0)] 97 (0, 0)
abbrev O0 : Obj := .cells #[(iV 0)] 3 (0, 0)
abbrev sT5 (M : Mem) (k : Nat) (v0 v1 v2 v3 v4 : Value) (G : Mem → Prop) : Prop := sT M k 0 v0 fun M => sT M k (0 + 1) v1 fun M => sT M k (0 + 2) v2 fun M => sT M k (0 + 3) v3 fun M => sT M k (0 + 4) v4 fun M => G M
abbrev O1 (M : Mem) (k o : Nat) (G : Int → Int → Int → Int → Int → Prop) : Prop := rI M k o fun x0 => rI M k (o + 1) fun x1 => rI M k (o + 2) fun x2 => rI M k (o + 3) fun x3 => rU M k (o + 4) fun x4 => G x0 x1 x2 x3 x4
abbrev SB : Obj := .cells #[(iV 0), (.int .u64 0)] 95 (0, 0)
abbrev rIU (M : Mem) (k o : Nat) (G : Int → Int → Prop) : Prop := rI M k o fun x0 => rU M k (o + 1) fun x1 => G x0 x1
abbrev Mn : Obj := .cells #[(iV 0), (.slice none 0 0), (iV 0)] 254 (0, 0)
abbrev rISI (M : Mem) (k o : Nat) (G : Int → Option Addr → Nat → Nat → Int → Prop) : Prop := rI M k o fun x0 => rS M k (o + 1) fun x1 x2 x3 => rI M k (o + 2) fun x4 => G x0 x1 x2 x3 x4
abbrev nu : Obj := .cells #[(iV 0), (iV 0), (iV 0), (.slice none 0 0)] 43 (0, 0)
abbrev F7 (M : Mem) (k o : Nat) (G : Int → Int → Int → Option Addr → Nat → Nat → Prop) : Prop := rI M k o fun x0 => rI M k (o + 1) fun x1 => rI M k (o + 2) fun x2 => rS M k (o + 3) fun x3 x4 x5 => G x0 x1 x2 x3 x4 x5
abbrev Mo : Obj := .cells #[(iV 0), (iV 0), (iV 0), (iV 0)] 23 (0, 0)
abbrev KP : Obj := .cells #[(.slice none 0 0)] 189 (0, 0)
abbrev KQ : Obj := .cells #[(.pointer none)] 187 (0, 0)
abbrev Mp : Obj := .cells #[(.int .u64 0), (.int .u64 0), (iV 0)] 203 (0, 0)
abbrev rUUI (M : Mem) (k o : Nat) (G : Int → Int → Int → Prop) : Prop := rU M k o fun x0 => rU M k (o + 1) fun x1 => rI M k (o + 2) fun x2 => G x0 x1 x2
abbrev UI : Obj := .cells #[(iV 0)] 2 (0, 0)
abbrev IJ : Obj := .cells #[(iV 0), (.slice none 0 0), (iV 0), (iV 0)] 263 (0, 0)
abbrev UJ (M : Mem) (k o : Nat) (G : Int → Option Addr → Nat → Nat → Int → Int → Prop) : Prop := rI M k o fun x0 => rS M k (o + 1) fun x1 x2 x3 => rI M k (o + 2) fun x4 => rI M k (o + 3) fun x5 => G x0 x1 x2 x3 x4 x5
abbrev Mq : Obj := .cells #[(iV 0), (iV 0), (iV 0)] 268 (0, 0)
abbrev vJ : Obj := .cells #[(iV 0), (iV 0), (iV 0), (iV 0), (iV 0), (iV 0), (iV 0), (iV 0), (iV 0), (iV 0), (iV 0)] 275 (0, 0)
abbrev oA (M : Mem) (k o : Nat) (G : Int → Int → Int → Int → Int → Int → Int → Int → Int → Int → Int → Prop) : Prop := rI M k o fun x0 => rI M k (o + 1) fun x1 => rI M k (o + 2) fun x2 => rI M k (o + 3) fun x3 => rI M k (o + 4) fun x4 => rI M k (o + 5) fun x5 => rI M k (o + 6) fun x6 => rI M k (o + 7) fun x7 => rI M k (o + 8) fun x8 => rI M k (o + 9) fun x9 => rI M k (o + 10) fun x10 => G x0 x1 x2 x3 x4 x5 x6 x7 x8 x9 x10
abbrev sT11 (M : Mem) (k : Nat) (v0 v1 v2 v3 v4 v5 v6 v7 v8 v9 v10 : Value) (G : Mem → Prop) : Prop := sT M k 0 v0 fun M => sT M k (0 + 1) v1 fun M => sT M k (0 + 2) v2 fun M => sT M k (0 + 3) v3 fun M => sT M k (0 + 4) v4 fun M => sT M k (0 + 5) v5 fun M => sT M k (0 + 6) v6 fun M => sT M k (0 + 7) v7 fun M => sT M k (0 + 8) v8 fun M => sT M k (0 + 9) v9 fun M => sT M k (0 + 10) v10 fun M => G M
abbrev Dd : Obj := .cells #[(.slice none 0 0), (.slice none 0 0), (iV 0), (.slice none 0 0)] 39 (0, 0)
abbrev iM : Obj := .cells #[(iV 0), (iV 0), (iV 0), (iV 0)] 63 (0, 0)
abbrev xz : Obj := .cells #[(iV 0), (iV 0), (iV 0)] 163 (0, 0)
abbrev xA : Obj := .cells #[(.slice none 0 0), (.slice none 0 0), (iV 0), (.slice none 0 0)] 59 (0, 0)
abbrev rSS (M : Mem) (k o : Nat) (G : Option Addr → Nat → Nat → Option Addr → Nat → Nat → Prop) : Prop := rS M k o fun x0 x1 x2 => rS M k (o + 1) fun x3 x4 x5 => G x0 x1 x2 x3 x4 x5
abbrev F8 : Obj := .cells #[(iV 0), (.slice none 0 0), (.slice none 0 0), (.slice none 0 0), (.bool false)] 318 (0, 0)
abbrev V0 (M : Mem) (k o : Nat) (G : Int → Option Addr → Nat → Nat → Option Addr → Nat → Nat → Option Addr → Nat → Nat → Bool → Prop) : Prop := rI M k o fun x0 => rS M k (o + 1) fun x1 x2 x3 => rS M k (o + 2) fun x4 x5 x6 => rS M k (o + 3) fun x7 x8 x9 => rB M k (o + 4) fun x10 => G x0 x1 x2 x3 x4 x5 x6 x7 x8 x9 x10
abbrev vK : Obj := .cells #[(iV 0), (iV 0), (iV 0), (iV 0), (iV 0), (iV 0), (iV 0), (iV 0), (iV 0), (iV 0), (iV 0)] 347 (0, 0)
abbrev kS : Obj := .cells #[(.slice none 0 0), (.slice none 0 0), (iV 0), (.slice none 0 0), (.slice none 0 0), (.int .u64 0), (.slice none 0 0), (.slice none 0 0), (.slice none 0 0), (.int .u64 0), (.slice none 0 0), (iV 0), (iV 0), (.slice none 0 0)] 81 (0, 0)
abbrev bT : Obj := .cells #[(iV 0), (iV 0), (iV 0), (iV 0), (.slice none 0 0), (.slice none 0 0), (iV 0), (.slice none 0 0), (.slice none 0 0), (.int .u64 0), (.slice none 0 0), (.slice none 0 0), (.slice none 0 0), (.int .u64 0), (.slice none 0 0), (iV 0), (iV 0), (.slice none 0 0), (.slice none 0 0), (.slice none 0 0), (.slice none 0 0), (.slice none 0 0), (.slice none 0 0), (.bool false), (.bool false), (.slice none 0 0), (iV 0)] 88 (0, 0)
abbrev V1 (M : Mem) (k o : Nat) (G : Option Addr → Nat → Nat → Option Addr → Nat → Nat → Bool → Bool → Option Addr → Nat → Nat → Prop) : Prop := rS M k o fun x0 x1 x2 => rS M k (o + 1) fun x3 x4 x5 => rB M k (o + 2) fun x6 => rB M k (o + 3) fun x7 => rS M k (o + 4) fun x8 x9 x10 => G x0 x1 x2 x3 x4 x5 x6 x7 x8 x9 x10
end Go.AF
