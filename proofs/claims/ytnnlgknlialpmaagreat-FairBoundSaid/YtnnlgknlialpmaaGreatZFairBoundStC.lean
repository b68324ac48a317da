/- A part of proofs about one program. -/
import Derived.Test.YtnnlgknlialpmaaGreatZFairBoundBig
set_option linter.unusedVariables false
namespace Go.AF
class St (R : Mem) (L : List HP) (M : Mem) (G : Prop) (G' : outParam Prop) : Prop where
 to : Hp R L M → G' → G
section
variable {R : Mem} {L L' : List HP} {M : Mem} {b o : Nat}
instance {k : IntKind} {n : Int} {G : Int → Prop} [nC b o L (.int k n)] : St R L M (aJ (M.ld ⟨b, o, none⟩) k G) (G n) := ⟨fun h g => aH h g⟩
instance {n : Bool} {G : Bool → Prop} [nC b o L (.bool n)] : St R L M (de (M.ld ⟨b, o, none⟩) G) (G n) := ⟨fun h g => Is h g⟩
instance {n : ByteArray} {G : ByteArray → Prop} [nC b o L (.string n)] : St R L M (fA (M.ld ⟨b, o, none⟩) G) (G n) := ⟨fun h g => XU h g⟩
instance {n : Option Addr} {G : Option Addr → Prop} [nC b o L (.pointer n)] : St R L M (cw (M.ld ⟨b, o, none⟩) G) (G n) := ⟨fun h g => kQ h g⟩
instance {A : Option Addr} {n c : Nat} {G : Option Addr → Nat → Nat → Prop} [nC b o L (.slice A n c)] : St R L M (aB (M.ld ⟨b, o, none⟩) G) (G A n c) := ⟨fun h g => aS h g⟩
instance {v : Value} {G : Value → Prop} [nC b o L v] : St R L M (dZ (M.ld ⟨b, o, none⟩) G) (G v) := ⟨fun h g => yM h g⟩
instance {k : IntKind} {n : Int} {G : Int → Prop} : St R L M (aJ (some (.int k n)) k G) (G n) := ⟨fun _ g => cE g⟩
instance {n : Bool} {G : Bool → Prop} : St R L M (de (some (.bool n)) G) (G n) := ⟨fun _ g => ot g⟩
instance {n : ByteArray} {G : ByteArray → Prop} : St R L M (fA (some (.string n)) G) (G n) := ⟨fun _ g => XV g⟩
instance {n : Option Addr} {G : Option Addr → Prop} : St R L M (cw (some (.pointer n)) G) (G n) := ⟨fun _ g => ju g⟩
instance {A : Option Addr} {n c : Nat} {G : Option Addr → Nat → Nat → Prop} : St R L M (aB (some (.slice A n c)) G) (G A n c) := ⟨fun _ g => be g⟩
instance {v : Value} {G : Value → Prop} : St R L M (dZ (some v) G) (G v) := ⟨fun _ g => MA g⟩
instance {G : Nat → Nat → Prop} : St R L M (aF (some ⟨b, o, none⟩) G) (G b o) := ⟨fun _ g => bp g⟩
instance {X Y : Prop} : St R L M (aO true X Y) X := ⟨fun _ g => ae g⟩
instance {X Y : Prop} : St R L M (aO false X Y) Y := ⟨fun _ g => ai g⟩
instance {G : Prop} : St R L M (True ∧ G) G := ⟨fun _ g => ⟨trivial, g⟩⟩
instance {v : Value} {G : Prop} [nC b o L v] : St R L M (M.ld ⟨b, o, none⟩ = some v ∧ G) G := ⟨fun h g => ⟨bN h, g⟩⟩
end
theorem bD {L T : List HP} (s : Sub L T := by repeat (first | exact .refl | refine .cons (by repeat (first | exact .here | apply cY.there)) ?_ | apply Sub.drop)) : Sub L T := s
abbrev rI (M : Mem) (k o : Nat) (G : Int → Prop) : Prop := aJ (M.ld ⟨k, o, none⟩) .i64 G
abbrev rS (M : Mem) (k o : Nat) (G : Option Addr → Nat → Nat → Prop) : Prop := aB (M.ld ⟨k, o, none⟩) G
abbrev sT (M : Mem) (k o : Nat) (v : Value) (G : Mem → Prop) : Prop := aK M ⟨k, o, none⟩ v G
abbrev iV (n : Int) : Value := .int .i64 n
theorem av {X Y : Prop} (y : Y) (x : X := by first | exact rfl | ((repeat (refine jv (bN h) ?_)); exact uf) | omega) : X ∧ Y := ⟨x, y⟩
abbrev rU (M : Mem) (k o : Nat) (G : Int → Prop) : Prop := aJ (M.ld ⟨k, o, none⟩) .u64 G
abbrev rB (M : Mem) (k o : Nat) (G : Bool → Prop) : Prop := de (M.ld ⟨k, o, none⟩) G
abbrev rP (M : Mem) (k o : Nat) (G : Option Addr → Prop) : Prop := cw (M.ld ⟨k, o, none⟩) G
abbrev eI (M : Mem) (k o : Nat) (n : Int) : Prop := M.ld ⟨k, o, none⟩ = some (iV n)
abbrev eS (M : Mem) (k o : Nat) (A : Option Addr) (n c : Nat) : Prop := M.ld ⟨k, o, none⟩ = some (.slice A n c)
abbrev rW (M : Mem) (k : Nat) (G : List Value → Prop) : Prop := Xs (M.g9 ⟨k, 0, none⟩ 0 14) G
abbrev IT := Nat → List Value → Mem → Prop
abbrev cl (l : List Value) (T : Nat) : Obj := .cells l.toArray T (0, 0)
abbrev xW (v : Value) (G : Value → Value → Value → Value → Value → Value → Value → Value → Value → Value → Value → Value → Value → Value → Prop) : Prop := ∃ v0 v1 v2 v3 v4 v5 v6 v7 v8 v9 v10 v11 It Lz : Value, v = .agg #[v0, v1, v2, v3, v4, v5, v6, v7, v8, v9, v10, v11, It, Lz] ∧ G v0 v1 v2 v3 v4 v5 v6 v7 v8 v9 v10 v11 It Lz
abbrev eW (M : Mem) (k : Nat) (a0 : Option Addr) (a1 a2 : Nat) (a3 : Option Addr) (a4 a5 : Nat) (a6 : Int) (a7 : Option Addr) (a8 a9 : Nat) (XY : Option Addr) (XZ a12 : Nat) (a13 : Int) (a14 : Option Addr) (a15 a16 : Nat) (a17 : Option Addr) (a18 a19 : Nat) (a20 : Option Addr) (a21 a22 : Nat) (a23 : Int) (a24 : Option Addr) (a25 a26 : Nat) (a27 : Int) (a28 : Int) (a29 : Option Addr) (a30 a31 : Nat) : Prop := M.g9 ⟨k, 0, none⟩ 0 14 = some [.slice a0 a1 a2, .slice a3 a4 a5, .int .i64 a6, .slice a7 a8 a9, .slice XY XZ a12, .int .u64 a13, .slice a14 a15 a16, .slice a17 a18 a19, .slice a20 a21 a22, .int .u64 a23, .slice a24 a25 a26, .int .i64 a27, .int .i64 a28, .slice a29 a30 a31]
abbrev tW2 (M : Mem) (k : Nat) (a0 : Option Addr) (a1 a2 : Nat) (a3 : Option Addr) (a4 a5 : Nat) (a6 : Int) (a7 : Option Addr) (a8 a9 : Nat) (XY : Option Addr) (XZ a12 : Nat) (a13 : Int) (a14 : Option Addr) (a15 a16 : Nat) (a17 : Option Addr) (a18 a19 : Nat) (a20 : Option Addr) (a21 a22 : Nat) (a23 : Int) (a24 : Option Addr) (a25 a26 : Nat) (a27 : Int) (a28 : Int) (a29 : Option Addr) (a30 a31 : Nat) (G : Mem → Prop) : Prop := stL M k 0 [.slice a0 a1 a2, .slice a3 a4 a5, .int .i64 a6, .slice a7 a8 a9, .slice XY XZ a12, .int .u64 a13, .slice a14 a15 a16, .slice a17 a18 a19, .slice a20 a21 a22, .int .u64 a23, .slice a24 a25 a26, .int .i64 a27, .int .i64 a28, .slice a29 a30 a31] 14 G
abbrev l9 (M : Mem) (k o : Nat) (G : Int → Int → Int → Prop) : Prop := rI M k o fun x0 => rI M k (o + 1) fun x1 => rI M k (o + 2) fun x2 => G x0 x1 x2
abbrev kB : Obj := .cells #[(iV 0), (iV 0), (iV 0)] 280 (0, 0)
abbrev Iu (M : Mem) (k : Nat) (v0 v1 v2 : Value) (G : Mem → Prop) : Prop := sT M k 0 v0 fun M => sT M k (0 + 1) v1 fun M => sT M k (0 + 2) v2 fun M => G M
abbrev nE : Obj := .cells #[(iV 0), (.bool false), (iV 0), (iV 0), (iV 0), (.bool false)] 381 (0, 0)
abbrev sT2 (M : Mem) (k : Nat) (v0 v1 : Value) (G : Mem → Prop) : Prop := sT M k 0 v0 fun M => sT M k (0 + 1) v1 fun M => G M
abbrev xU (M : Mem) (k o : Nat) (G : Int → Bool → Int → Int → Int → Bool → Prop) : Prop := rI M k o fun x0 => rB M k (o + 1) fun x1 => rI M k (o + 2) fun x2 => rI M k (o + 3) fun x3 => rI M k (o + 4) fun x4 => rB M k (o + 5) fun x5 => G x0 x1 x2 x3 x4 x5
abbrev sT6 (M : Mem) (k : Nat) (v0 v1 v2 v3 v4 v5 : Value) (G : Mem → Prop) : Prop := sT M k 0 v0 fun M => sT M k (0 + 1) v1 fun M => sT M k (0 + 2) v2 fun M => sT M k (0 + 3) v3 fun M => sT M k (0 + 4) v4 fun M => sT M k (0 + 5) v5 fun M => G M
abbrev qE : Obj := .cells #[(iV 0), (iV 0), (iV 0)] 165 (0, 0)
abbrev bG (M : Mem) (k o : Nat) (G : Int → Int → Int → Int → Prop) : Prop := rI M k o fun x0 => rI M k (o + 1) fun x1 => rI M k (o + 2) fun x2 => rI M k (o + 3) fun x3 => G x0 x1 x2 x3
abbrev vM : Obj := .cells #[(iV 0), (iV 0), (iV 0), (iV 0)] 27 (0, 0)
abbrev kC (M : Mem) (k : Nat) (v0 v1 v2 v3 : Value) (G : Mem → Prop) : Prop := sT M k 0 v0 fun M => sT M k (0 + 1) v1 fun M => sT M k (0 + 2) v2 fun M => sT M k (0 + 3) v3 fun M => G M
abbrev rII (M : Mem) (k o : Nat) (G : Int → Int → Prop) : Prop := rI M k o fun x0 => rI M k (o + 1) fun x1 => G x0 x1
abbrev yN (M : Mem) (k o : Nat) (G : Option Addr → Nat → Nat → Option Addr → Nat → Nat → Int → Option Addr → Nat → Nat → Prop) : Prop := rS M k o fun x0 x1 x2 => rS M k (o + 1) fun x3 x4 x5 => rI M k (o + 2) fun x6 => rS M k (o + 3) fun x7 x8 x9 => G x0 x1 x2 x3 x4 x5 x6 x7 x8 x9
abbrev yO : Obj := .cells #[(iV 0), (iV 0), (iV 0), (iV 0), (.int .u64 0)] 97 (0, 0)
abbrev Su : Obj := .cells #[(iV 0)] 3 (0, 0)
abbrev sT5 (M : Mem) (k : Nat) (v0 v1 v2 v3 v4 : Value) (G : Mem → Prop) : Prop := sT M k 0 v0 fun M => sT M k (0 + 1) v1 fun M => sT M k (0 + 2) v2 fun M => sT M k (0 + 3) v3 fun M => sT M k (0 + 4) v4 fun M => G M
abbrev MD (M : Mem) (k o : Nat) (G : Int → Int → Int → Int → Int → Prop) : Prop := rI M k o fun x0 => rI M k (o + 1) fun x1 => rI M k (o + 2) fun x2 => rI M k (o + 3) fun x3 => rU M k (o + 4) fun x4 => G x0 x1 x2 x3 x4
abbrev Iv : Obj := .cells #[(iV 0), (.int .u64 0)] 95 (0, 0)
abbrev rIU (M : Mem) (k o : Nat) (G : Int → Int → Prop) : Prop := rI M k o fun x0 => rU M k (o + 1) fun x1 => G x0 x1
abbrev BR : Obj := .cells #[(iV 0), (iV 0), (iV 0), (.slice none 0 0)] 43 (0, 0)
abbrev ME (M : Mem) (k o : Nat) (G : Int → Int → Int → Option Addr → Nat → Nat → Prop) : Prop := rI M k o fun x0 => rI M k (o + 1) fun x1 => rI M k (o + 2) fun x2 => rS M k (o + 3) fun x3 x4 x5 => G x0 x1 x2 x3 x4 x5
abbrev J3 : Obj := .cells #[(iV 0), (iV 0), (iV 0), (iV 0)] 23 (0, 0)
abbrev BS : Obj := .cells #[(iV 0), (iV 0), (iV 0), (iV 0)] 70 (0, 0)
abbrev TQ : Obj := .cells #[(.pointer none)] 33 (0, 0)
abbrev Qo : Obj := .cells #[(.pointer none)] 169 (0, 0)
abbrev BT : Obj := .cells #[(.slice none 0 0), (.slice none 0 0), (iV 0), (.slice none 0 0)] 39 (0, 0)
abbrev iu : Obj := .cells #[(iV 0), (iV 0), (iV 0), (iV 0)] 63 (0, 0)
abbrev vN : Obj := .cells #[(iV 0), (iV 0), (iV 0)] 163 (0, 0)
abbrev BU : Obj := .cells #[(.slice none 0 0), (.slice none 0 0), (iV 0), (.slice none 0 0)] 59 (0, 0)
abbrev rSS (M : Mem) (k o : Nat) (G : Option Addr → Nat → Nat → Option Addr → Nat → Nat → Prop) : Prop := rS M k o fun x0 x1 x2 => rS M k (o + 1) fun x3 x4 x5 => G x0 x1 x2 x3 x4 x5
abbrev J4 : Obj := .cells #[(iV 0), (iV 0), (iV 0), (iV 0)] 29 (0, 0)
end Go.AF
