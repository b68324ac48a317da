/- A part of proofs about one program. -/
import Derived.Test.YtnnlgknlialpmaaGreatZTaperSumsBig
set_option linter.unusedVariables false
namespace Go.AF
class St (R : Mem) (L : List HP) (M : Mem) (G : Prop) (G' : outParam Prop) : Prop where
 to : Hp R L M → G' → G
section
variable {R : Mem} {L L' : List HP} {M : Mem} {b o : Nat}
instance {k : IntKind} {n : Int} {G : Int → Prop} [ng b o L (.int k n)] : St R L M (aK (M.ld ⟨b, o, none⟩) k G) (G n) := ⟨fun h g => ay h g⟩
instance {n : Bool} {G : Bool → Prop} [ng b o L (.bool n)] : St R L M (dH (M.ld ⟨b, o, none⟩) G) (G n) := ⟨fun h g => FX h g⟩
instance {n : ByteArray} {G : ByteArray → Prop} [ng b o L (.string n)] : St R L M (fz (M.ld ⟨b, o, none⟩) G) (G n) := ⟨fun h g => aac h g⟩
instance {n : Option Addr} {G : Option Addr → Prop} [ng b o L (.pointer n)] : St R L M (cv (M.ld ⟨b, o, none⟩) G) (G n) := ⟨fun h g => cK h g⟩
instance {A : Option Addr} {n c : Nat} {G : Option Addr → Nat → Nat → Prop} [ng b o L (.slice A n c)] : St R L M (az (M.ld ⟨b, o, none⟩) G) (G A n c) := ⟨fun h g => aF h g⟩
instance {v : Value} {G : Value → Prop} [ng b o L v] : St R L M (fC (M.ld ⟨b, o, none⟩) G) (G v) := ⟨fun h g => OV h g⟩
instance {k : IntKind} {n : Int} {G : Int → Prop} : St R L M (aK (some (.int k n)) k G) (G n) := ⟨fun _ g => bW g⟩
instance {n : Bool} {G : Bool → Prop} : St R L M (dH (some (.bool n)) G) (G n) := ⟨fun _ g => oS g⟩
instance {n : ByteArray} {G : ByteArray → Prop} : St R L M (fz (some (.string n)) G) (G n) := ⟨fun _ g => KE g⟩
instance {n : Option Addr} {G : Option Addr → Prop} : St R L M (cv (some (.pointer n)) G) (G n) := ⟨fun _ g => gY g⟩
instance {A : Option Addr} {n c : Nat} {G : Option Addr → Nat → Nat → Prop} : St R L M (az (some (.slice A n c)) G) (G A n c) := ⟨fun _ g => aO g⟩
instance {v : Value} {G : Value → Prop} : St R L M (fC (some v) G) (G v) := ⟨fun _ g => OY g⟩
instance {G : Nat → Nat → Prop} : St R L M (aE (some ⟨b, o, none⟩) G) (G b o) := ⟨fun _ g => aY g⟩
instance {X Y : Prop} : St R L M (aQ true X Y) X := ⟨fun _ g => ae g⟩
instance {X Y : Prop} : St R L M (aQ false X Y) Y := ⟨fun _ g => ai g⟩
instance {G : Prop} : St R L M (True ∧ G) G := ⟨fun _ g => ⟨trivial, g⟩⟩
instance {v : Value} {G : Prop} [ng b o L v] : St R L M (M.ld ⟨b, o, none⟩ = some v ∧ G) G := ⟨fun h g => ⟨bD h, g⟩⟩
end
theorem bp {L T : List HP} (s : Sub L T := by repeat (first | exact .refl | refine .cons (by repeat (first | exact .here | apply cW.there)) ?_ | apply Sub.drop)) : Sub L T := s
abbrev rI (M : Mem) (k o : Nat) (G : Int → Prop) : Prop := aK (M.ld ⟨k, o, none⟩) .i64 G
abbrev rS (M : Mem) (k o : Nat) (G : Option Addr → Nat → Nat → Prop) : Prop := az (M.ld ⟨k, o, none⟩) G
abbrev sT (M : Mem) (k o : Nat) (v : Value) (G : Mem → Prop) : Prop := aN M ⟨k, o, none⟩ v G
abbrev iV (n : Int) : Value := .int .i64 n
theorem av {X Y : Prop} (y : Y) (x : X := by first | exact rfl | ((repeat (refine jL (bD h) ?_)); exact vB) | omega) : X ∧ Y := ⟨x, y⟩
abbrev rU (M : Mem) (k o : Nat) (G : Int → Prop) : Prop := aK (M.ld ⟨k, o, none⟩) .u64 G
abbrev rB (M : Mem) (k o : Nat) (G : Bool → Prop) : Prop := dH (M.ld ⟨k, o, none⟩) G
abbrev rP (M : Mem) (k o : Nat) (G : Option Addr → Prop) : Prop := cv (M.ld ⟨k, o, none⟩) G
abbrev eI (M : Mem) (k o : Nat) (n : Int) : Prop := M.ld ⟨k, o, none⟩ = some (iV n)
abbrev eS (M : Mem) (k o : Nat) (A : Option Addr) (n c : Nat) : Prop := M.ld ⟨k, o, none⟩ = some (.slice A n c)
abbrev rW (M : Mem) (k : Nat) (G : List Value → Prop) : Prop := Sh (M.gd ⟨k, 0, none⟩ 0 14) G
abbrev IT := Nat → List Value → Mem → Prop
abbrev cl (l : List Value) (T : Nat) : Obj := .cells l.toArray T (0, 0)
abbrev xW (v : Value) (G : Value → Value → Value → Value → Value → Value → Value → Value → Value → Value → Value → Value → Value → Value → Prop) : Prop := ∃ v0 v1 v2 v3 v4 v5 v6 v7 v8 v9 v10 v11 zL C7 : Value, v = .agg #[v0, v1, v2, v3, v4, v5, v6, v7, v8, v9, v10, v11, zL, C7] ∧ G v0 v1 v2 v3 v4 v5 v6 v7 v8 v9 v10 v11 zL C7
abbrev eW (M : Mem) (k : Nat) (a0 : Option Addr) (a1 a2 : Nat) (a3 : Option Addr) (a4 a5 : Nat) (a6 : Int) (a7 : Option Addr) (a8 a9 : Nat) (a10 : Option Addr) (a11 a12 : Nat) (a13 : Int) (a14 : Option Addr) (a15 a16 : Nat) (a17 : Option Addr) (a18 a19 : Nat) (a20 : Option Addr) (RO a22 : Nat) (a23 : Int) (a24 : Option Addr) (a25 a26 : Nat) (a27 : Int) (a28 : Int) (a29 : Option Addr) (a30 a31 : Nat) : Prop := M.gd ⟨k, 0, none⟩ 0 14 = some [.slice a0 a1 a2, .slice a3 a4 a5, .int .i64 a6, .slice a7 a8 a9, .slice a10 a11 a12, .int .u64 a13, .slice a14 a15 a16, .slice a17 a18 a19, .slice a20 RO a22, .int .u64 a23, .slice a24 a25 a26, .int .i64 a27, .int .i64 a28, .slice a29 a30 a31]
abbrev tW2 (M : Mem) (k : Nat) (a0 : Option Addr) (a1 a2 : Nat) (a3 : Option Addr) (a4 a5 : Nat) (a6 : Int) (a7 : Option Addr) (a8 a9 : Nat) (a10 : Option Addr) (a11 a12 : Nat) (a13 : Int) (a14 : Option Addr) (a15 a16 : Nat) (a17 : Option Addr) (a18 a19 : Nat) (a20 : Option Addr) (RO a22 : Nat) (a23 : Int) (a24 : Option Addr) (a25 a26 : Nat) (a27 : Int) (a28 : Int) (a29 : Option Addr) (a30 a31 : Nat) (G : Mem → Prop) : Prop := VQ M k 0 [.slice a0 a1 a2, .slice a3 a4 a5, .int .i64 a6, .slice a7 a8 a9, .slice a10 a11 a12, .int .u64 a13, .slice a14 a15 a16, .slice a17 a18 a19, .slice a20 RO a22, .int .u64 a23, .slice a24 a25 a26, .int .i64 a27, .int .i64 a28, .slice a29 a30 a31] 14 G
abbrev Ay : Obj := .cells #[(.slice none 0 0), (.slice none 0 0), (.slice none 0 0), (.bool false)] 197 (0, 0)
abbrev kB (M : Mem) (k : Nat) (v0 v1 v2 v3 : Value) (G : Mem → Prop) : Prop := sT M k 0 v0 fun M => sT M k (0 + 1) v1 fun M => sT M k (0 + 2) v2 fun M => sT M k (0 + 3) v3 fun M => G M
abbrev KF (M : Mem) (k o : Nat) (G : Option Addr → Nat → Nat → Option Addr → Nat → Nat → Option Addr → Nat → Nat → Bool → Prop) : Prop := rS M k o fun x0 x1 x2 => rS M k (o + 1) fun x3 x4 x5 => rS M k (o + 2) fun x6 x7 x8 => rB M k (o + 3) fun x9 => G x0 x1 x2 x3 x4 x5 x6 x7 x8 x9
abbrev j9 (M : Mem) (k o : Nat) (G : Int → Int → Int → Prop) : Prop := rI M k o fun x0 => rI M k (o + 1) fun x1 => rI M k (o + 2) fun x2 => G x0 x1 x2
abbrev jy : Obj := .cells #[(iV 0), (iV 0), (iV 0)] 280 (0, 0)
abbrev FY (M : Mem) (k : Nat) (v0 v1 v2 : Value) (G : Mem → Prop) : Prop := sT M k 0 v0 fun M => sT M k (0 + 1) v1 fun M => sT M k (0 + 2) v2 fun M => G M
abbrev ot : Obj := .cells #[(iV 0), (.bool false), (iV 0), (iV 0), (iV 0), (.bool false)] 381 (0, 0)
abbrev sT2 (M : Mem) (k : Nat) (v0 v1 : Value) (G : Mem → Prop) : Prop := sT M k 0 v0 fun M => sT M k (0 + 1) v1 fun M => G M
abbrev zM (M : Mem) (k o : Nat) (G : Int → Bool → Int → Int → Int → Bool → Prop) : Prop := rI M k o fun x0 => rB M k (o + 1) fun x1 => rI M k (o + 2) fun x2 => rI M k (o + 3) fun x3 => rI M k (o + 4) fun x4 => rB M k (o + 5) fun x5 => G x0 x1 x2 x3 x4 x5
abbrev sT6 (M : Mem) (k : Nat) (v0 v1 v2 v3 v4 v5 : Value) (G : Mem → Prop) : Prop := sT M k 0 v0 fun M => sT M k (0 + 1) v1 fun M => sT M k (0 + 2) v2 fun M => sT M k (0 + 3) v3 fun M => sT M k (0 + 4) v4 fun M => sT M k (0 + 5) v5 fun M => G M
abbrev rJ : Obj := .cells #[(iV 0), (iV 0), (iV 0)] 165 (0, 0)
abbrev bN (M : Mem) (k o : Nat) (G : Int → Int → Int → Int → Prop) : Prop := rI M k o fun x0 => rI M k (o + 1) fun x1 => rI M k (o + 2) fun x2 => rI M k (o + 3) fun x3 => G x0 x1 x2 x3
abbrev xk : Obj := .cells #[(iV 0), (iV 0), (iV 0), (iV 0)] 27 (0, 0)
abbrev rII (M : Mem) (k o : Nat) (G : Int → Int → Prop) : Prop := rI M k o fun x0 => rI M k (o + 1) fun x1 => G x0 x1
abbrev tP (M : Mem) (k o : Nat) (G : Option Addr → Nat → Nat → Option Addr → Nat → Nat → Int → Option Addr → Nat → Nat → Prop) : Prop := rS M k o fun x0 x1 x2 => rS M k (o + 1) fun x3 x4 x5 => rI M k (o + 2) fun x6 => rS M k (o + 3) fun x7 x8 x9 => G x0 x1 x2 x3 x4 x5 x6 x7 x8 x9
abbrev uh : Obj := .cells #[(iV 0), (iV 0), (iV 0), (iV 0), (.int .u64 0)] 97 (0, 0)
abbrev U5 : Obj := .cells #[(iV 0)] 3 (0, 0)
abbrev sT5 (M : Mem) (k : Nat) (v0 v1 v2 v3 v4 : Value) (G : Mem → Prop) : Prop := sT M k 0 v0 fun M => sT M k (0 + 1) v1 fun M => sT M k (0 + 2) v2 fun M => sT M k (0 + 3) v3 fun M => sT M k (0 + 4) v4 fun M => G M
abbrev IA (M : Mem) (k o : Nat) (G : Int → Int → Int → Int → Int → Prop) : Prop := rI M k o fun x0 => rI M k (o + 1) fun x1 => rI M k (o + 2) fun x2 => rI M k (o + 3) fun x3 => rU M k (o + 4) fun x4 => G x0 x1 x2 x3 x4
abbrev KG : Obj := .cells #[(iV 0), (.int .u64 0)] 95 (0, 0)
abbrev rIU (M : Mem) (k o : Nat) (G : Int → Int → Prop) : Prop := rI M k o fun x0 => rU M k (o + 1) fun x1 => G x0 x1
abbrev C8 : Obj := .cells #[(iV 0), (iV 0), (iV 0), (.slice none 0 0)] 43 (0, 0)
abbrev O1 (M : Mem) (k o : Nat) (G : Int → Int → Int → Option Addr → Nat → Nat → Prop) : Prop := rI M k o fun x0 => rI M k (o + 1) fun x1 => rI M k (o + 2) fun x2 => rS M k (o + 3) fun x3 x4 x5 => G x0 x1 x2 x3 x4 x5
abbrev Mq : Obj := .cells #[(iV 0), (iV 0), (iV 0), (iV 0)] 23 (0, 0)
abbrev KH : Obj := .cells #[(.slice none 0 0)] 189 (0, 0)
abbrev KI : Obj := .cells #[(.pointer none)] 187 (0, 0)
abbrev Mr : Obj := .cells #[(.int .u64 0), (.int .u64 0), (iV 0)] 203 (0, 0)
abbrev aag (M : Mem) (k o : Nat) (G : Int → Int → Int → Prop) : Prop := rU M k o fun x0 => rU M k (o + 1) fun x1 => rI M k (o + 2) fun x2 => G x0 x1 x2
abbrev aah : Obj := .cells #[(iV 0)] 2 (0, 0)
abbrev IB : Obj := .cells #[(iV 0), (.slice none 0 0), (iV 0), (iV 0)] 263 (0, 0)
abbrev U6 (M : Mem) (k o : Nat) (G : Int → Option Addr → Nat → Nat → Int → Int → Prop) : Prop := rI M k o fun x0 => rS M k (o + 1) fun x1 x2 x3 => rI M k (o + 2) fun x4 => rI M k (o + 3) fun x5 => G x0 x1 x2 x3 x4 x5
abbrev Ms : Obj := .cells #[(iV 0), (iV 0), (iV 0)] 268 (0, 0)
abbrev vC : Obj := .cells #[(iV 0), (iV 0), (iV 0), (iV 0), (iV 0), (iV 0), (iV 0), (iV 0), (iV 0), (iV 0), (iV 0)] 275 (0, 0)
abbrev vD (M : Mem) (k o : Nat) (G : Int → Int → Int → Int → Int → Int → Int → Int → Int → Int → Int → Prop) : Prop := rI M k o fun x0 => rI M k (o + 1) fun x1 => rI M k (o + 2) fun x2 => rI M k (o + 3) fun x3 => rI M k (o + 4) fun x4 => rI M k (o + 5) fun x5 => rI M k (o + 6) fun x6 => rI M k (o + 7) fun x7 => rI M k (o + 8) fun x8 => rI M k (o + 9) fun x9 => rI M k (o + 10) fun x10 => G x0 x1 x2 x3 x4 x5 x6 x7 x8 x9 x10
abbrev xl (M : Mem) (k : Nat) (v0 v1 v2 v3 v4 v5 v6 v7 v8 v9 v10 : Value) (G : Mem → Prop) : Prop := sT M k 0 v0 fun M => sT M k (0 + 1) v1 fun M => sT M k (0 + 2) v2 fun M => sT M k (0 + 3) v3 fun M => sT M k (0 + 4) v4 fun M => sT M k (0 + 5) v5 fun M => sT M k (0 + 6) v6 fun M => sT M k (0 + 7) v7 fun M => sT M k (0 + 8) v8 fun M => sT M k (0 + 9) v9 fun M => sT M k (0 + 10) v10 fun M => G M
abbrev xm : Obj := .cells #[(.slice none 0 0), (.slice none 0 0), (iV 0), (.slice none 0 0)] 39 (0, 0)
abbrev iF : Obj := .cells #[(iV 0), (iV 0), (iV 0), (iV 0)] 63 (0, 0)
abbrev xn : Obj := .cells #[(iV 0), (iV 0), (iV 0)] 163 (0, 0)
abbrev xo : Obj := .cells #[(.slice none 0 0), (.slice none 0 0), (iV 0), (.slice none 0 0)] 59 (0, 0)
abbrev rSS (M : Mem) (k o : Nat) (G : Option Addr → Nat → Nat → Option Addr → Nat → Nat → Prop) : Prop := rS M k o fun x0 x1 x2 => rS M k (o + 1) fun x3 x4 x5 => G x0 x1 x2 x3 x4 x5
abbrev dQ : Obj := .cells #[(iV 0), (iV 0), (iV 0), (.slice none 0 0), (.slice none 0 0), (iV 0), (iV 0), (iV 0), (iV 0), (iV 0), (.int .u64 0)] 114 (0, 0)
abbrev dJ (M : Mem) (k o : Nat) (G : Int → Int → Int → Option Addr → Nat → Nat → Option Addr → Nat → Nat → Int → Int → Int → Int → Int → Int → Prop) : Prop := rI M k o fun x0 => rI M k (o + 1) fun x1 => rI M k (o + 2) fun x2 => rS M k (o + 3) fun x3 x4 x5 => rS M k (o + 4) fun x6 x7 x8 => rI M k (o + 5) fun x9 => rI M k (o + 6) fun x10 => rI M k (o + 7) fun x11 => rI M k (o + 8) fun x12 => rI M k (o + 9) fun x13 => rU M k (o + 10) fun x14 => G x0 x1 x2 x3 x4 x5 x6 x7 x8 x9 x10 x11 x12 x13 x14
end Go.AF
