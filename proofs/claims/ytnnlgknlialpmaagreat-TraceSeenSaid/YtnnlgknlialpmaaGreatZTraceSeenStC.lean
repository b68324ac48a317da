/- A part of proofs about one program. -/
import Derived.Test.YtnnlgknlialpmaaGreatZTraceSeenBig
set_option linter.unusedVariables false
namespace Go.AF
class St (R : Mem) (L : List HP) (M : Mem) (G : Prop) (G' : outParam Prop) : Prop where
 to : Hp R L M → G' → G
section
variable {R : Mem} {L L' : List HP} {M : Mem} {b o : Nat}
instance {k : IntKind} {n : Int} {G : Int → Prop} [nI b o L (.int k n)] : St R L M (aI (M.ld ⟨b, o, none⟩) k G) (G n) := ⟨fun h g => aG h g⟩
instance {n : Bool} {G : Bool → Prop} [nI b o L (.bool n)] : St R L M (c7 (M.ld ⟨b, o, none⟩) G) (G n) := ⟨fun h g => BK h g⟩
instance {n : ByteArray} {G : ByteArray → Prop} [nI b o L (.string n)] : St R L M (fm (M.ld ⟨b, o, none⟩) G) (G n) := ⟨fun h g => XP h g⟩
instance {n : Option Addr} {G : Option Addr → Prop} [nI b o L (.pointer n)] : St R L M (cy (M.ld ⟨b, o, none⟩) G) (G n) := ⟨fun h g => ou h g⟩
instance {A : Option Addr} {n c : Nat} {G : Option Addr → Nat → Nat → Prop} [nI b o L (.slice A n c)] : St R L M (aB (M.ld ⟨b, o, none⟩) G) (G A n c) := ⟨fun h g => aF h g⟩
instance {v : Value} {G : Value → Prop} [nI b o L v] : St R L M (eN (M.ld ⟨b, o, none⟩) G) (G v) := ⟨fun h g => BL h g⟩
instance {k : IntKind} {n : Int} {G : Int → Prop} : St R L M (aI (some (.int k n)) k G) (G n) := ⟨fun _ g => c6 g⟩
instance {n : Bool} {G : Bool → Prop} : St R L M (c7 (some (.bool n)) G) (G n) := ⟨fun _ g => ov g⟩
instance {n : ByteArray} {G : ByteArray → Prop} : St R L M (fm (some (.string n)) G) (G n) := ⟨fun _ g => XQ g⟩
instance {n : Option Addr} {G : Option Addr → Prop} : St R L M (cy (some (.pointer n)) G) (G n) := ⟨fun _ g => jL g⟩
instance {A : Option Addr} {n c : Nat} {G : Option Addr → Nat → Nat → Prop} : St R L M (aB (some (.slice A n c)) G) (G A n c) := ⟨fun _ g => aQ g⟩
instance {v : Value} {G : Value → Prop} : St R L M (eN (some v) G) (G v) := ⟨fun _ g => Mq g⟩
instance {G : Nat → Nat → Prop} : St R L M (aE (some ⟨b, o, none⟩) G) (G b o) := ⟨fun _ g => bg g⟩
instance {X Y : Prop} : St R L M (aP true X Y) X := ⟨fun _ g => ai g⟩
instance {X Y : Prop} : St R L M (aP false X Y) Y := ⟨fun _ g => ae g⟩
instance {G : Prop} : St R L M (True ∧ G) G := ⟨fun _ g => ⟨trivial, g⟩⟩
instance {v : Value} {G : Prop} [nI b o L v] : St R L M (M.ld ⟨b, o, none⟩ = some v ∧ G) G := ⟨fun h g => ⟨bO h, g⟩⟩
end
theorem br {L T : List HP} (s : Sub L T := by repeat (first | exact .refl | refine .cons (by repeat (first | exact .here | apply dc.there)) ?_ | apply Sub.drop)) : Sub L T := s
abbrev rI (M : Mem) (k o : Nat) (G : Int → Prop) : Prop := aI (M.ld ⟨k, o, none⟩) .i64 G
abbrev rS (M : Mem) (k o : Nat) (G : Option Addr → Nat → Nat → Prop) : Prop := aB (M.ld ⟨k, o, none⟩) G
abbrev sT (M : Mem) (k o : Nat) (v : Value) (G : Mem → Prop) : Prop := aM M ⟨k, o, none⟩ v G
abbrev iV (n : Int) : Value := .int .i64 n
theorem av {X Y : Prop} (y : Y) (x : X := by first | exact rfl | ((repeat (refine jM (bO h) ?_)); exact uw) | omega) : X ∧ Y := ⟨x, y⟩
abbrev rU (M : Mem) (k o : Nat) (G : Int → Prop) : Prop := aI (M.ld ⟨k, o, none⟩) .u64 G
abbrev rB (M : Mem) (k o : Nat) (G : Bool → Prop) : Prop := c7 (M.ld ⟨k, o, none⟩) G
abbrev rP (M : Mem) (k o : Nat) (G : Option Addr → Prop) : Prop := cy (M.ld ⟨k, o, none⟩) G
abbrev eI (M : Mem) (k o : Nat) (n : Int) : Prop := M.ld ⟨k, o, none⟩ = some (iV n)
abbrev eS (M : Mem) (k o : Nat) (A : Option Addr) (n c : Nat) : Prop := M.ld ⟨k, o, none⟩ = some (.slice A n c)
abbrev rW (M : Mem) (k : Nat) (G : List Value → Prop) : Prop := D0 (M.fK ⟨k, 0, none⟩ 0 14) G
abbrev IT := Nat → List Value → Mem → Prop
abbrev cl (l : List Value) (T : Nat) : Obj := .cells l.toArray T (0, 0)
abbrev xW (v : Value) (G : Value → Value → Value → Value → Value → Value → Value → Value → Value → Value → Value → Value → Value → Value → Prop) : Prop := ∃ v0 v1 v2 v3 v4 v5 v6 v7 v8 v9 v10 v11 Ls Ix : Value, v = .agg #[v0, v1, v2, v3, v4, v5, v6, v7, v8, v9, v10, v11, Ls, Ix] ∧ G v0 v1 v2 v3 v4 v5 v6 v7 v8 v9 v10 v11 Ls Ix
abbrev eW (M : Mem) (k : Nat) (a0 : Option Addr) (a1 a2 : Nat) (a3 : Option Addr) (a4 a5 : Nat) (a6 : Int) (a7 : Option Addr) (a8 a9 : Nat) (a10 : Option Addr) (a11 a12 : Nat) (a13 : Int) (a14 : Option Addr) (a15 a16 : Nat) (a17 : Option Addr) (a18 a19 : Nat) (Iy : Option Addr) (a21 a22 : Nat) (a23 : Int) (a24 : Option Addr) (a25 a26 : Nat) (a27 : Int) (a28 : Int) (a29 : Option Addr) (a30 a31 : Nat) : Prop := M.fK ⟨k, 0, none⟩ 0 14 = some [.slice a0 a1 a2, .slice a3 a4 a5, .int .i64 a6, .slice a7 a8 a9, .slice a10 a11 a12, .int .u64 a13, .slice a14 a15 a16, .slice a17 a18 a19, .slice Iy a21 a22, .int .u64 a23, .slice a24 a25 a26, .int .i64 a27, .int .i64 a28, .slice a29 a30 a31]
abbrev tW2 (M : Mem) (k : Nat) (a0 : Option Addr) (a1 a2 : Nat) (a3 : Option Addr) (a4 a5 : Nat) (a6 : Int) (a7 : Option Addr) (a8 a9 : Nat) (a10 : Option Addr) (a11 a12 : Nat) (a13 : Int) (a14 : Option Addr) (a15 a16 : Nat) (a17 : Option Addr) (a18 a19 : Nat) (Iy : Option Addr) (a21 a22 : Nat) (a23 : Int) (a24 : Option Addr) (a25 a26 : Nat) (a27 : Int) (a28 : Int) (a29 : Option Addr) (a30 a31 : Nat) (G : Mem → Prop) : Prop := DN M k 0 [.slice a0 a1 a2, .slice a3 a4 a5, .int .i64 a6, .slice a7 a8 a9, .slice a10 a11 a12, .int .u64 a13, .slice a14 a15 a16, .slice a17 a18 a19, .slice Iy a21 a22, .int .u64 a23, .slice a24 a25 a26, .int .i64 a27, .int .i64 a28, .slice a29 a30 a31] 14 G
abbrev mC (M : Mem) (k o : Nat) (G : Int → Int → Int → Prop) : Prop := rI M k o fun x0 => rI M k (o + 1) fun x1 => rI M k (o + 2) fun x2 => G x0 x1 x2
abbrev kP : Obj := .cells #[(iV 0), (iV 0), (iV 0)] 280 (0, 0)
abbrev F0 (M : Mem) (k : Nat) (v0 v1 v2 : Value) (G : Mem → Prop) : Prop := sT M k 0 v0 fun M => sT M k (0 + 1) v1 fun M => sT M k (0 + 2) v2 fun M => G M
abbrev nL : Obj := .cells #[(iV 0), (.bool false), (iV 0), (iV 0), (iV 0), (.bool false)] 381 (0, 0)
abbrev XS (M : Mem) (k : Nat) (v0 v1 : Value) (G : Mem → Prop) : Prop := sT M k 0 v0 fun M => sT M k (0 + 1) v1 fun M => G M
abbrev yI (M : Mem) (k o : Nat) (G : Int → Bool → Int → Int → Int → Bool → Prop) : Prop := rI M k o fun x0 => rB M k (o + 1) fun x1 => rI M k (o + 2) fun x2 => rI M k (o + 3) fun x3 => rI M k (o + 4) fun x4 => rB M k (o + 5) fun x5 => G x0 x1 x2 x3 x4 x5
abbrev sT6 (M : Mem) (k : Nat) (v0 v1 v2 v3 v4 v5 : Value) (G : Mem → Prop) : Prop := sT M k 0 v0 fun M => sT M k (0 + 1) v1 fun M => sT M k (0 + 2) v2 fun M => sT M k (0 + 3) v3 fun M => sT M k (0 + 4) v4 fun M => sT M k (0 + 5) v5 fun M => G M
abbrev qO : Obj := .cells #[(iV 0), (iV 0), (iV 0)] 165 (0, 0)
abbrev bN (M : Mem) (k o : Nat) (G : Int → Int → Int → Int → Prop) : Prop := rI M k o fun x0 => rI M k (o + 1) fun x1 => rI M k (o + 2) fun x2 => rI M k (o + 3) fun x3 => G x0 x1 x2 x3
abbrev wj : Obj := .cells #[(iV 0), (iV 0), (iV 0), (iV 0)] 27 (0, 0)
abbrev kQ (M : Mem) (k : Nat) (v0 v1 v2 v3 : Value) (G : Mem → Prop) : Prop := sT M k 0 v0 fun M => sT M k (0 + 1) v1 fun M => sT M k (0 + 2) v2 fun M => sT M k (0 + 3) v3 fun M => G M
abbrev rII (M : Mem) (k o : Nat) (G : Int → Int → Prop) : Prop := rI M k o fun x0 => rI M k (o + 1) fun x1 => G x0 x1
abbrev lZ (M : Mem) (k o : Nat) (G : Option Addr → Nat → Nat → Option Addr → Nat → Nat → Int → Option Addr → Nat → Nat → Prop) : Prop := rS M k o fun x0 x1 x2 => rS M k (o + 1) fun x3 x4 x5 => rI M k (o + 2) fun x6 => rS M k (o + 3) fun x7 x8 x9 => G x0 x1 x2 x3 x4 x5 x6 x7 x8 x9
abbrev jA : Obj := .cells #[(iV 0), (iV 0), (iV 0), (iV 0), (.int .u64 0)] 97 (0, 0)
abbrev Mv : Obj := .cells #[(iV 0)] 3 (0, 0)
abbrev TM (M : Mem) (k : Nat) (v0 v1 v2 v3 v4 : Value) (G : Mem → Prop) : Prop := sT M k 0 v0 fun M => sT M k (0 + 1) v1 fun M => sT M k (0 + 2) v2 fun M => sT M k (0 + 3) v3 fun M => sT M k (0 + 4) v4 fun M => G M
abbrev CV (M : Mem) (k o : Nat) (G : Int → Int → Int → Int → Int → Prop) : Prop := rI M k o fun x0 => rI M k (o + 1) fun x1 => rI M k (o + 2) fun x2 => rI M k (o + 3) fun x3 => rU M k (o + 4) fun x4 => G x0 x1 x2 x3 x4
abbrev P5 : Obj := .cells #[(iV 0), (.int .u64 0)] 95 (0, 0)
abbrev rIU (M : Mem) (k o : Nat) (G : Int → Int → Prop) : Prop := rI M k o fun x0 => rU M k (o + 1) fun x1 => G x0 x1
abbrev yJ : Obj := .cells #[(.slice none 0 0), (.slice none 0 0)] 93 (0, 0)
abbrev P6 : Obj := .cells #[(iV 0)] 182 (0, 0)
abbrev P7 : Obj := .cells #[(.pointer none)] 180 (0, 0)
abbrev rSS (M : Mem) (k o : Nat) (G : Option Addr → Nat → Nat → Option Addr → Nat → Nat → Prop) : Prop := rS M k o fun x0 x1 x2 => rS M k (o + 1) fun x3 x4 x5 => G x0 x1 x2 x3 x4 x5
abbrev wk : Obj := .cells #[(iV 0), (iV 0), (iV 0), (.slice none 0 0)] 43 (0, 0)
abbrev EB (M : Mem) (k o : Nat) (G : Int → Int → Int → Option Addr → Nat → Nat → Prop) : Prop := rI M k o fun x0 => rI M k (o + 1) fun x1 => rI M k (o + 2) fun x2 => rS M k (o + 3) fun x3 x4 x5 => G x0 x1 x2 x3 x4 x5
abbrev JZ : Obj := .cells #[(.bool false), (iV 0), (iV 0)] 102 (0, 0)
abbrev XT : Obj := .cells #[(.bool false)] 4 (0, 0)
abbrev rBII (M : Mem) (k o : Nat) (G : Bool → Int → Int → Prop) : Prop := rB M k o fun x0 => rI M k (o + 1) fun x1 => rI M k (o + 2) fun x2 => G x0 x1 x2
abbrev wm : Obj := .cells #[(.slice none 0 0), (.slice none 0 0), (iV 0), (.slice none 0 0)] 39 (0, 0)
abbrev J0 : Obj := .cells #[(iV 0), (.slice none 0 0), (iV 0)] 254 (0, 0)
abbrev rISI (M : Mem) (k o : Nat) (G : Int → Option Addr → Nat → Nat → Int → Prop) : Prop := rI M k o fun x0 => rS M k (o + 1) fun x1 x2 x3 => rI M k (o + 2) fun x4 => G x0 x1 x2 x3 x4
abbrev J1 : Obj := .cells #[(iV 0), (iV 0), (iV 0), (iV 0)] 23 (0, 0)
abbrev iC : Obj := .cells #[(iV 0), (iV 0), (iV 0), (iV 0)] 63 (0, 0)
abbrev wq : Obj := .cells #[(iV 0), (iV 0), (iV 0)] 163 (0, 0)
abbrev wu : Obj := .cells #[(.slice none 0 0), (.slice none 0 0), (iV 0), (.slice none 0 0)] 59 (0, 0)
abbrev EC : Obj := .cells #[(iV 0), (.slice none 0 0), (.slice none 0 0), (.slice none 0 0), (.bool false)] 318 (0, 0)
abbrev TN (M : Mem) (k o : Nat) (G : Int → Option Addr → Nat → Nat → Option Addr → Nat → Nat → Option Addr → Nat → Nat → Bool → Prop) : Prop := rI M k o fun x0 => rS M k (o + 1) fun x1 x2 x3 => rS M k (o + 2) fun x4 x5 x6 => rS M k (o + 3) fun x7 x8 x9 => rB M k (o + 4) fun XU => G x0 x1 x2 x3 x4 x5 x6 x7 x8 x9 XU
abbrev ux : Obj := .cells #[(iV 0), (iV 0), (iV 0), (iV 0), (iV 0), (iV 0), (iV 0), (iV 0), (iV 0), (iV 0), (iV 0)] 347 (0, 0)
abbrev sT11 (M : Mem) (k : Nat) (v0 v1 v2 v3 v4 v5 v6 v7 v8 v9 v10 : Value) (G : Mem → Prop) : Prop := sT M k 0 v0 fun M => sT M k (0 + 1) v1 fun M => sT M k (0 + 2) v2 fun M => sT M k (0 + 3) v3 fun M => sT M k (0 + 4) v4 fun M => sT M k (0 + 5) v5 fun M => sT M k (0 + 6) v6 fun M => sT M k (0 + 7) v7 fun M => sT M k (0 + 8) v8 fun M => sT M k (0 + 9) v9 fun M => sT M k (0 + 10) v10 fun M => G M
abbrev CW (M : Mem) (k o : Nat) (G : Int → Int → Int → Int → Int → Int → Int → Int → Int → Int → Int → Prop) : Prop := rI M k o fun x0 => rI M k (o + 1) fun x1 => rI M k (o + 2) fun x2 => rI M k (o + 3) fun x3 => rI M k (o + 4) fun x4 => rI M k (o + 5) fun x5 => rI M k (o + 6) fun x6 => rI M k (o + 7) fun x7 => rI M k (o + 8) fun x8 => rI M k (o + 9) fun x9 => rI M k (o + 10) fun XU => G x0 x1 x2 x3 x4 x5 x6 x7 x8 x9 XU
abbrev kf : Obj := .cells #[(.slice none 0 0), (.slice none 0 0), (iV 0), (.slice none 0 0), (.slice none 0 0), (.int .u64 0), (.slice none 0 0), (.slice none 0 0), (.slice none 0 0), (.int .u64 0), (.slice none 0 0), (iV 0), (iV 0), (.slice none 0 0)] 81 (0, 0)
abbrev cj : Obj := .cells #[(iV 0), (iV 0), (iV 0), (iV 0), (.slice none 0 0), (.slice none 0 0), (iV 0), (.slice none 0 0), (.slice none 0 0), (.int .u64 0), (.slice none 0 0), (.slice none 0 0), (.slice none 0 0), (.int .u64 0), (.slice none 0 0), (iV 0), (iV 0), (.slice none 0 0), (.slice none 0 0), (.slice none 0 0), (.slice none 0 0), (.slice none 0 0), (.slice none 0 0), (.bool false), (.bool false), (.slice none 0 0), (iV 0)] 88 (0, 0)
abbrev TO (M : Mem) (k o : Nat) (G : Option Addr → Nat → Nat → Option Addr → Nat → Nat → Bool → Bool → Option Addr → Nat → Nat → Prop) : Prop := rS M k o fun x0 x1 x2 => rS M k (o + 1) fun x3 x4 x5 => rB M k (o + 2) fun x6 => rB M k (o + 3) fun x7 => rS M k (o + 4) fun x8 x9 XU => G x0 x1 x2 x3 x4 x5 x6 x7 x8 x9 XU
abbrev Mw : Obj := .cells #[(.slice none 0 0)] 36 (0, 0)
end Go.AF
