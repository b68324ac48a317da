/- A part of proofs about one program. -/
import Derived.Test.YtfjgcljdnhkmaaaGreatZWorldDryBig
set_option linter.unusedVariables false
namespace Go.AF
class St (R : Mem) (L : List HP) (M : Mem) (G : Prop) (G' : outParam Prop) : Prop where
 to : Hp R L M → G' → G
section
variable {R : Mem} {L L' : List HP} {M : Mem} {b o : Nat}
instance {k : IntKind} {n : Int} {G : Int → Prop} [pq b o L (.int k n)] : St R L M (bG (M.ld ⟨b, o, none⟩) k G) (G n) := ⟨fun h g => az h g⟩
instance {n : Bool} {G : Bool → Prop} [pq b o L (.bool n)] : St R L M (dF (M.ld ⟨b, o, none⟩) G) (G n) := ⟨fun h g => m6 h g⟩
instance {n : ByteArray} {G : ByteArray → Prop} [pq b o L (.string n)] : St R L M (ff (M.ld ⟨b, o, none⟩) G) (G n) := ⟨fun h g => t_exS h g⟩
instance {n : Option Addr} {G : Option Addr → Prop} [pq b o L (.pointer n)] : St R L M (dP (M.ld ⟨b, o, none⟩) G) (G n) := ⟨fun h g => t_exP h g⟩
instance {A : Option Addr} {n c : Nat} {G : Option Addr → Nat → Nat → Prop} [pq b o L (.slice A n c)] : St R L M (aF (M.ld ⟨b, o, none⟩) G) (G A n c) := ⟨fun h g => ax h g⟩
instance {v : Value} {G : Value → Prop} [pq b o L v] : St R L M (fa (M.ld ⟨b, o, none⟩) G) (G v) := ⟨fun h g => t_exV h g⟩
instance {k : IntKind} {n : Int} {G : Int → Prop} : St R L M (bG (some (.int k n)) k G) (G n) := ⟨fun _ g => eY g⟩
instance {n : Bool} {G : Bool → Prop} : St R L M (dF (some (.bool n)) G) (G n) := ⟨fun _ g => lF g⟩
instance {n : ByteArray} {G : ByteArray → Prop} : St R L M (ff (some (.string n)) G) (G n) := ⟨fun _ g => u_exS g⟩
instance {n : Option Addr} {G : Option Addr → Prop} : St R L M (dP (some (.pointer n)) G) (G n) := ⟨fun _ g => Bq g⟩
instance {A : Option Addr} {n c : Nat} {G : Option Addr → Nat → Nat → Prop} : St R L M (aF (some (.slice A n c)) G) (G A n c) := ⟨fun _ g => aY g⟩
instance {v : Value} {G : Value → Prop} : St R L M (fa (some v) G) (G v) := ⟨fun _ g => SB g⟩
instance {G : Nat → Nat → Prop} : St R L M (aE (some ⟨b, o, none⟩) G) (G b o) := ⟨fun _ g => aV g⟩
instance {X Y : Prop} : St R L M (aM true X Y) X := ⟨fun _ g => aq g⟩
instance {X Y : Prop} : St R L M (aM false X Y) Y := ⟨fun _ g => au g⟩
instance {G : Prop} : St R L M (True ∧ G) G := ⟨fun _ g => ⟨trivial, g⟩⟩
instance {v : Value} {G : Prop} [pq b o L v] : St R L M (M.ld ⟨b, o, none⟩ = some v ∧ G) G := ⟨fun h g => ⟨cv h, g⟩⟩
end
theorem bz {L T : List HP} (s : Sub L T := by repeat (first | exact .refl | refine .cons (by repeat (first | exact .here | apply eA.there)) ?_ | apply Sub.drop)) : Sub L T := s
abbrev rI (M : Mem) (k o : Nat) (G : Int → Prop) : Prop := bG (M.ld ⟨k, o, none⟩) .i64 G
abbrev rS (M : Mem) (k o : Nat) (G : Option Addr → Nat → Nat → Prop) : Prop := aF (M.ld ⟨k, o, none⟩) G
abbrev sT (M : Mem) (k o : Nat) (v : Value) (G : Mem → Prop) : Prop := b7 M ⟨k, o, none⟩ v G
abbrev iV (n : Int) : Value := .int .i64 n
theorem ay {X Y : Prop} (y : Y) (x : X := by first | exact rfl | ((repeat (refine oq (cv h) ?_)); exact AG) | omega) : X ∧ Y := ⟨x, y⟩
abbrev rU (M : Mem) (k o : Nat) (G : Int → Prop) : Prop := bG (M.ld ⟨k, o, none⟩) .u64 G
abbrev rB (M : Mem) (k o : Nat) (G : Bool → Prop) : Prop := dF (M.ld ⟨k, o, none⟩) G
abbrev rP (M : Mem) (k o : Nat) (G : Option Addr → Prop) : Prop := dP (M.ld ⟨k, o, none⟩) G
abbrev eI (M : Mem) (k o : Nat) (n : Int) : Prop := M.ld ⟨k, o, none⟩ = some (iV n)
abbrev eS (M : Mem) (k o : Nat) (A : Option Addr) (n c : Nat) : Prop := M.ld ⟨k, o, none⟩ = some (.slice A n c)
abbrev rW (M : Mem) (k : Nat) (G : List Value → Prop) : Prop := zm (M.fX ⟨k, 0, none⟩ 0 14) G
abbrev IT := Nat → List Value → Mem → Prop
abbrev cl (l : List Value) (T : Nat) : Obj := .cells l.toArray T (0, 0)
abbrev xW (v : Value) (G : Value → Value → Value → Value → Value → Value → Value → Value → Value → Value → Value → Value → Value → Value → Prop) : Prop := ∃ v0 v1 v2 v3 v4 v5 v6 v7 v8 v9 v10 v11 Hs Kn : Value, v = .agg #[v0, v1, v2, v3, v4, v5, v6, v7, v8, v9, v10, v11, Hs, Kn] ∧ G v0 v1 v2 v3 v4 v5 v6 v7 v8 v9 v10 v11 Hs Kn
abbrev eW (M : Mem) (k : Nat) (a0 : Option Addr) (a1 a2 : Nat) (a3 : Option Addr) (a4 a5 : Nat) (a6 : Int) (a7 : Option Addr) (a8 a9 : Nat) (a10 : Option Addr) (a11 a12 : Nat) (a13 : Int) (a14 : Option Addr) (a15 a16 : Nat) (a17 : Option Addr) (a18 a19 : Nat) (a20 : Option Addr) (a21 a22 : Nat) (a23 : Int) (a24 : Option Addr) (a25 a26 : Nat) (a27 : Int) (a28 : Int) (a29 : Option Addr) (a30 a31 : Nat) : Prop := M.fX ⟨k, 0, none⟩ 0 14 = some [.slice a0 a1 a2, .slice a3 a4 a5, .int .i64 a6, .slice a7 a8 a9, .slice a10 a11 a12, .int .u64 a13, .slice a14 a15 a16, .slice a17 a18 a19, .slice a20 a21 a22, .int .u64 a23, .slice a24 a25 a26, .int .i64 a27, .int .i64 a28, .slice a29 a30 a31]
abbrev tW2 (M : Mem) (k : Nat) (a0 : Option Addr) (a1 a2 : Nat) (a3 : Option Addr) (a4 a5 : Nat) (a6 : Int) (a7 : Option Addr) (a8 a9 : Nat) (a10 : Option Addr) (a11 a12 : Nat) (a13 : Int) (a14 : Option Addr) (a15 a16 : Nat) (a17 : Option Addr) (a18 a19 : Nat) (a20 : Option Addr) (a21 a22 : Nat) (a23 : Int) (a24 : Option Addr) (a25 a26 : Nat) (a27 : Int) (a28 : Int) (a29 : Option Addr) (a30 a31 : Nat) (G : Mem → Prop) : Prop := dO M k 0 [.slice a0 a1 a2, .slice a3 a4 a5, .int .i64 a6, .slice a7 a8 a9, .slice a10 a11 a12, .int .u64 a13, .slice a14 a15 a16, .slice a17 a18 a19, .slice a20 a21 a22, .int .u64 a23, .slice a24 a25 a26, .int .i64 a27, .int .i64 a28, .slice a29 a30 a31] 14 G
abbrev Br : Obj := .cells #[(.slice none 0 0), (.slice none 0 0), (.slice none 0 0), (.bool false)] 201 (0, 0)
abbrev mB (M : Mem) (k : Nat) (v0 v1 v2 v3 : Value) (G : Mem → Prop) : Prop := sT M k 0 v0 fun M => sT M k (0 + 1) v1 fun M => sT M k (0 + 2) v2 fun M => sT M k (0 + 3) v3 fun M => G M
abbrev Oj (M : Mem) (k o : Nat) (G : Option Addr → Nat → Nat → Option Addr → Nat → Nat → Option Addr → Nat → Nat → Bool → Prop) : Prop := rS M k o fun x0 x1 x2 => rS M k (o + 1) fun x3 x4 x5 => rS M k (o + 2) fun x6 x7 x8 => rB M k (o + 3) fun x9 => G x0 x1 x2 x3 x4 x5 x6 x7 x8 x9
abbrev eT (M : Mem) (k o : Nat) (G : Int → Int → Int → Prop) : Prop := rI M k o fun x0 => rI M k (o + 1) fun x1 => rI M k (o + 2) fun x2 => G x0 x1 x2
abbrev mb : Obj := .cells #[(iV 0), (iV 0), (iV 0)] 298 (0, 0)
abbrev pA (M : Mem) (k : Nat) (v0 v1 v2 : Value) (G : Mem → Prop) : Prop := sT M k 0 v0 fun M => sT M k (0 + 1) v1 fun M => sT M k (0 + 2) v2 fun M => G M
abbrev pB : Obj := .cells #[(iV 0), (.bool false), (iV 0), (iV 0), (iV 0), (.bool false)] 335 (0, 0)
abbrev Ws (M : Mem) (k : Nat) (v0 v1 : Value) (G : Mem → Prop) : Prop := sT M k 0 v0 fun M => sT M k (0 + 1) v1 fun M => G M
abbrev AH (M : Mem) (k o : Nat) (G : Int → Bool → Int → Int → Int → Bool → Prop) : Prop := rI M k o fun x0 => rB M k (o + 1) fun x1 => rI M k (o + 2) fun x2 => rI M k (o + 3) fun x3 => rI M k (o + 4) fun x4 => rB M k (o + 5) fun x5 => G x0 x1 x2 x3 x4 x5
abbrev Rm (M : Mem) (k : Nat) (v0 v1 v2 v3 v4 v5 : Value) (G : Mem → Prop) : Prop := sT M k 0 v0 fun M => sT M k (0 + 1) v1 fun M => sT M k (0 + 2) v2 fun M => sT M k (0 + 3) v3 fun M => sT M k (0 + 4) v4 fun M => sT M k (0 + 5) v5 fun M => G M
abbrev tr : Obj := .cells #[(iV 0), (iV 0), (iV 0)] 172 (0, 0)
abbrev mc : Obj := .cells #[(iV 0), (iV 0), (iV 0)] 171 (0, 0)
abbrev c7 : Obj := .cells #[(iV 0), (.slice none 0 0), (.slice none 0 0), (.slice none 0 0), (.bool false)] 190 (0, 0)
abbrev cI (M : Mem) (k o : Nat) (G : Int → Option Addr → Nat → Nat → Option Addr → Nat → Nat → Option Addr → Nat → Nat → Bool → Prop) : Prop := rI M k o fun x0 => rS M k (o + 1) fun x1 x2 x3 => rS M k (o + 2) fun x4 x5 x6 => rS M k (o + 3) fun x7 x8 x9 => rB M k (o + 4) fun x10 => G x0 x1 x2 x3 x4 x5 x6 x7 x8 x9 x10
abbrev Bs (M : Mem) (k : Nat) (v0 v1 v2 v3 v4 : Value) (G : Mem → Prop) : Prop := sT M k 0 v0 fun M => sT M k (0 + 1) v1 fun M => sT M k (0 + 2) v2 fun M => sT M k (0 + 3) v3 fun M => sT M k (0 + 4) v4 fun M => G M
abbrev bP (M : Mem) (k o : Nat) (G : Int → Int → Int → Int → Prop) : Prop := rI M k o fun x0 => rI M k (o + 1) fun x1 => rI M k (o + 2) fun x2 => rI M k (o + 3) fun x3 => G x0 x1 x2 x3
abbrev yw : Obj := .cells #[(iV 0), (iV 0), (iV 0), (iV 0)] 34 (0, 0)
abbrev rII (M : Mem) (k o : Nat) (G : Int → Int → Prop) : Prop := rI M k o fun x0 => rI M k (o + 1) fun x1 => G x0 x1
abbrev Bt (M : Mem) (k o : Nat) (G : Option Addr → Nat → Nat → Option Addr → Nat → Nat → Int → Option Addr → Nat → Nat → Prop) : Prop := rS M k o fun x0 x1 x2 => rS M k (o + 1) fun x3 x4 x5 => rI M k (o + 2) fun x6 => rS M k (o + 3) fun x7 x8 x9 => G x0 x1 x2 x3 x4 x5 x6 x7 x8 x9
abbrev En : Obj := .cells #[(.slice none 0 0), (.slice none 0 0), (iV 0), (.slice none 0 0)] 41 (0, 0)
abbrev fU : Obj := .cells #[(iV 0), (iV 0), (iV 0), (iV 0)] 109 (0, 0)
abbrev yx : Obj := .cells #[(.slice none 0 0), (.slice none 0 0), (iV 0), (.slice none 0 0)] 73 (0, 0)
abbrev rSS (M : Mem) (k o : Nat) (G : Option Addr → Nat → Nat → Option Addr → Nat → Nat → Prop) : Prop := rS M k o fun x0 x1 x2 => rS M k (o + 1) fun x3 x4 x5 => G x0 x1 x2 x3 x4 x5
abbrev iC : Obj := .cells #[(iV 0), (iV 0), (iV 0)] 289 (0, 0)
abbrev aL : Obj := .cells #[(.slice none 0 0), (.slice none 0 0), (iV 0), (.slice none 0 0), (.slice none 0 0), (.int .u64 0), (.slice none 0 0), (.slice none 0 0), (.slice none 0 0), (.int .u64 0), (.slice none 0 0), (iV 0), (iV 0), (.slice none 0 0)] 81 (0, 0)
abbrev Fw : Obj := .cells #[(.slice none 0 0), (.int .u64 0)] 79 (0, 0)
abbrev tu : Obj := .cells #[(.int .u64 0), (.int .u64 0), (iV 0)] 241 (0, 0)
abbrev rSU (M : Mem) (k o : Nat) (G : Option Addr → Nat → Nat → Int → Prop) : Prop := rS M k o fun x0 x1 x2 => rU M k (o + 1) fun x3 => G x0 x1 x2 x3
abbrev PD (M : Mem) (k o : Nat) (G : Int → Int → Int → Prop) : Prop := rU M k o fun x0 => rU M k (o + 1) fun x1 => rI M k (o + 2) fun x2 => G x0 x1 x2
abbrev cM : Obj := .cells #[(iV 0), (iV 0), (iV 0), (iV 0), (iV 0), (iV 0), (iV 0), (iV 0), (iV 0), (iV 0), (iV 0)] 114 (0, 0)
abbrev fM : Obj := .cells #[(iV 0), (.slice none 0 0), (iV 0), (iV 0), (iV 0), (iV 0)] 111 (0, 0)
abbrev aU (M : Mem) (k o : Nat) (G : Int → Int → Int → Int → Int → Int → Int → Int → Int → Int → Int → Prop) : Prop := rI M k o fun x0 => rI M k (o + 1) fun x1 => rI M k (o + 2) fun x2 => rI M k (o + 3) fun x3 => rI M k (o + 4) fun x4 => rI M k (o + 5) fun x5 => rI M k (o + 6) fun x6 => rI M k (o + 7) fun x7 => rI M k (o + 8) fun x8 => rI M k (o + 9) fun x9 => rI M k (o + 10) fun x10 => G x0 x1 x2 x3 x4 x5 x6 x7 x8 x9 x10
abbrev ou (M : Mem) (k : Nat) (v0 v1 v2 v3 v4 v5 v6 v7 v8 v9 v10 : Value) (G : Mem → Prop) : Prop := sT M k 0 v0 fun M => sT M k (0 + 1) v1 fun M => sT M k (0 + 2) v2 fun M => sT M k (0 + 3) v3 fun M => sT M k (0 + 4) v4 fun M => sT M k (0 + 5) v5 fun M => sT M k (0 + 6) v6 fun M => sT M k (0 + 7) v7 fun M => sT M k (0 + 8) v8 fun M => sT M k (0 + 9) v9 fun M => sT M k (0 + 10) v10 fun M => G M
abbrev gy (M : Mem) (k o : Nat) (G : Int → Option Addr → Nat → Nat → Int → Int → Int → Int → Prop) : Prop := rI M k o fun x0 => rS M k (o + 1) fun x1 x2 x3 => rI M k (o + 2) fun x4 => rI M k (o + 3) fun x5 => rI M k (o + 4) fun x6 => rI M k (o + 5) fun x7 => G x0 x1 x2 x3 x4 x5 x6 x7
abbrev wV : Obj := .cells #[(.slice none 0 0)] 251 (0, 0)
abbrev ZK : Obj := .cells #[(iV 0)] 3 (0, 0)
abbrev wW : Obj := .cells #[(.bool false), (.slice none 0 0)] 120 (0, 0)
abbrev lu (M : Mem) (k o : Nat) (G : Option Addr → Nat → Nat → Option Addr → Nat → Nat → Int → Option Addr → Nat → Nat → Option Addr → Nat → Nat → Int → Option Addr → Nat → Nat → Option Addr → Nat → Nat → Option Addr → Nat → Nat → Int → Option Addr → Nat → Nat → Int → Int → Option Addr → Nat → Nat → Prop) : Prop := rS M k o fun x0 x1 x2 => rS M k (o + 1) fun x3 x4 x5 => rI M k (o + 2) fun x6 => rS M k (o + 3) fun x7 x8 x9 => rS M k (o + 4) fun x10 x11 x12 => rU M k (o + 5) fun x13 => rS M k (o + 6) fun x14 x15 x16 => rS M k (o + 7) fun x17 x18 x19 => rS M k (o + 8) fun x20 x21 x22 => rU M k (o + 9) fun x23 => rS M k (o + 10) fun x24 x25 x26 => rI M k (o + 11) fun x27 => rI M k (o + 12) fun x28 => rS M k (o + 13) fun x29 x30 x31 => G x0 x1 x2 x3 x4 x5 x6 x7 x8 x9 x10 x11 x12 x13 x14 x15 x16 x17 x18 x19 x20 x21 x22 x23 x24 x25 x26 x27 x28 x29 x30 x31
abbrev zc4_B : Obj := .cells #[(.bool false)] 4 (0, 0)
abbrev rBII (M : Mem) (k o : Nat) (G : Bool → Int → Int → Prop) : Prop := rB M k o fun x0 => rI M k (o + 1) fun x1 => rI M k (o + 2) fun x2 => G x0 x1 x2
end Go.AF
