/- A part of proofs about one program. -/
import Derived.Test.YtfjgcljdnhkmaaaGreatZWorldEndsBig
set_option linter.unusedVariables false
namespace Go.AF
class St (R : Mem) (L : List HP) (M : Mem) (G : Prop) (G' : outParam Prop) : Prop where
 to : Hp R L M → G' → G
section
variable {R : Mem} {L L' : List HP} {M : Mem} {b o : Nat}
instance {k : IntKind} {n : Int} {G : Int → Prop} [o5 b o L (.int k n)] : St R L M (bF (M.ld ⟨b, o, none⟩) k G) (G n) := ⟨fun h g => az h g⟩
instance {n : Bool} {G : Bool → Prop} [o5 b o L (.bool n)] : St R L M (dG (M.ld ⟨b, o, none⟩) G) (G n) := ⟨fun h g => me h g⟩
instance {n : ByteArray} {G : ByteArray → Prop} [o5 b o L (.string n)] : St R L M (fa (M.ld ⟨b, o, none⟩) G) (G n) := ⟨fun h g => t_exS h g⟩
instance {n : Option Addr} {G : Option Addr → Prop} [o5 b o L (.pointer n)] : St R L M (dP (M.ld ⟨b, o, none⟩) G) (G n) := ⟨fun h g => t_exP h g⟩
instance {A : Option Addr} {n c : Nat} {G : Option Addr → Nat → Nat → Prop} [o5 b o L (.slice A n c)] : St R L M (aF (M.ld ⟨b, o, none⟩) G) (G A n c) := ⟨fun h g => ax h g⟩
instance {v : Value} {G : Value → Prop} [o5 b o L v] : St R L M (eY (M.ld ⟨b, o, none⟩) G) (G v) := ⟨fun h g => t_exV h g⟩
instance {k : IntKind} {n : Int} {G : Int → Prop} : St R L M (bF (some (.int k n)) k G) (G n) := ⟨fun _ g => ff g⟩
instance {n : Bool} {G : Bool → Prop} : St R L M (dG (some (.bool n)) G) (G n) := ⟨fun _ g => mU g⟩
instance {n : ByteArray} {G : ByteArray → Prop} : St R L M (fa (some (.string n)) G) (G n) := ⟨fun _ g => u_exS g⟩
instance {n : Option Addr} {G : Option Addr → Prop} : St R L M (dP (some (.pointer n)) G) (G n) := ⟨fun _ g => Bl g⟩
instance {A : Option Addr} {n c : Nat} {G : Option Addr → Nat → Nat → Prop} : St R L M (aF (some (.slice A n c)) G) (G A n c) := ⟨fun _ g => aU g⟩
instance {v : Value} {G : Value → Prop} : St R L M (eY (some v) G) (G v) := ⟨fun _ g => RI g⟩
instance {G : Nat → Nat → Prop} : St R L M (aE (some ⟨b, o, none⟩) G) (G b o) := ⟨fun _ g => aT g⟩
instance {X Y : Prop} : St R L M (aM true X Y) X := ⟨fun _ g => aq g⟩
instance {X Y : Prop} : St R L M (aM false X Y) Y := ⟨fun _ g => au g⟩
instance {G : Prop} : St R L M (True ∧ G) G := ⟨fun _ g => ⟨trivial, g⟩⟩
instance {v : Value} {G : Prop} [o5 b o L v] : St R L M (M.ld ⟨b, o, none⟩ = some v ∧ G) G := ⟨fun h g => ⟨cw h, g⟩⟩
end
theorem bx {L T : List HP} (s : Sub L T := by repeat (first | exact .refl | refine .cons (by repeat (first | exact .here | apply eB.there)) ?_ | apply Sub.drop)) : Sub L T := s
abbrev rI (M : Mem) (k o : Nat) (G : Int → Prop) : Prop := bF (M.ld ⟨k, o, none⟩) .i64 G
abbrev rS (M : Mem) (k o : Nat) (G : Option Addr → Nat → Nat → Prop) : Prop := aF (M.ld ⟨k, o, none⟩) G
abbrev sT (M : Mem) (k o : Nat) (v : Value) (G : Mem → Prop) : Prop := b7 M ⟨k, o, none⟩ v G
abbrev iV (n : Int) : Value := .int .i64 n
theorem ay {X Y : Prop} (y : Y) (x : X := by first | exact rfl | ((repeat (refine nY (cw h) ?_)); exact Aw) | omega) : X ∧ Y := ⟨x, y⟩
abbrev rU (M : Mem) (k o : Nat) (G : Int → Prop) : Prop := bF (M.ld ⟨k, o, none⟩) .u64 G
abbrev rB (M : Mem) (k o : Nat) (G : Bool → Prop) : Prop := dG (M.ld ⟨k, o, none⟩) G
abbrev rP (M : Mem) (k o : Nat) (G : Option Addr → Prop) : Prop := dP (M.ld ⟨k, o, none⟩) G
abbrev eI (M : Mem) (k o : Nat) (n : Int) : Prop := M.ld ⟨k, o, none⟩ = some (iV n)
abbrev eS (M : Mem) (k o : Nat) (A : Option Addr) (n c : Nat) : Prop := M.ld ⟨k, o, none⟩ = some (.slice A n c)
abbrev rW (M : Mem) (k : Nat) (G : List Value → Prop) : Prop := zd (M.fT ⟨k, 0, none⟩ 0 14) G
abbrev IT := Nat → List Value → Mem → Prop
abbrev cl (l : List Value) (T : Nat) : Obj := .cells l.toArray T (0, 0)
abbrev xW (v : Value) (G : Value → Value → Value → Value → Value → Value → Value → Value → Value → Value → Value → Value → Value → Value → Prop) : Prop := ∃ v0 v1 v2 v3 v4 v5 v6 v7 v8 v9 v10 v11 GV JT : Value, v = .agg #[v0, v1, v2, v3, v4, v5, v6, v7, v8, v9, v10, v11, GV, JT] ∧ G v0 v1 v2 v3 v4 v5 v6 v7 v8 v9 v10 v11 GV JT
abbrev eW (M : Mem) (k : Nat) (a0 : Option Addr) (a1 a2 : Nat) (a3 : Option Addr) (a4 a5 : Nat) (a6 : Int) (a7 : Option Addr) (a8 a9 : Nat) (a10 : Option Addr) (a11 a12 : Nat) (a13 : Int) (a14 : Option Addr) (a15 a16 : Nat) (a17 : Option Addr) (a18 a19 : Nat) (a20 : Option Addr) (a21 a22 : Nat) (a23 : Int) (a24 : Option Addr) (a25 a26 : Nat) (a27 : Int) (a28 : Int) (a29 : Option Addr) (a30 a31 : Nat) : Prop := M.fT ⟨k, 0, none⟩ 0 14 = some [.slice a0 a1 a2, .slice a3 a4 a5, .int .i64 a6, .slice a7 a8 a9, .slice a10 a11 a12, .int .u64 a13, .slice a14 a15 a16, .slice a17 a18 a19, .slice a20 a21 a22, .int .u64 a23, .slice a24 a25 a26, .int .i64 a27, .int .i64 a28, .slice a29 a30 a31]
abbrev Z7 (M : Mem) (k : Nat) (a0 : Option Addr) (a1 a2 : Nat) (a3 : Option Addr) (a4 a5 : Nat) (a6 : Int) (a7 : Option Addr) (a8 a9 : Nat) (a10 : Option Addr) (a11 a12 : Nat) (a13 : Int) (a14 : Option Addr) (a15 a16 : Nat) (a17 : Option Addr) (a18 a19 : Nat) (a20 : Option Addr) (a21 a22 : Nat) (a23 : Int) (a24 : Option Addr) (a25 a26 : Nat) (a27 : Int) (a28 : Int) (a29 : Option Addr) (a30 a31 : Nat) (G : Mem → Prop) : Prop := dO M k 0 [.slice a0 a1 a2, .slice a3 a4 a5, .int .i64 a6, .slice a7 a8 a9, .slice a10 a11 a12, .int .u64 a13, .slice a14 a15 a16, .slice a17 a18 a19, .slice a20 a21 a22, .int .u64 a23, .slice a24 a25 a26, .int .i64 a27, .int .i64 a28, .slice a29 a30 a31] 14 G
abbrev Bm : Obj := .cells #[(.slice none 0 0), (.slice none 0 0), (.slice none 0 0), (.bool false)] 201 (0, 0)
abbrev mh (M : Mem) (k : Nat) (v0 v1 v2 v3 : Value) (G : Mem → Prop) : Prop := sT M k 0 v0 fun M => sT M k (0 + 1) v1 fun M => sT M k (0 + 2) v2 fun M => sT M k (0 + 3) v3 fun M => G M
abbrev NM (M : Mem) (k o : Nat) (G : Option Addr → Nat → Nat → Option Addr → Nat → Nat → Option Addr → Nat → Nat → Bool → Prop) : Prop := rS M k o fun x0 x1 x2 => rS M k (o + 1) fun x3 x4 x5 => rS M k (o + 2) fun x6 x7 x8 => rB M k (o + 3) fun x9 => G x0 x1 x2 x3 x4 x5 x6 x7 x8 x9
abbrev eR (M : Mem) (k o : Nat) (G : Int → Int → Int → Prop) : Prop := rI M k o fun x0 => rI M k (o + 1) fun x1 => rI M k (o + 2) fun x2 => G x0 x1 x2
abbrev lS : Obj := .cells #[(iV 0), (iV 0), (iV 0)] 298 (0, 0)
abbrev pb (M : Mem) (k : Nat) (v0 v1 v2 : Value) (G : Mem → Prop) : Prop := sT M k 0 v0 fun M => sT M k (0 + 1) v1 fun M => sT M k (0 + 2) v2 fun M => G M
abbrev pe : Obj := .cells #[(iV 0), (.bool false), (iV 0), (iV 0), (iV 0), (.bool false)] 335 (0, 0)
abbrev RN (M : Mem) (k : Nat) (v0 v1 : Value) (G : Mem → Prop) : Prop := sT M k 0 v0 fun M => sT M k (0 + 1) v1 fun M => G M
abbrev Ax (M : Mem) (k o : Nat) (G : Int → Bool → Int → Int → Int → Bool → Prop) : Prop := rI M k o fun x0 => rB M k (o + 1) fun x1 => rI M k (o + 2) fun x2 => rI M k (o + 3) fun x3 => rI M k (o + 4) fun x4 => rB M k (o + 5) fun x5 => G x0 x1 x2 x3 x4 x5
abbrev RO (M : Mem) (k : Nat) (v0 v1 v2 v3 v4 v5 : Value) (G : Mem → Prop) : Prop := sT M k 0 v0 fun M => sT M k (0 + 1) v1 fun M => sT M k (0 + 2) v2 fun M => sT M k (0 + 3) v3 fun M => sT M k (0 + 4) v4 fun M => sT M k (0 + 5) v5 fun M => G M
abbrev th : Obj := .cells #[(iV 0), (iV 0), (iV 0)] 172 (0, 0)
abbrev lT : Obj := .cells #[(iV 0), (iV 0), (iV 0)] 171 (0, 0)
abbrev cZ : Obj := .cells #[(iV 0), (.slice none 0 0), (.slice none 0 0), (.slice none 0 0), (.bool false)] 190 (0, 0)
abbrev cI (M : Mem) (k o : Nat) (G : Int → Option Addr → Nat → Nat → Option Addr → Nat → Nat → Option Addr → Nat → Nat → Bool → Prop) : Prop := rI M k o fun x0 => rS M k (o + 1) fun x1 x2 x3 => rS M k (o + 2) fun x4 x5 x6 => rS M k (o + 3) fun x7 x8 x9 => rB M k (o + 4) fun x10 => G x0 x1 x2 x3 x4 x5 x6 x7 x8 x9 x10
abbrev Bn (M : Mem) (k : Nat) (v0 v1 v2 v3 v4 : Value) (G : Mem → Prop) : Prop := sT M k 0 v0 fun M => sT M k (0 + 1) v1 fun M => sT M k (0 + 2) v2 fun M => sT M k (0 + 3) v3 fun M => sT M k (0 + 4) v4 fun M => G M
abbrev bO (M : Mem) (k o : Nat) (G : Int → Int → Int → Int → Prop) : Prop := rI M k o fun x0 => rI M k (o + 1) fun x1 => rI M k (o + 2) fun x2 => rI M k (o + 3) fun x3 => G x0 x1 x2 x3
abbrev yg : Obj := .cells #[(iV 0), (iV 0), (iV 0), (iV 0)] 34 (0, 0)
abbrev rII (M : Mem) (k o : Nat) (G : Int → Int → Prop) : Prop := rI M k o fun x0 => rI M k (o + 1) fun x1 => G x0 x1
abbrev Bo (M : Mem) (k o : Nat) (G : Option Addr → Nat → Nat → Option Addr → Nat → Nat → Int → Option Addr → Nat → Nat → Prop) : Prop := rS M k o fun x0 x1 x2 => rS M k (o + 1) fun x3 x4 x5 => rI M k (o + 2) fun x6 => rS M k (o + 3) fun x7 x8 x9 => G x0 x1 x2 x3 x4 x5 x6 x7 x8 x9
abbrev DY : Obj := .cells #[(.slice none 0 0), (.slice none 0 0), (iV 0), (.slice none 0 0)] 41 (0, 0)
abbrev fP : Obj := .cells #[(iV 0), (iV 0), (iV 0), (iV 0)] 109 (0, 0)
abbrev yh : Obj := .cells #[(.slice none 0 0), (.slice none 0 0), (iV 0), (.slice none 0 0)] 73 (0, 0)
abbrev rSS (M : Mem) (k o : Nat) (G : Option Addr → Nat → Nat → Option Addr → Nat → Nat → Prop) : Prop := rS M k o fun x0 x1 x2 => rS M k (o + 1) fun x3 x4 x5 => G x0 x1 x2 x3 x4 x5
abbrev ik : Obj := .cells #[(iV 0), (iV 0), (iV 0)] 289 (0, 0)
abbrev aK : Obj := .cells #[(.slice none 0 0), (.slice none 0 0), (iV 0), (.slice none 0 0), (.slice none 0 0), (.int .u64 0), (.slice none 0 0), (.slice none 0 0), (.slice none 0 0), (.int .u64 0), (.slice none 0 0), (iV 0), (iV 0), (.slice none 0 0)] 81 (0, 0)
abbrev E7 : Obj := .cells #[(.slice none 0 0), (.int .u64 0)] 79 (0, 0)
abbrev tj : Obj := .cells #[(.int .u64 0), (.int .u64 0), (iV 0)] 241 (0, 0)
abbrev rSU (M : Mem) (k o : Nat) (G : Option Addr → Nat → Nat → Int → Prop) : Prop := rS M k o fun x0 x1 x2 => rU M k (o + 1) fun x3 => G x0 x1 x2 x3
abbrev OZ (M : Mem) (k o : Nat) (G : Int → Int → Int → Prop) : Prop := rU M k o fun x0 => rU M k (o + 1) fun x1 => rI M k (o + 2) fun x2 => G x0 x1 x2
abbrev c7 : Obj := .cells #[(iV 0), (iV 0), (iV 0), (iV 0), (iV 0), (iV 0), (iV 0), (iV 0), (iV 0), (iV 0), (iV 0)] 114 (0, 0)
abbrev gu : Obj := .cells #[(iV 0), (.slice none 0 0), (iV 0), (iV 0), (iV 0), (iV 0)] 111 (0, 0)
abbrev aY (M : Mem) (k o : Nat) (G : Int → Int → Int → Int → Int → Int → Int → Int → Int → Int → Int → Prop) : Prop := rI M k o fun x0 => rI M k (o + 1) fun x1 => rI M k (o + 2) fun x2 => rI M k (o + 3) fun x3 => rI M k (o + 4) fun x4 => rI M k (o + 5) fun x5 => rI M k (o + 6) fun x6 => rI M k (o + 7) fun x7 => rI M k (o + 8) fun x8 => rI M k (o + 9) fun x9 => rI M k (o + 10) fun x10 => G x0 x1 x2 x3 x4 x5 x6 x7 x8 x9 x10
abbrev pg (M : Mem) (k : Nat) (v0 v1 v2 v3 v4 v5 v6 v7 v8 v9 v10 : Value) (G : Mem → Prop) : Prop := sT M k 0 v0 fun M => sT M k (0 + 1) v1 fun M => sT M k (0 + 2) v2 fun M => sT M k (0 + 3) v3 fun M => sT M k (0 + 4) v4 fun M => sT M k (0 + 5) v5 fun M => sT M k (0 + 6) v6 fun M => sT M k (0 + 7) v7 fun M => sT M k (0 + 8) v8 fun M => sT M k (0 + 9) v9 fun M => sT M k (0 + 10) v10 fun M => G M
abbrev gL (M : Mem) (k o : Nat) (G : Int → Option Addr → Nat → Nat → Int → Int → Int → Int → Prop) : Prop := rI M k o fun x0 => rS M k (o + 1) fun x1 x2 x3 => rI M k (o + 2) fun x4 => rI M k (o + 3) fun x5 => rI M k (o + 4) fun x6 => rI M k (o + 5) fun x7 => G x0 x1 x2 x3 x4 x5 x6 x7
abbrev wN : Obj := .cells #[(.slice none 0 0)] 251 (0, 0)
abbrev Y6 : Obj := .cells #[(iV 0)] 3 (0, 0)
abbrev qY : Obj := .cells #[(.bool false), (.slice none 0 0)] 120 (0, 0)
abbrev kZ (M : Mem) (k o : Nat) (G : Option Addr → Nat → Nat → Option Addr → Nat → Nat → Int → Option Addr → Nat → Nat → Option Addr → Nat → Nat → Int → Option Addr → Nat → Nat → Option Addr → Nat → Nat → Option Addr → Nat → Nat → Int → Option Addr → Nat → Nat → Int → Int → Option Addr → Nat → Nat → Prop) : Prop := rS M k o fun x0 x1 x2 => rS M k (o + 1) fun x3 x4 x5 => rI M k (o + 2) fun x6 => rS M k (o + 3) fun x7 x8 x9 => rS M k (o + 4) fun x10 x11 x12 => rU M k (o + 5) fun x13 => rS M k (o + 6) fun x14 x15 x16 => rS M k (o + 7) fun x17 x18 x19 => rS M k (o + 8) fun x20 x21 x22 => rU M k (o + 9) fun x23 => rS M k (o + 10) fun x24 x25 x26 => rI M k (o + 11) fun x27 => rI M k (o + 12) fun x28 => rS M k (o + 13) fun x29 x30 x31 => G x0 x1 x2 x3 x4 x5 x6 x7 x8 x9 x10 x11 x12 x13 x14 x15 x16 x17 x18 x19 x20 x21 x22 x23 x24 x25 x26 x27 x28 x29 x30 x31
abbrev rBII (M : Mem) (k o : Nat) (G : Bool → Int → Int → Prop) : Prop := rB M k o fun x0 => rI M k (o + 1) fun x1 => rI M k (o + 2) fun x2 => G x0 x1 x2
end Go.AF
