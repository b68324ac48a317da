/- A part of proofs about one program. -/
import Derived.Test.YtfjgcljdnhkmaaaZWorldSleepsBig
set_option linter.unusedVariables false
namespace Go.AF
class St (R : Mem) (L : List HP) (M : Mem) (G : Prop) (G' : outParam Prop) : Prop where
 to : Hp R L M → G' → G
section
variable {R : Mem} {L L' : List HP} {M : Mem} {b o : Nat}
instance {k : IntKind} {n : Int} {G : Int → Prop} [iU b o L (.int k n)] : St R L M (bG (M.ld ⟨b, o, none⟩) k G) (G n) := ⟨fun h g => aR h g⟩
instance {n : Bool} {G : Bool → Prop} [iU b o L (.bool n)] : St R L M (dz (M.ld ⟨b, o, none⟩) G) (G n) := ⟨fun h g => vv h g⟩
instance {n : ByteArray} {G : ByteArray → Prop} [iU b o L (.string n)] : St R L M (fN (M.ld ⟨b, o, none⟩) G) (G n) := ⟨fun h g => G6 h g⟩
instance {n : Option Addr} {G : Option Addr → Prop} [iU b o L (.pointer n)] : St R L M (dU (M.ld ⟨b, o, none⟩) G) (G n) := ⟨fun h g => G7 h g⟩
instance {A : Option Addr} {n c : Nat} {G : Option Addr → Nat → Nat → Prop} [iU b o L (.slice A n c)] : St R L M (aE (M.ld ⟨b, o, none⟩) G) (G A n c) := ⟨fun h g => bQ h g⟩
instance {v : Value} {G : Value → Prop} [iU b o L v] : St R L M (fL (M.ld ⟨b, o, none⟩) G) (G v) := ⟨fun h g => G8 h g⟩
instance {k : IntKind} {n : Int} {G : Int → Prop} : St R L M (bG (some (.int k n)) k G) (G n) := ⟨fun _ g => gN g⟩
instance {n : Bool} {G : Bool → Prop} : St R L M (dz (some (.bool n)) G) (G n) := ⟨fun _ g => j4 g⟩
instance {n : ByteArray} {G : ByteArray → Prop} : St R L M (fN (some (.string n)) G) (G n) := ⟨fun _ g => G9 g⟩
instance {n : Option Addr} {G : Option Addr → Prop} : St R L M (dU (some (.pointer n)) G) (G n) := ⟨fun _ g => sW g⟩
instance {A : Option Addr} {n c : Nat} {G : Option Addr → Nat → Nat → Prop} : St R L M (aE (some (.slice A n c)) G) (G A n c) := ⟨fun _ g => bu g⟩
instance {v : Value} {G : Value → Prop} : St R L M (fL (some v) G) (G v) := ⟨fun _ g => Bc g⟩
instance {G : Nat → Nat → Prop} : St R L M (aB (some ⟨b, o, none⟩) G) (G b o) := ⟨fun _ g => bh g⟩
instance {X Y : Prop} : St R L M (aX true X Y) X := ⟨fun _ g => af g⟩
instance {X Y : Prop} : St R L M (aX false X Y) Y := ⟨fun _ g => ai g⟩
instance {G : Prop} : St R L M (True ∧ G) G := ⟨fun _ g => ⟨trivial, g⟩⟩
instance {v : Value} {G : Prop} [iU b o L v] : St R L M (M.ld ⟨b, o, none⟩ = some v ∧ G) G := ⟨fun h g => ⟨eO h, g⟩⟩
end
theorem eX {L T : List HP} (s : Sub L T := by repeat (first | exact .refl | refine .cons (by repeat (first | exact .here | apply cu.there)) ?_ | apply Sub.drop)) : Sub L T := s
abbrev rI (M : Mem) (k o : Nat) (G : Int → Prop) : Prop := bG (M.ld ⟨k, o, none⟩) .i64 G
abbrev rS (M : Mem) (k o : Nat) (G : Option Addr → Nat → Nat → Prop) : Prop := aE (M.ld ⟨k, o, none⟩) G
abbrev sT (M : Mem) (k o : Nat) (v : Value) (G : Mem → Prop) : Prop := bW M ⟨k, o, none⟩ v G
abbrev iV (n : Int) : Value := .int .i64 n
theorem aq {X Y : Prop} (y : Y) (x : X := by first | exact rfl | ((repeat (refine iu (eO h) ?_)); exact qc) | omega) : X ∧ Y := ⟨x, y⟩
abbrev rU (M : Mem) (k o : Nat) (G : Int → Prop) : Prop := bG (M.ld ⟨k, o, none⟩) .u64 G
abbrev rB (M : Mem) (k o : Nat) (G : Bool → Prop) : Prop := dz (M.ld ⟨k, o, none⟩) G
abbrev rP (M : Mem) (k o : Nat) (G : Option Addr → Prop) : Prop := dU (M.ld ⟨k, o, none⟩) G
abbrev eI (M : Mem) (k o : Nat) (n : Int) : Prop := M.ld ⟨k, o, none⟩ = some (iV n)
abbrev eS (M : Mem) (k o : Nat) (A : Option Addr) (n c : Nat) : Prop := M.ld ⟨k, o, none⟩ = some (.slice A n c)
abbrev rW (M : Mem) (k : Nat) (G : List Value → Prop) : Prop := IZ (M.gr ⟨k, 0, none⟩ 0 14) G
abbrev IT := Nat → List Value → Mem → Prop
abbrev cl (l : List Value) (T : Nat) : Obj := .cells l.toArray T (0, 0)
abbrev xW (v : Value) (G : Value → Value → Value → Value → Value → Value → Value → Value → Value → Value → Value → Value → Value → Value → Prop) : Prop := ∃ v0 v1 v2 v3 v4 v5 v6 v7 v8 v9 v10 v11 D3 Cq : Value, v = .agg #[v0, v1, v2, v3, v4, v5, v6, v7, v8, v9, v10, v11, D3, Cq] ∧ G v0 v1 v2 v3 v4 v5 v6 v7 v8 v9 v10 v11 D3 Cq
abbrev eW (M : Mem) (k : Nat) (a0 : Option Addr) (a1 a2 : Nat) (a3 : Option Addr) (a4 a5 : Nat) (a6 : Int) (a7 : Option Addr) (a8 a9 : Nat) (JP : Option Addr) (JQ JR : Nat) (JS : Int) (JT : Option Addr) (JU JV : Nat) (JW : Option Addr) (JX JY : Nat) (JZ : Option Addr) (J0 J1 : Nat) (J2 : Int) (J3 : Option Addr) (J4 J5 : Nat) (J6 : Int) (J7 : Int) (Ka : Option Addr) (Kb Kc : Nat) : Prop := M.gr ⟨k, 0, none⟩ 0 14 = some [.slice a0 a1 a2, .slice a3 a4 a5, .int .i64 a6, .slice a7 a8 a9, .slice JP JQ JR, .int .u64 JS, .slice JT JU JV, .slice JW JX JY, .slice JZ J0 J1, .int .u64 J2, .slice J3 J4 J5, .int .i64 J6, .int .i64 J7, .slice Ka Kb Kc]
abbrev Qp (M : Mem) (k : Nat) (a0 : Option Addr) (a1 a2 : Nat) (a3 : Option Addr) (a4 a5 : Nat) (a6 : Int) (a7 : Option Addr) (a8 a9 : Nat) (JP : Option Addr) (JQ JR : Nat) (JS : Int) (JT : Option Addr) (JU JV : Nat) (JW : Option Addr) (JX JY : Nat) (JZ : Option Addr) (J0 J1 : Nat) (J2 : Int) (J3 : Option Addr) (J4 J5 : Nat) (J6 : Int) (J7 : Int) (Ka : Option Addr) (Kb Kc : Nat) (G : Mem → Prop) : Prop := MD M k 0 [.slice a0 a1 a2, .slice a3 a4 a5, .int .i64 a6, .slice a7 a8 a9, .slice JP JQ JR, .int .u64 JS, .slice JT JU JV, .slice JW JX JY, .slice JZ J0 J1, .int .u64 J2, .slice J3 J4 J5, .int .i64 J6, .int .i64 J7, .slice Ka Kb Kc] 14 G
abbrev j8 (M : Mem) (k o : Nat) (G : Int → Int → Int → Prop) : Prop := rI M k o fun x0 => rI M k (o + 1) fun x1 => rI M k (o + 2) fun x2 => G x0 x1 x2
abbrev gn : Obj := .cells #[(iV 0), (iV 0), (iV 0)] 120 (0, 0)
abbrev Bh (M : Mem) (k : Nat) (v0 v1 v2 : Value) (G : Mem → Prop) : Prop := sT M k 0 v0 fun M => sT M k (0 + 1) v1 fun M => sT M k (0 + 2) v2 fun M => G M
abbrev iY : Obj := .cells #[(iV 0), (.bool false), (iV 0), (iV 0), (iV 0), (.bool false)] 126 (0, 0)
abbrev Kd (M : Mem) (k : Nat) (v0 v1 : Value) (G : Mem → Prop) : Prop := sT M k 0 v0 fun M => sT M k (0 + 1) v1 fun M => G M
abbrev qd (M : Mem) (k o : Nat) (G : Int → Bool → Int → Int → Int → Bool → Prop) : Prop := rI M k o fun x0 => rB M k (o + 1) fun x1 => rI M k (o + 2) fun x2 => rI M k (o + 3) fun x3 => rI M k (o + 4) fun x4 => rB M k (o + 5) fun x5 => G x0 x1 x2 x3 x4 x5
abbrev I8 (M : Mem) (k : Nat) (v0 v1 v2 v3 v4 v5 : Value) (G : Mem → Prop) : Prop := sT M k 0 v0 fun M => sT M k (0 + 1) v1 fun M => sT M k (0 + 2) v2 fun M => sT M k (0 + 3) v3 fun M => sT M k (0 + 4) v4 fun M => sT M k (0 + 5) v5 fun M => G M
abbrev nw : Obj := .cells #[(iV 0), (iV 0), (iV 0)] 34 (0, 0)
abbrev j9 (M : Mem) (k o : Nat) (G : Int → Int → Int → Int → Prop) : Prop := rI M k o fun x0 => rI M k (o + 1) fun x1 => rI M k (o + 2) fun x2 => rI M k (o + 3) fun x3 => G x0 x1 x2 x3
abbrev oG : Obj := .cells #[(iV 0), (iV 0), (iV 0), (iV 0)] 31 (0, 0)
abbrev Ke (M : Mem) (k : Nat) (v0 v1 v2 v3 : Value) (G : Mem → Prop) : Prop := sT M k 0 v0 fun M => sT M k (0 + 1) v1 fun M => sT M k (0 + 2) v2 fun M => sT M k (0 + 3) v3 fun M => G M
abbrev N0 (M : Mem) (k o : Nat) (G : Int → Int → Prop) : Prop := rI M k o fun x0 => rI M k (o + 1) fun x1 => G x0 x1
abbrev Hg (M : Mem) (k o : Nat) (G : Option Addr → Nat → Nat → Option Addr → Nat → Nat → Int → Option Addr → Nat → Nat → Prop) : Prop := rS M k o fun x0 x1 x2 => rS M k (o + 1) fun x3 x4 x5 => rI M k (o + 2) fun x6 => rS M k (o + 3) fun x7 x8 x9 => G x0 x1 x2 x3 x4 x5 x6 x7 x8 x9
abbrev yy : Obj := .cells #[(.bool false), (.slice none 0 0)] 39 (0, 0)
end Go.AF
