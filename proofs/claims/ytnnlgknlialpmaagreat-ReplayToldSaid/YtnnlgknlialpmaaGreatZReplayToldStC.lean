/- A part of proofs about one program. -/
import Derived.Test.YtnnlgknlialpmaaGreatZReplayToldBig
set_option linter.unusedVariables false
namespace Go.AF
class St (R : Mem) (L : List HP) (M : Mem) (G : Prop) (G' : outParam Prop) : Prop where
 to : Hp R L M → G' → G
section
variable {R : Mem} {L L' : List HP} {M : Mem} {b o : Nat}
instance {k : IntKind} {n : Int} {G : Int → Prop} [ke b o L (.int k n)] : St R L M (aE (M.ld ⟨b, o, none⟩) k G) (G n) := ⟨fun h g => ae h g⟩
instance {n : Bool} {G : Bool → Prop} [ke b o L (.bool n)] : St R L M (cY (M.ld ⟨b, o, none⟩) G) (G n) := ⟨fun h g => DS h g⟩
instance {n : ByteArray} {G : ByteArray → Prop} [ke b o L (.string n)] : St R L M (gh (M.ld ⟨b, o, none⟩) G) (G n) := ⟨fun h g => Qm h g⟩
instance {n : Option Addr} {G : Option Addr → Prop} [ke b o L (.pointer n)] : St R L M (cz (M.ld ⟨b, o, none⟩) G) (G n) := ⟨fun h g => om h g⟩
instance {A : Option Addr} {n c : Nat} {G : Option Addr → Nat → Nat → Prop} [ke b o L (.slice A n c)] : St R L M (ay (M.ld ⟨b, o, none⟩) G) (G A n c) := ⟨fun h g => av h g⟩
instance {v : Value} {G : Value → Prop} [ke b o L v] : St R L M (fL (M.ld ⟨b, o, none⟩) G) (G v) := ⟨fun h g => GZ h g⟩
instance {k : IntKind} {n : Int} {G : Int → Prop} : St R L M (aE (some (.int k n)) k G) (G n) := ⟨fun _ g => bU g⟩
instance {n : Bool} {G : Bool → Prop} : St R L M (cY (some (.bool n)) G) (G n) := ⟨fun _ g => eC g⟩
instance {n : ByteArray} {G : ByteArray → Prop} : St R L M (gh (some (.string n)) G) (G n) := ⟨fun _ g => Qn g⟩
instance {n : Option Addr} {G : Option Addr → Prop} : St R L M (cz (some (.pointer n)) G) (G n) := ⟨fun _ g => gK g⟩
instance {A : Option Addr} {n c : Nat} {G : Option Addr → Nat → Nat → Prop} : St R L M (ay (some (.slice A n c)) G) (G A n c) := ⟨fun _ g => aY g⟩
instance {v : Value} {G : Value → Prop} : St R L M (fL (some v) G) (G v) := ⟨fun _ g => G2 g⟩
instance {G : Nat → Nat → Prop} : St R L M (az (some ⟨b, o, none⟩) G) (G b o) := ⟨fun _ g => aS g⟩
instance {X Y : Prop} : St R L M (aK true X Y) X := ⟨fun _ g => af g⟩
instance {X Y : Prop} : St R L M (aK false X Y) Y := ⟨fun _ g => ai g⟩
instance {G : Prop} : St R L M (True ∧ G) G := ⟨fun _ g => ⟨trivial, g⟩⟩
instance {v : Value} {G : Prop} [ke b o L v] : St R L M (M.ld ⟨b, o, none⟩ = some v ∧ G) G := ⟨fun h g => ⟨cH h, g⟩⟩
end
theorem bG {L T : List HP} (s : Sub L T := by repeat (first | exact .refl | refine .cons (by repeat (first | exact .here | apply cv.there)) ?_ | apply Sub.drop)) : Sub L T := s
abbrev rI (M : Mem) (k o : Nat) (G : Int → Prop) : Prop := aE (M.ld ⟨k, o, none⟩) .i64 G
abbrev rS (M : Mem) (k o : Nat) (G : Option Addr → Nat → Nat → Prop) : Prop := ay (M.ld ⟨k, o, none⟩) G
abbrev sT (M : Mem) (k o : Nat) (v : Value) (G : Mem → Prop) : Prop := aF M ⟨k, o, none⟩ v G
abbrev iV (n : Int) : Value := .int .i64 n
theorem aq {X Y : Prop} (y : Y) (x : X := by first | exact rfl | ((repeat (refine gL (cH h) ?_)); exact pW) | omega) : X ∧ Y := ⟨x, y⟩
abbrev rU (M : Mem) (k o : Nat) (G : Int → Prop) : Prop := aE (M.ld ⟨k, o, none⟩) .u64 G
abbrev rB (M : Mem) (k o : Nat) (G : Bool → Prop) : Prop := cY (M.ld ⟨k, o, none⟩) G
abbrev rP (M : Mem) (k o : Nat) (G : Option Addr → Prop) : Prop := cz (M.ld ⟨k, o, none⟩) G
abbrev eI (M : Mem) (k o : Nat) (n : Int) : Prop := M.ld ⟨k, o, none⟩ = some (iV n)
abbrev eS (M : Mem) (k o : Nat) (A : Option Addr) (n c : Nat) : Prop := M.ld ⟨k, o, none⟩ = some (.slice A n c)
abbrev rW (M : Mem) (k : Nat) (G : List Value → Prop) : Prop := JC (M.dP ⟨k, 0, none⟩ 0 14) G
abbrev IT := Nat → List Value → Mem → Prop
abbrev cl (l : List Value) (T : Nat) : Obj := .cells l.toArray T (0, 0)
abbrev xW (v : Value) (G : Value → Value → Value → Value → Value → Value → Value → Value → Value → Value → Value → Value → Value → Value → Prop) : Prop := ∃ v0 v1 v2 v3 v4 v5 v6 v7 v8 v9 v10 v11 F2 BS : Value, v = .agg #[v0, v1, v2, v3, v4, v5, v6, v7, v8, v9, v10, v11, F2, BS] ∧ G v0 v1 v2 v3 v4 v5 v6 v7 v8 v9 v10 v11 F2 BS
abbrev eW (M : Mem) (k : Nat) (a0 : Option Addr) (a1 a2 : Nat) (a3 : Option Addr) (a4 a5 : Nat) (a6 : Int) (a7 : Option Addr) (a8 a9 : Nat) (Tv : Option Addr) (Tw Tx : Nat) (Ty : Int) (Tz : Option Addr) (TA TB : Nat) (TC : Option Addr) (TD TE : Nat) (TF : Option Addr) (TG TH : Nat) (TI : Int) (TJ : Option Addr) (TK TL : Nat) (TM : Int) (TN : Int) (TO : Option Addr) (TP TQ : Nat) : Prop := M.dP ⟨k, 0, none⟩ 0 14 = some [.slice a0 a1 a2, .slice a3 a4 a5, .int .i64 a6, .slice a7 a8 a9, .slice Tv Tw Tx, .int .u64 Ty, .slice Tz TA TB, .slice TC TD TE, .slice TF TG TH, .int .u64 TI, .slice TJ TK TL, .int .i64 TM, .int .i64 TN, .slice TO TP TQ]
abbrev tW2 (M : Mem) (k : Nat) (a0 : Option Addr) (a1 a2 : Nat) (a3 : Option Addr) (a4 a5 : Nat) (a6 : Int) (a7 : Option Addr) (a8 a9 : Nat) (Tv : Option Addr) (Tw Tx : Nat) (Ty : Int) (Tz : Option Addr) (TA TB : Nat) (TC : Option Addr) (TD TE : Nat) (TF : Option Addr) (TG TH : Nat) (TI : Int) (TJ : Option Addr) (TK TL : Nat) (TM : Int) (TN : Int) (TO : Option Addr) (TP TQ : Nat) (G : Mem → Prop) : Prop := Ms M k 0 [.slice a0 a1 a2, .slice a3 a4 a5, .int .i64 a6, .slice a7 a8 a9, .slice Tv Tw Tx, .int .u64 Ty, .slice Tz TA TB, .slice TC TD TE, .slice TF TG TH, .int .u64 TI, .slice TJ TK TL, .int .i64 TM, .int .i64 TN, .slice TO TP TQ] 14 G
abbrev lY (M : Mem) (k o : Nat) (G : Int → Int → Int → Prop) : Prop := rI M k o fun x0 => rI M k (o + 1) fun x1 => rI M k (o + 2) fun x2 => G x0 x1 x2
abbrev ij : Obj := .cells #[(iV 0), (iV 0), (iV 0)] 280 (0, 0)
abbrev G6 (M : Mem) (k : Nat) (v0 v1 v2 : Value) (G : Mem → Prop) : Prop := sT M k 0 v0 fun M => sT M k (0 + 1) v1 fun M => sT M k (0 + 2) v2 fun M => G M
abbrev kj : Obj := .cells #[(iV 0), (.bool false), (iV 0), (iV 0), (iV 0), (.bool false)] 381 (0, 0)
abbrev TR (M : Mem) (k : Nat) (v0 v1 : Value) (G : Mem → Prop) : Prop := sT M k 0 v0 fun M => sT M k (0 + 1) v1 fun M => G M
abbrev tY (M : Mem) (k o : Nat) (G : Int → Bool → Int → Int → Int → Bool → Prop) : Prop := rI M k o fun x0 => rB M k (o + 1) fun x1 => rI M k (o + 2) fun x2 => rI M k (o + 3) fun x3 => rI M k (o + 4) fun x4 => rB M k (o + 5) fun x5 => G x0 x1 x2 x3 x4 x5
abbrev Sq (M : Mem) (k : Nat) (v0 v1 v2 v3 v4 v5 : Value) (G : Mem → Prop) : Prop := sT M k 0 v0 fun M => sT M k (0 + 1) v1 fun M => sT M k (0 + 2) v2 fun M => sT M k (0 + 3) v3 fun M => sT M k (0 + 4) v4 fun M => sT M k (0 + 5) v5 fun M => G M
abbrev mY : Obj := .cells #[(iV 0), (iV 0), (iV 0)] 165 (0, 0)
abbrev gM (M : Mem) (k o : Nat) (G : Int → Int → Int → Int → Prop) : Prop := rI M k o fun x0 => rI M k (o + 1) fun x1 => rI M k (o + 2) fun x2 => rI M k (o + 3) fun x3 => G x0 x1 x2 x3
abbrev rQ : Obj := .cells #[(iV 0), (iV 0), (iV 0), (iV 0)] 27 (0, 0)
abbrev MT (M : Mem) (k : Nat) (v0 v1 v2 v3 : Value) (G : Mem → Prop) : Prop := sT M k 0 v0 fun M => sT M k (0 + 1) v1 fun M => sT M k (0 + 2) v2 fun M => sT M k (0 + 3) v3 fun M => G M
abbrev rII (M : Mem) (k o : Nat) (G : Int → Int → Prop) : Prop := rI M k o fun x0 => rI M k (o + 1) fun x1 => G x0 x1
abbrev uL (M : Mem) (k o : Nat) (G : Option Addr → Nat → Nat → Option Addr → Nat → Nat → Int → Option Addr → Nat → Nat → Prop) : Prop := rS M k o fun x0 x1 x2 => rS M k (o + 1) fun x3 x4 x5 => rI M k (o + 2) fun x6 => rS M k (o + 3) fun x7 x8 x9 => G x0 x1 x2 x3 x4 x5 x6 x7 x8 x9
abbrev oH : Obj := .cells #[(iV 0), (iV 0), (iV 0), (iV 0), (.int .u64 0)] 97 (0, 0)
abbrev G7 : Obj := .cells #[(iV 0)] 3 (0, 0)
abbrev TS (M : Mem) (k : Nat) (v0 v1 v2 v3 v4 : Value) (G : Mem → Prop) : Prop := sT M k 0 v0 fun M => sT M k (0 + 1) v1 fun M => sT M k (0 + 2) v2 fun M => sT M k (0 + 3) v3 fun M => sT M k (0 + 4) v4 fun M => G M
abbrev Cv (M : Mem) (k o : Nat) (G : Int → Int → Int → Int → Int → Prop) : Prop := rI M k o fun x0 => rI M k (o + 1) fun x1 => rI M k (o + 2) fun x2 => rI M k (o + 3) fun x3 => rU M k (o + 4) fun x4 => G x0 x1 x2 x3 x4
abbrev DT : Obj := .cells #[(iV 0), (.int .u64 0)] 95 (0, 0)
abbrev Sr (M : Mem) (k o : Nat) (G : Int → Int → Prop) : Prop := rI M k o fun x0 => rU M k (o + 1) fun x1 => G x0 x1
abbrev xN : Obj := .cells #[(iV 0), (iV 0), (iV 0), (.slice none 0 0)] 43 (0, 0)
abbrev DU (M : Mem) (k o : Nat) (G : Int → Int → Int → Option Addr → Nat → Nat → Prop) : Prop := rI M k o fun x0 => rI M k (o + 1) fun x1 => rI M k (o + 2) fun x2 => rS M k (o + 3) fun x3 x4 x5 => G x0 x1 x2 x3 x4 x5
abbrev bD : Obj := .cells #[(iV 0), (iV 0), (iV 0), (.slice none 0 0), (.slice none 0 0), (iV 0), (iV 0), (iV 0), (iV 0), (iV 0), (.int .u64 0)] 114 (0, 0)
abbrev nk (M : Mem) (k : Nat) (v0 v1 v2 v3 v4 v5 v6 v7 v8 v9 v10 : Value) (G : Mem → Prop) : Prop := sT M k 0 v0 fun M => sT M k (0 + 1) v1 fun M => sT M k (0 + 2) v2 fun M => sT M k (0 + 3) v3 fun M => sT M k (0 + 4) v4 fun M => sT M k (0 + 5) v5 fun M => sT M k (0 + 6) v6 fun M => sT M k (0 + 7) v7 fun M => sT M k (0 + 8) v8 fun M => sT M k (0 + 9) v9 fun M => sT M k (0 + 10) v10 fun M => G M
abbrev aN (M : Mem) (k o : Nat) (G : Int → Int → Int → Option Addr → Nat → Nat → Option Addr → Nat → Nat → Int → Int → Int → Int → Int → Int → Prop) : Prop := rI M k o fun x0 => rI M k (o + 1) fun x1 => rI M k (o + 2) fun x2 => rS M k (o + 3) fun x3 x4 x5 => rS M k (o + 4) fun x6 x7 x8 => rI M k (o + 5) fun x9 => rI M k (o + 6) fun x10 => rI M k (o + 7) fun x11 => rI M k (o + 8) fun x12 => rI M k (o + 9) fun x13 => rU M k (o + 10) fun x14 => G x0 x1 x2 x3 x4 x5 x6 x7 x8 x9 x10 x11 x12 x13 x14
abbrev J2 : Obj := .cells #[(.slice none 0 0)] 149 (0, 0)
abbrev yI (M : Mem) (k o : Nat) (G : Int → Int → Int → Option Addr → Nat → Nat → Option Addr → Nat → Nat → Prop) : Prop := rI M k o fun x0 => rI M k (o + 1) fun x1 => rI M k (o + 2) fun x2 => rS M k (o + 3) fun x3 x4 x5 => rS M k (o + 4) fun x6 x7 x8 => G x0 x1 x2 x3 x4 x5 x6 x7 x8
abbrev EY : Obj := .cells #[(.slice none 0 0), (.slice none 0 0), (iV 0), (.slice none 0 0)] 39 (0, 0)
abbrev EZ : Obj := .cells #[(iV 0), (iV 0), (iV 0), (iV 0)] 29 (0, 0)
end Go.AF
