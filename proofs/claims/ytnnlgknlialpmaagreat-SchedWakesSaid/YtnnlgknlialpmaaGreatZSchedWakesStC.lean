/- A part of proofs about one program. -/
import Derived.Test.YtnnlgknlialpmaaGreatZSchedWakesBig
set_option linter.unusedVariables false
namespace Go.AF
class St (R : Mem) (L : List HP) (M : Mem) (G : Prop) (G' : outParam Prop) : Prop where
 to : Hp R L M → G' → G
section
variable {R : Mem} {L L' : List HP} {M : Mem} {b o : Nat}
instance {k : IntKind} {n : Int} {G : Int → Prop} [lT b o L (.int k n)] : St R L M (aG (M.ld ⟨b, o, none⟩) k G) (G n) := ⟨fun h g => aH h g⟩
instance {n : Bool} {G : Bool → Prop} [lT b o L (.bool n)] : St R L M (cV (M.ld ⟨b, o, none⟩) G) (G n) := ⟨fun h g => E1 h g⟩
instance {n : ByteArray} {G : ByteArray → Prop} [lT b o L (.string n)] : St R L M (fC (M.ld ⟨b, o, none⟩) G) (G n) := ⟨fun h g => SU h g⟩
instance {n : Option Addr} {G : Option Addr → Prop} [lT b o L (.pointer n)] : St R L M (b8 (M.ld ⟨b, o, none⟩) G) (G n) := ⟨fun h g => wA h g⟩
instance {A : Option Addr} {n c : Nat} {G : Option Addr → Nat → Nat → Prop} [lT b o L (.slice A n c)] : St R L M (az (M.ld ⟨b, o, none⟩) G) (G A n c) := ⟨fun h g => bj h g⟩
instance {v : Value} {G : Value → Prop} [lT b o L v] : St R L M (e7 (M.ld ⟨b, o, none⟩) G) (G v) := ⟨fun h g => Iz h g⟩
instance {k : IntKind} {n : Int} {G : Int → Prop} : St R L M (aG (some (.int k n)) k G) (G n) := ⟨fun _ g => cE g⟩
instance {n : Bool} {G : Bool → Prop} : St R L M (cV (some (.bool n)) G) (G n) := ⟨fun _ g => mC g⟩
instance {n : ByteArray} {G : ByteArray → Prop} : St R L M (fC (some (.string n)) G) (G n) := ⟨fun _ g => SW g⟩
instance {n : Option Addr} {G : Option Addr → Prop} : St R L M (b8 (some (.pointer n)) G) (G n) := ⟨fun _ g => eM g⟩
instance {A : Option Addr} {n c : Nat} {G : Option Addr → Nat → Nat → Prop} : St R L M (az (some (.slice A n c)) G) (G A n c) := ⟨fun _ g => aR g⟩
instance {v : Value} {G : Value → Prop} : St R L M (e7 (some v) G) (G v) := ⟨fun _ g => IC g⟩
instance {G : Nat → Nat → Prop} : St R L M (aD (some ⟨b, o, none⟩) G) (G b o) := ⟨fun _ g => bp g⟩
instance {X Y : Prop} : St R L M (aO true X Y) X := ⟨fun _ g => af g⟩
instance {X Y : Prop} : St R L M (aO false X Y) Y := ⟨fun _ g => ai g⟩
instance {G : Prop} : St R L M (True ∧ G) G := ⟨fun _ g => ⟨trivial, g⟩⟩
instance {v : Value} {G : Prop} [lT b o L v] : St R L M (M.ld ⟨b, o, none⟩ = some v ∧ G) G := ⟨fun h g => ⟨bk h, g⟩⟩
end
theorem bM {L T : List HP} (s : Sub L T := by repeat (first | exact .refl | refine .cons (by repeat (first | exact .here | apply cy.there)) ?_ | apply Sub.drop)) : Sub L T := s
abbrev rI (M : Mem) (k o : Nat) (G : Int → Prop) : Prop := aG (M.ld ⟨k, o, none⟩) .i64 G
abbrev rS (M : Mem) (k o : Nat) (G : Option Addr → Nat → Nat → Prop) : Prop := az (M.ld ⟨k, o, none⟩) G
abbrev sT (M : Mem) (k o : Nat) (v : Value) (G : Mem → Prop) : Prop := aF M ⟨k, o, none⟩ v G
abbrev iV (n : Int) : Value := .int .i64 n
theorem au {X Y : Prop} (y : Y) (x : X := by first | exact rfl | ((repeat (refine bx (bk h) ?_)); exact dQ) | omega) : X ∧ Y := ⟨x, y⟩
abbrev rU (M : Mem) (k o : Nat) (G : Int → Prop) : Prop := aG (M.ld ⟨k, o, none⟩) .u64 G
abbrev rB (M : Mem) (k o : Nat) (G : Bool → Prop) : Prop := cV (M.ld ⟨k, o, none⟩) G
abbrev rP (M : Mem) (k o : Nat) (G : Option Addr → Prop) : Prop := b8 (M.ld ⟨k, o, none⟩) G
abbrev eI (M : Mem) (k o : Nat) (n : Int) : Prop := M.ld ⟨k, o, none⟩ = some (iV n)
abbrev eS (M : Mem) (k o : Nat) (A : Option Addr) (n c : Nat) : Prop := M.ld ⟨k, o, none⟩ = some (.slice A n c)
abbrev rW (M : Mem) (k : Nat) (G : List Value → Prop) : Prop := UZ (M.gp ⟨k, 0, none⟩ 0 14) G
abbrev IT := Nat → List Value → Mem → Prop
abbrev cl (l : List Value) (T : Nat) : Obj := .cells l.toArray T (0, 0)
abbrev xW (v : Value) (G : Value → Value → Value → Value → Value → Value → Value → Value → Value → Value → Value → Value → Value → Value → Prop) : Prop := ∃ v0 v1 v2 v3 v4 v5 v6 v7 v8 v9 v10 v11 HG HH : Value, v = .agg #[v0, v1, v2, v3, v4, v5, v6, v7, v8, v9, v10, v11, HG, HH] ∧ G v0 v1 v2 v3 v4 v5 v6 v7 v8 v9 v10 v11 HG HH
abbrev eW (M : Mem) (k : Nat) (a0 : Option Addr) (a1 a2 : Nat) (a3 : Option Addr) (a4 a5 : Nat) (a6 : Int) (a7 : Option Addr) (a8 a9 : Nat) (VY : Option Addr) (VZ V0 : Nat) (V1 : Int) (V2 : Option Addr) (V3 V4 : Nat) (V5 : Option Addr) (LH V6 : Nat) (V7 : Option Addr) (V8 V9 : Nat) (Wa : Int) (Wb : Option Addr) (Wc We : Nat) (Wf : Int) (Wg : Int) (Wh : Option Addr) (Wi Wj : Nat) : Prop := M.gp ⟨k, 0, none⟩ 0 14 = some [.slice a0 a1 a2, .slice a3 a4 a5, .int .i64 a6, .slice a7 a8 a9, .slice VY VZ V0, .int .u64 V1, .slice V2 V3 V4, .slice V5 LH V6, .slice V7 V8 V9, .int .u64 Wa, .slice Wb Wc We, .int .i64 Wf, .int .i64 Wg, .slice Wh Wi Wj]
abbrev tW2 (M : Mem) (k : Nat) (a0 : Option Addr) (a1 a2 : Nat) (a3 : Option Addr) (a4 a5 : Nat) (a6 : Int) (a7 : Option Addr) (a8 a9 : Nat) (VY : Option Addr) (VZ V0 : Nat) (V1 : Int) (V2 : Option Addr) (V3 V4 : Nat) (V5 : Option Addr) (LH V6 : Nat) (V7 : Option Addr) (V8 V9 : Nat) (Wa : Int) (Wb : Option Addr) (Wc We : Nat) (Wf : Int) (Wg : Int) (Wh : Option Addr) (Wi Wj : Nat) (G : Mem → Prop) : Prop := stL M k 0 [.slice a0 a1 a2, .slice a3 a4 a5, .int .i64 a6, .slice a7 a8 a9, .slice VY VZ V0, .int .u64 V1, .slice V2 V3 V4, .slice V5 LH V6, .slice V7 V8 V9, .int .u64 Wa, .slice Wb Wc We, .int .i64 Wf, .int .i64 Wg, .slice Wh Wi Wj] 14 G
abbrev nF (M : Mem) (k o : Nat) (G : Int → Int → Int → Prop) : Prop := rI M k o fun x0 => rI M k (o + 1) fun x1 => rI M k (o + 2) fun x2 => G x0 x1 x2
abbrev ji : Obj := .cells #[(iV 0), (iV 0), (iV 0)] 280 (0, 0)
abbrev IG (M : Mem) (k : Nat) (v0 v1 v2 : Value) (G : Mem → Prop) : Prop := sT M k 0 v0 fun M => sT M k (0 + 1) v1 fun M => sT M k (0 + 2) v2 fun M => G M
abbrev lV : Obj := .cells #[(iV 0), (.bool false), (iV 0), (iV 0), (iV 0), (.bool false)] 381 (0, 0)
abbrev Wl (M : Mem) (k : Nat) (v0 v1 : Value) (G : Mem → Prop) : Prop := sT M k 0 v0 fun M => sT M k (0 + 1) v1 fun M => G M
abbrev vC (M : Mem) (k o : Nat) (G : Int → Bool → Int → Int → Int → Bool → Prop) : Prop := rI M k o fun x0 => rB M k (o + 1) fun x1 => rI M k (o + 2) fun x2 => rI M k (o + 3) fun x3 => rI M k (o + 4) fun x4 => rB M k (o + 5) fun x5 => G x0 x1 x2 x3 x4 x5
abbrev U6 (M : Mem) (k : Nat) (v0 v1 v2 v3 v4 v5 : Value) (G : Mem → Prop) : Prop := sT M k 0 v0 fun M => sT M k (0 + 1) v1 fun M => sT M k (0 + 2) v2 fun M => sT M k (0 + 3) v3 fun M => sT M k (0 + 4) v4 fun M => sT M k (0 + 5) v5 fun M => G M
abbrev oT : Obj := .cells #[(iV 0), (iV 0), (iV 0)] 165 (0, 0)
abbrev jy (M : Mem) (k o : Nat) (G : Int → Int → Int → Int → Prop) : Prop := rI M k o fun x0 => rI M k (o + 1) fun x1 => rI M k (o + 2) fun x2 => rI M k (o + 3) fun x3 => G x0 x1 x2 x3
abbrev tN : Obj := .cells #[(iV 0), (iV 0), (iV 0), (iV 0)] 27 (0, 0)
abbrev DA (M : Mem) (k : Nat) (v0 v1 v2 v3 : Value) (G : Mem → Prop) : Prop := sT M k 0 v0 fun M => sT M k (0 + 1) v1 fun M => sT M k (0 + 2) v2 fun M => sT M k (0 + 3) v3 fun M => G M
abbrev rII (M : Mem) (k o : Nat) (G : Int → Int → Prop) : Prop := rI M k o fun x0 => rI M k (o + 1) fun x1 => G x0 x1
abbrev II (M : Mem) (k o : Nat) (G : Option Addr → Nat → Nat → Option Addr → Nat → Nat → Int → Option Addr → Nat → Nat → Prop) : Prop := rS M k o fun x0 x1 x2 => rS M k (o + 1) fun x3 x4 x5 => rI M k (o + 2) fun x6 => rS M k (o + 3) fun x7 x8 x9 => G x0 x1 x2 x3 x4 x5 x6 x7 x8 x9
abbrev qo : Obj := .cells #[(iV 0), (iV 0), (iV 0), (iV 0), (.int .u64 0)] 97 (0, 0)
abbrev yQ : Obj := .cells #[(iV 0)] 3 (0, 0)
abbrev Wm (M : Mem) (k : Nat) (v0 v1 v2 v3 v4 : Value) (G : Mem → Prop) : Prop := sT M k 0 v0 fun M => sT M k (0 + 1) v1 fun M => sT M k (0 + 2) v2 fun M => sT M k (0 + 3) v3 fun M => sT M k (0 + 4) v4 fun M => G M
abbrev IJ (M : Mem) (k o : Nat) (G : Int → Int → Int → Int → Int → Prop) : Prop := rI M k o fun x0 => rI M k (o + 1) fun x1 => rI M k (o + 2) fun x2 => rI M k (o + 3) fun x3 => rU M k (o + 4) fun x4 => G x0 x1 x2 x3 x4
abbrev LI : Obj := .cells #[(iV 0), (.int .u64 0)] 95 (0, 0)
abbrev rIU (M : Mem) (k o : Nat) (G : Int → Int → Prop) : Prop := rI M k o fun x0 => rU M k (o + 1) fun x1 => G x0 x1
abbrev fq : Obj := .cells #[(iV 0), (iV 0), (iV 0), (.slice none 0 0)] 43 (0, 0)
abbrev BJ (M : Mem) (k o : Nat) (G : Int → Int → Int → Option Addr → Nat → Nat → Prop) : Prop := rI M k o fun x0 => rI M k (o + 1) fun x1 => rI M k (o + 2) fun x2 => rS M k (o + 3) fun x3 x4 x5 => G x0 x1 x2 x3 x4 x5
abbrev Gk : Obj := .cells #[(.slice none 0 0), (.slice none 0 0), (iV 0), (.slice none 0 0)] 39 (0, 0)
abbrev Gl : Obj := .cells #[(.int .u64 0), (.int .u64 0), (.int .u64 0), (.int .u64 0)] 32 (0, 0)
abbrev Gm : Obj := .cells #[(iV 0), (iV 0), (iV 0), (iV 0)] 23 (0, 0)
abbrev Gn : Obj := .cells #[(iV 0), (iV 0), (iV 0), (iV 0)] 29 (0, 0)
end Go.AF
