/- A part of proofs about one program. -/
import Derived.Test.YtnnlgknlialpmaaGreatZShunterChatBig
set_option linter.unusedVariables false
namespace Go.AF
class St (R : Mem) (L : List HP) (M : Mem) (G : Prop) (G' : outParam Prop) : Prop where
 to : Hp R L M → G' → G
section
variable {R : Mem} {L L' : List HP} {M : Mem} {b o : Nat}
instance {k : IntKind} {n : Int} {G : Int → Prop} [mH b o L (.int k n)] : St R L M (aH (M.ld ⟨b, o, none⟩) k G) (G n) := ⟨fun h g => aG h g⟩
instance {n : Bool} {G : Bool → Prop} [mH b o L (.bool n)] : St R L M (cK (M.ld ⟨b, o, none⟩) G) (G n) := ⟨fun h g => Hi h g⟩
instance {n : ByteArray} {G : ByteArray → Prop} [mH b o L (.string n)] : St R L M (dM (M.ld ⟨b, o, none⟩) G) (G n) := ⟨fun h g => Wc h g⟩
instance {n : Option Addr} {G : Option Addr → Prop} [mH b o L (.pointer n)] : St R L M (b8 (M.ld ⟨b, o, none⟩) G) (G n) := ⟨fun h g => j2 h g⟩
instance {A : Option Addr} {n c : Nat} {G : Option Addr → Nat → Nat → Prop} [mH b o L (.slice A n c)] : St R L M (az (M.ld ⟨b, o, none⟩) G) (G A n c) := ⟨fun h g => be h g⟩
instance {v : Value} {G : Value → Prop} [mH b o L v] : St R L M (dD (M.ld ⟨b, o, none⟩) G) (G v) := ⟨fun h g => xJ h g⟩
instance {k : IntKind} {n : Int} {G : Int → Prop} : St R L M (aH (some (.int k n)) k G) (G n) := ⟨fun _ g => cy g⟩
instance {n : Bool} {G : Bool → Prop} : St R L M (cK (some (.bool n)) G) (G n) := ⟨fun _ g => nw g⟩
instance {n : ByteArray} {G : ByteArray → Prop} : St R L M (dM (some (.string n)) G) (G n) := ⟨fun _ g => vN g⟩
instance {n : Option Addr} {G : Option Addr → Prop} : St R L M (b8 (some (.pointer n)) G) (G n) := ⟨fun _ g => iY g⟩
instance {A : Option Addr} {n c : Nat} {G : Option Addr → Nat → Nat → Prop} : St R L M (az (some (.slice A n c)) G) (G A n c) := ⟨fun _ g => bk g⟩
instance {v : Value} {G : Value → Prop} : St R L M (dD (some v) G) (G v) := ⟨fun _ g => Lq g⟩
instance {G : Nat → Nat → Prop} : St R L M (aF (some ⟨b, o, none⟩) G) (G b o) := ⟨fun _ g => bp g⟩
instance {X Y : Prop} : St R L M (aM true X Y) X := ⟨fun _ g => af g⟩
instance {X Y : Prop} : St R L M (aM false X Y) Y := ⟨fun _ g => ai g⟩
instance {G : Prop} : St R L M (True ∧ G) G := ⟨fun _ g => ⟨trivial, g⟩⟩
instance {v : Value} {G : Prop} [mH b o L v] : St R L M (M.ld ⟨b, o, none⟩ = some v ∧ G) G := ⟨fun h g => ⟨bH h, g⟩⟩
end
theorem bM {L T : List HP} (s : Sub L T := by repeat (first | exact .refl | refine .cons (by repeat (first | exact .here | apply cG.there)) ?_ | apply Sub.drop)) : Sub L T := s
abbrev rI (M : Mem) (k o : Nat) (G : Int → Prop) : Prop := aH (M.ld ⟨k, o, none⟩) .i64 G
abbrev rS (M : Mem) (k o : Nat) (G : Option Addr → Nat → Nat → Prop) : Prop := az (M.ld ⟨k, o, none⟩) G
abbrev sT (M : Mem) (k o : Nat) (v : Value) (G : Mem → Prop) : Prop := aI M ⟨k, o, none⟩ v G
abbrev iV (n : Int) : Value := .int .i64 n
theorem au {X Y : Prop} (y : Y) (x : X := by first | exact rfl | ((repeat (refine iZ (bH h) ?_)); exact sS) | omega) : X ∧ Y := ⟨x, y⟩
abbrev rU (M : Mem) (k o : Nat) (G : Int → Prop) : Prop := aH (M.ld ⟨k, o, none⟩) .u64 G
abbrev rB (M : Mem) (k o : Nat) (G : Bool → Prop) : Prop := cK (M.ld ⟨k, o, none⟩) G
abbrev rP (M : Mem) (k o : Nat) (G : Option Addr → Prop) : Prop := b8 (M.ld ⟨k, o, none⟩) G
abbrev eI (M : Mem) (k o : Nat) (n : Int) : Prop := M.ld ⟨k, o, none⟩ = some (iV n)
abbrev eS (M : Mem) (k o : Nat) (A : Option Addr) (n c : Nat) : Prop := M.ld ⟨k, o, none⟩ = some (.slice A n c)
abbrev rW (M : Mem) (k : Nat) (G : List Value → Prop) : Prop := Si (M.iH ⟨k, 0, none⟩ 0 14) G
abbrev IT := Nat → List Value → Mem → Prop
abbrev cl (l : List Value) (T : Nat) : Obj := .cells l.toArray T (0, 0)
abbrev xW (v : Value) (G : Value → Value → Value → Value → Value → Value → Value → Value → Value → Value → Value → Value → Value → Value → Prop) : Prop := ∃ v0 v1 v2 v3 v4 v5 v6 v7 v8 v9 v10 v11 CX Hj : Value, v = .agg #[v0, v1, v2, v3, v4, v5, v6, v7, v8, v9, v10, v11, CX, Hj] ∧ G v0 v1 v2 v3 v4 v5 v6 v7 v8 v9 v10 v11 CX Hj
abbrev eW (M : Mem) (k : Nat) (a0 : Option Addr) (a1 a2 : Nat) (a3 : Option Addr) (a4 a5 : Nat) (a6 : Int) (a7 : Option Addr) (a8 a9 : Nat) (Wi : Option Addr) (Wj Y6 : Nat) (Y7 : Int) (Y8 : Option Addr) (Y9 Za : Nat) (Zb : Option Addr) (Zc Zd : Nat) (Ze : Option Addr) (Zf Zg : Nat) (Zh : Int) (Zi : Option Addr) (Zj Zk : Nat) (Zl : Int) (Zm : Int) (Zn : Option Addr) (Zo Zp : Nat) : Prop := M.iH ⟨k, 0, none⟩ 0 14 = some [.slice a0 a1 a2, .slice a3 a4 a5, .int .i64 a6, .slice a7 a8 a9, .slice Wi Wj Y6, .int .u64 Y7, .slice Y8 Y9 Za, .slice Zb Zc Zd, .slice Ze Zf Zg, .int .u64 Zh, .slice Zi Zj Zk, .int .i64 Zl, .int .i64 Zm, .slice Zn Zo Zp]
abbrev tW2 (M : Mem) (k : Nat) (a0 : Option Addr) (a1 a2 : Nat) (a3 : Option Addr) (a4 a5 : Nat) (a6 : Int) (a7 : Option Addr) (a8 a9 : Nat) (Wi : Option Addr) (Wj Y6 : Nat) (Y7 : Int) (Y8 : Option Addr) (Y9 Za : Nat) (Zb : Option Addr) (Zc Zd : Nat) (Ze : Option Addr) (Zf Zg : Nat) (Zh : Int) (Zi : Option Addr) (Zj Zk : Nat) (Zl : Int) (Zm : Int) (Zn : Option Addr) (Zo Zp : Nat) (G : Mem → Prop) : Prop := VM M k 0 [.slice a0 a1 a2, .slice a3 a4 a5, .int .i64 a6, .slice a7 a8 a9, .slice Wi Wj Y6, .int .u64 Y7, .slice Y8 Y9 Za, .slice Zb Zc Zd, .slice Ze Zf Zg, .int .u64 Zh, .slice Zi Zj Zk, .int .i64 Zl, .int .i64 Zm, .slice Zn Zo Zp] 14 G
abbrev oz (M : Mem) (k o : Nat) (G : Int → Int → Int → Prop) : Prop := rI M k o fun x0 => rI M k (o + 1) fun x1 => rI M k (o + 2) fun x2 => G x0 x1 x2
abbrev jM : Obj := .cells #[(iV 0), (iV 0), (iV 0)] 280 (0, 0)
abbrev Lw (M : Mem) (k : Nat) (v0 v1 v2 : Value) (G : Mem → Prop) : Prop := sT M k 0 v0 fun M => sT M k (0 + 1) v1 fun M => sT M k (0 + 2) v2 fun M => G M
abbrev mK : Obj := .cells #[(iV 0), (.bool false), (iV 0), (iV 0), (iV 0), (.bool false)] 381 (0, 0)
abbrev Zq (M : Mem) (k : Nat) (v0 v1 : Value) (G : Mem → Prop) : Prop := sT M k 0 v0 fun M => sT M k (0 + 1) v1 fun M => G M
abbrev wV (M : Mem) (k o : Nat) (G : Int → Bool → Int → Int → Int → Bool → Prop) : Prop := rI M k o fun x0 => rB M k (o + 1) fun x1 => rI M k (o + 2) fun x2 => rI M k (o + 3) fun x3 => rI M k (o + 4) fun x4 => rB M k (o + 5) fun x5 => G x0 x1 x2 x3 x4 x5
abbrev Ym (M : Mem) (k : Nat) (v0 v1 v2 v3 v4 v5 : Value) (G : Mem → Prop) : Prop := sT M k 0 v0 fun M => sT M k (0 + 1) v1 fun M => sT M k (0 + 2) v2 fun M => sT M k (0 + 3) v3 fun M => sT M k (0 + 4) v4 fun M => sT M k (0 + 5) v5 fun M => G M
abbrev pN : Obj := .cells #[(iV 0), (iV 0), (iV 0)] 165 (0, 0)
abbrev iB (M : Mem) (k o : Nat) (G : Int → Int → Int → Int → Prop) : Prop := rI M k o fun x0 => rI M k (o + 1) fun x1 => rI M k (o + 2) fun x2 => rI M k (o + 3) fun x3 => G x0 x1 x2 x3
abbrev uP : Obj := .cells #[(iV 0), (iV 0), (iV 0), (iV 0)] 27 (0, 0)
abbrev Lx (M : Mem) (k : Nat) (v0 v1 v2 v3 : Value) (G : Mem → Prop) : Prop := sT M k 0 v0 fun M => sT M k (0 + 1) v1 fun M => sT M k (0 + 2) v2 fun M => sT M k (0 + 3) v3 fun M => G M
abbrev rII (M : Mem) (k o : Nat) (G : Int → Int → Prop) : Prop := rI M k o fun x0 => rI M k (o + 1) fun x1 => G x0 x1
abbrev Ly (M : Mem) (k o : Nat) (G : Option Addr → Nat → Nat → Option Addr → Nat → Nat → Int → Option Addr → Nat → Nat → Prop) : Prop := rS M k o fun x0 x1 x2 => rS M k (o + 1) fun x3 x4 x5 => rI M k (o + 2) fun x6 => rS M k (o + 3) fun x7 x8 x9 => G x0 x1 x2 x3 x4 x5 x6 x7 x8 x9
abbrev xK : Obj := .cells #[(iV 0), (iV 0), (iV 0), (iV 0), (.int .u64 0)] 97 (0, 0)
abbrev Rh : Obj := .cells #[(iV 0)] 3 (0, 0)
abbrev sT5 (M : Mem) (k : Nat) (v0 v1 v2 v3 v4 : Value) (G : Mem → Prop) : Prop := sT M k 0 v0 fun M => sT M k (0 + 1) v1 fun M => sT M k (0 + 2) v2 fun M => sT M k (0 + 3) v3 fun M => sT M k (0 + 4) v4 fun M => G M
abbrev Lz (M : Mem) (k o : Nat) (G : Int → Int → Int → Int → Int → Prop) : Prop := rI M k o fun x0 => rI M k (o + 1) fun x1 => rI M k (o + 2) fun x2 => rI M k (o + 3) fun x3 => rU M k (o + 4) fun x4 => G x0 x1 x2 x3 x4
abbrev Hl : Obj := .cells #[(iV 0), (.int .u64 0)] 95 (0, 0)
abbrev Zr (M : Mem) (k o : Nat) (G : Int → Int → Prop) : Prop := rI M k o fun x0 => rU M k (o + 1) fun x1 => G x0 x1
abbrev AB : Obj := .cells #[(iV 0), (iV 0), (iV 0), (.slice none 0 0)] 43 (0, 0)
abbrev LA (M : Mem) (k o : Nat) (G : Int → Int → Int → Option Addr → Nat → Nat → Prop) : Prop := rI M k o fun x0 => rI M k (o + 1) fun x1 => rI M k (o + 2) fun x2 => rS M k (o + 3) fun x3 x4 x5 => G x0 x1 x2 x3 x4 x5
abbrev Jf : Obj := .cells #[(iV 0), (iV 0), (iV 0), (iV 0)] 23 (0, 0)
abbrev AD : Obj := .cells #[(iV 0), (iV 0), (iV 0), (iV 0)] 70 (0, 0)
abbrev SM : Obj := .cells #[(.pointer none)] 33 (0, 0)
abbrev O5 : Obj := .cells #[(.pointer none)] 169 (0, 0)
abbrev Jg : Obj := .cells #[(iV 0), (iV 0), (iV 0), (iV 0)] 29 (0, 0)
abbrev O6 : Obj := .cells #[(iV 0), (iV 0), (iV 0)] 3 (0, 0)
abbrev Jh : Obj := .cells #[(.slice none 0 0), (.slice none 0 0), (iV 0), (.slice none 0 0)] 39 (0, 0)
end Go.AF
