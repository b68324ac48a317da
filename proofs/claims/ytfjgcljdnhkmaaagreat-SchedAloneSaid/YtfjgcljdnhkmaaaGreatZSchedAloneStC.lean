/- A part of proofs about one program. -/
import Derived.Test.YtfjgcljdnhkmaaaGreatZSchedAloneBig
set_option linter.unusedVariables false
namespace Go.AF
class St (R : Mem) (L : List HP) (M : Mem) (G : Prop) (G' : outParam Prop) : Prop where
 to : Hp R L M → G' → G
section
variable {R : Mem} {L L' : List HP} {M : Mem} {b o : Nat}
instance {k : IntKind} {n : Int} {G : Int → Prop} [lz b o L (.int k n)] : St R L M (aG (M.ld ⟨b, o, none⟩) k G) (G n) := ⟨fun h g => aH h g⟩
instance {n : Bool} {G : Bool → Prop} [lz b o L (.bool n)] : St R L M (c6 (M.ld ⟨b, o, none⟩) G) (G n) := ⟨fun h g => Ea h g⟩
instance {n : ByteArray} {G : ByteArray → Prop} [lz b o L (.string n)] : St R L M (fD (M.ld ⟨b, o, none⟩) G) (G n) := ⟨fun h g => Rz h g⟩
instance {n : Option Addr} {G : Option Addr → Prop} [lz b o L (.pointer n)] : St R L M (cj (M.ld ⟨b, o, none⟩) G) (G n) := ⟨fun h g => vv h g⟩
instance {A : Option Addr} {n c : Nat} {G : Option Addr → Nat → Nat → Prop} [lz b o L (.slice A n c)] : St R L M (aC (M.ld ⟨b, o, none⟩) G) (G A n c) := ⟨fun h g => bl h g⟩
instance {v : Value} {G : Value → Prop} [lz b o L v] : St R L M (eU (M.ld ⟨b, o, none⟩) G) (G v) := ⟨fun h g => HK h g⟩
instance {k : IntKind} {n : Int} {G : Int → Prop} : St R L M (aG (some (.int k n)) k G) (G n) := ⟨fun _ g => cF g⟩
instance {n : Bool} {G : Bool → Prop} : St R L M (c6 (some (.bool n)) G) (G n) := ⟨fun _ g => lX g⟩
instance {n : ByteArray} {G : ByteArray → Prop} : St R L M (fD (some (.string n)) G) (G n) := ⟨fun _ g => RA g⟩
instance {n : Option Addr} {G : Option Addr → Prop} : St R L M (cj (some (.pointer n)) G) (G n) := ⟨fun _ g => fR g⟩
instance {A : Option Addr} {n c : Nat} {G : Option Addr → Nat → Nat → Prop} : St R L M (aC (some (.slice A n c)) G) (G A n c) := ⟨fun _ g => aW g⟩
instance {v : Value} {G : Value → Prop} : St R L M (eU (some v) G) (G v) := ⟨fun _ g => HN g⟩
instance {G : Nat → Nat → Prop} : St R L M (aD (some ⟨b, o, none⟩) G) (G b o) := ⟨fun _ g => bp g⟩
instance {X Y : Prop} : St R L M (aQ true X Y) X := ⟨fun _ g => af g⟩
instance {X Y : Prop} : St R L M (aQ false X Y) Y := ⟨fun _ g => ai g⟩
instance {G : Prop} : St R L M (True ∧ G) G := ⟨fun _ g => ⟨trivial, g⟩⟩
instance {v : Value} {G : Prop} [lz b o L v] : St R L M (M.ld ⟨b, o, none⟩ = some v ∧ G) G := ⟨fun h g => ⟨bz h, g⟩⟩
end
theorem bQ {L T : List HP} (s : Sub L T := by repeat (first | exact .refl | refine .cons (by repeat (first | exact .here | apply cu.there)) ?_ | apply Sub.drop)) : Sub L T := s
abbrev rI (M : Mem) (k o : Nat) (G : Int → Prop) : Prop := aG (M.ld ⟨k, o, none⟩) .i64 G
abbrev rS (M : Mem) (k o : Nat) (G : Option Addr → Nat → Nat → Prop) : Prop := aC (M.ld ⟨k, o, none⟩) G
abbrev sT (M : Mem) (k o : Nat) (v : Value) (G : Mem → Prop) : Prop := aF M ⟨k, o, none⟩ v G
abbrev iV (n : Int) : Value := .int .i64 n
theorem au {X Y : Prop} (y : Y) (x : X := by first | exact rfl | ((repeat (refine bI (bz h) ?_)); exact eA) | omega) : X ∧ Y := ⟨x, y⟩
abbrev rU (M : Mem) (k o : Nat) (G : Int → Prop) : Prop := aG (M.ld ⟨k, o, none⟩) .u64 G
abbrev rB (M : Mem) (k o : Nat) (G : Bool → Prop) : Prop := c6 (M.ld ⟨k, o, none⟩) G
abbrev rP (M : Mem) (k o : Nat) (G : Option Addr → Prop) : Prop := cj (M.ld ⟨k, o, none⟩) G
abbrev eI (M : Mem) (k o : Nat) (n : Int) : Prop := M.ld ⟨k, o, none⟩ = some (iV n)
abbrev eS (M : Mem) (k o : Nat) (A : Option Addr) (n c : Nat) : Prop := M.ld ⟨k, o, none⟩ = some (.slice A n c)
abbrev rW (M : Mem) (k : Nat) (G : List Value → Prop) : Prop := Tw (M.gh ⟨k, 0, none⟩ 0 14) G
abbrev IT := Nat → List Value → Mem → Prop
abbrev cl (l : List Value) (T : Nat) : Obj := .cells l.toArray T (0, 0)
abbrev xW (v : Value) (G : Value → Value → Value → Value → Value → Value → Value → Value → Value → Value → Value → Value → Value → Value → Prop) : Prop := ∃ v0 v1 v2 v3 v4 v5 v6 v7 v8 v9 v10 v11 GK GL : Value, v = .agg #[v0, v1, v2, v3, v4, v5, v6, v7, v8, v9, v10, v11, GK, GL] ∧ G v0 v1 v2 v3 v4 v5 v6 v7 v8 v9 v10 v11 GK GL
abbrev eW (M : Mem) (k : Nat) (a0 : Option Addr) (a1 a2 : Nat) (a3 : Option Addr) (a4 a5 : Nat) (a6 : Int) (a7 : Option Addr) (a8 a9 : Nat) (Uz : Option Addr) (UA UB : Nat) (UC : Int) (UD : Option Addr) (UE UF : Nat) (UG : Option Addr) (KR UH : Nat) (UI : Option Addr) (UJ UK : Nat) (UL : Int) (UM : Option Addr) (UN UO : Nat) (UP : Int) (UQ : Int) (UR : Option Addr) (US UT : Nat) : Prop := M.gh ⟨k, 0, none⟩ 0 14 = some [.slice a0 a1 a2, .slice a3 a4 a5, .int .i64 a6, .slice a7 a8 a9, .slice Uz UA UB, .int .u64 UC, .slice UD UE UF, .slice UG KR UH, .slice UI UJ UK, .int .u64 UL, .slice UM UN UO, .int .i64 UP, .int .i64 UQ, .slice UR US UT]
abbrev tW2 (M : Mem) (k : Nat) (a0 : Option Addr) (a1 a2 : Nat) (a3 : Option Addr) (a4 a5 : Nat) (a6 : Int) (a7 : Option Addr) (a8 a9 : Nat) (Uz : Option Addr) (UA UB : Nat) (UC : Int) (UD : Option Addr) (UE UF : Nat) (UG : Option Addr) (KR UH : Nat) (UI : Option Addr) (UJ UK : Nat) (UL : Int) (UM : Option Addr) (UN UO : Nat) (UP : Int) (UQ : Int) (UR : Option Addr) (US UT : Nat) (G : Mem → Prop) : Prop := YU M k 0 [.slice a0 a1 a2, .slice a3 a4 a5, .int .i64 a6, .slice a7 a8 a9, .slice Uz UA UB, .int .u64 UC, .slice UD UE UF, .slice UG KR UH, .slice UI UJ UK, .int .u64 UL, .slice UM UN UO, .int .i64 UP, .int .i64 UQ, .slice UR US UT] 14 G
abbrev m8 (M : Mem) (k o : Nat) (G : Int → Int → Int → Prop) : Prop := rI M k o fun x0 => rI M k (o + 1) fun x1 => rI M k (o + 2) fun x2 => G x0 x1 x2
abbrev iR : Obj := .cells #[(iV 0), (iV 0), (iV 0)] 298 (0, 0)
abbrev HS (M : Mem) (k : Nat) (v0 v1 v2 : Value) (G : Mem → Prop) : Prop := sT M k 0 v0 fun M => sT M k (0 + 1) v1 fun M => sT M k (0 + 2) v2 fun M => G M
abbrev lC : Obj := .cells #[(iV 0), (.bool false), (iV 0), (iV 0), (iV 0), (.bool false)] 335 (0, 0)
abbrev UU (M : Mem) (k : Nat) (v0 v1 : Value) (G : Mem → Prop) : Prop := sT M k 0 v0 fun M => sT M k (0 + 1) v1 fun M => G M
abbrev uO (M : Mem) (k o : Nat) (G : Int → Bool → Int → Int → Int → Bool → Prop) : Prop := rI M k o fun x0 => rB M k (o + 1) fun x1 => rI M k (o + 2) fun x2 => rI M k (o + 3) fun x3 => rI M k (o + 4) fun x4 => rB M k (o + 5) fun x5 => G x0 x1 x2 x3 x4 x5
abbrev TD (M : Mem) (k : Nat) (v0 v1 v2 v3 v4 v5 : Value) (G : Mem → Prop) : Prop := sT M k 0 v0 fun M => sT M k (0 + 1) v1 fun M => sT M k (0 + 2) v2 fun M => sT M k (0 + 3) v3 fun M => sT M k (0 + 4) v4 fun M => sT M k (0 + 5) v5 fun M => G M
abbrev ou : Obj := .cells #[(iV 0), (iV 0), (iV 0)] 172 (0, 0)
abbrev jg (M : Mem) (k o : Nat) (G : Int → Int → Int → Int → Prop) : Prop := rI M k o fun x0 => rI M k (o + 1) fun x1 => rI M k (o + 2) fun x2 => rI M k (o + 3) fun x3 => G x0 x1 x2 x3
abbrev sQ : Obj := .cells #[(iV 0), (iV 0), (iV 0), (iV 0)] 34 (0, 0)
abbrev Fv (M : Mem) (k : Nat) (v0 v1 v2 v3 : Value) (G : Mem → Prop) : Prop := sT M k 0 v0 fun M => sT M k (0 + 1) v1 fun M => sT M k (0 + 2) v2 fun M => sT M k (0 + 3) v3 fun M => G M
abbrev Z7 (M : Mem) (k o : Nat) (G : Int → Int → Prop) : Prop := rI M k o fun x0 => rI M k (o + 1) fun x1 => G x0 x1
abbrev HT (M : Mem) (k o : Nat) (G : Option Addr → Nat → Nat → Option Addr → Nat → Nat → Int → Option Addr → Nat → Nat → Prop) : Prop := rS M k o fun x0 x1 x2 => rS M k (o + 1) fun x3 x4 x5 => rI M k (o + 2) fun x6 => rS M k (o + 3) fun x7 x8 x9 => G x0 x1 x2 x3 x4 x5 x6 x7 x8 x9
abbrev m9 : Obj := .cells #[(iV 0), (iV 0), (iV 0), (iV 0), (.int .u64 0)] 155 (0, 0)
abbrev MO : Obj := .cells #[(iV 0)] 3 (0, 0)
abbrev UW (M : Mem) (k : Nat) (v0 v1 v2 v3 v4 : Value) (G : Mem → Prop) : Prop := sT M k 0 v0 fun M => sT M k (0 + 1) v1 fun M => sT M k (0 + 2) v2 fun M => sT M k (0 + 3) v3 fun M => sT M k (0 + 4) v4 fun M => G M
abbrev HU (M : Mem) (k o : Nat) (G : Int → Int → Int → Int → Int → Prop) : Prop := rI M k o fun x0 => rI M k (o + 1) fun x1 => rI M k (o + 2) fun x2 => rI M k (o + 3) fun x3 => rU M k (o + 4) fun x4 => G x0 x1 x2 x3 x4
abbrev HV : Obj := .cells #[(iV 0), (.int .u64 0)] 153 (0, 0)
abbrev Zb (M : Mem) (k o : Nat) (G : Int → Int → Prop) : Prop := rI M k o fun x0 => rU M k (o + 1) fun x1 => G x0 x1
abbrev gk : Obj := .cells #[(iV 0), (iV 0), (iV 0), (.slice none 0 0)] 47 (0, 0)
abbrev AR (M : Mem) (k o : Nat) (G : Int → Int → Int → Option Addr → Nat → Nat → Prop) : Prop := rI M k o fun x0 => rI M k (o + 1) fun x1 => rI M k (o + 2) fun x2 => rS M k (o + 3) fun x3 x4 x5 => G x0 x1 x2 x3 x4 x5
abbrev Fw : Obj := .cells #[(.slice none 0 0), (.slice none 0 0), (iV 0), (.slice none 0 0)] 41 (0, 0)
abbrev Fx : Obj := .cells #[(.int .u64 0), (.int .u64 0), (.int .u64 0), (.int .u64 0)] 36 (0, 0)
abbrev Fy : Obj := .cells #[(iV 0), (iV 0), (iV 0), (iV 0)] 23 (0, 0)
abbrev Fz : Obj := .cells #[(iV 0), (iV 0), (iV 0), (iV 0)] 26 (0, 0)
end Go.AF
