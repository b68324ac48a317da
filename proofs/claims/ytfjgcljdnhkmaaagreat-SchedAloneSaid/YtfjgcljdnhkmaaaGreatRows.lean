/-
  No cell of these rows narrows 'for every input' (looked for: loops, veiled, ifaces, maps, wideKeys, modest, calm, conditions, laid).
  DERIVED. THE GIVEN ROWS OF THIS SEAT. 9 by the template 'for every input the law returns true; each argument reads behind the call as it read before'; 0 by the template 'total and deterministic' (their statements: YtfjgcljdnhkmaaaGreatTotals.lean).
  GIVEN WITH THE SEED: the statements are not yours to turn. If you find one false, say at which input.
  Laid BY PROGRAM, IN A SANDBOX (cutbox-rows.mjs): the forced cells as the released guide's own fill.sh prints them over the translation 81b30afd8d447d09… (all of the seat's roots in one cut). By AI agents, Wed Nov 11 2026. No macro, syntax, notation, axiom, sorry.
-/
import Derived.Test.YtfjgcljdnhkmaaaGreatChecked
import GoSem.Claim
import GoSem.ClaimJoined
import GoSem.ClaimMapViews
import Derived.JoinedTies
import Derived.KernelRfl
namespace Go.Proofs.YtfjgcljdnhkmaaaGreat
/- THE CELL 'sum', in the pinned program and in every row, IS THE sha256 OF THE DUMP (.gsa) THAT YtfjgcljdnhkmaaaGreatProg.lean LOADS. Nothing in Lean hashes anything: it is a label: what it is worth is what the hold of that sum in a sandbox is worth. -/
noncomputable def Tryz.pinned : Pinned := { name := "ytfjgcljdnhkmaaagreat", sum := "81b30afd8d447d09e08246d6af0421fb653c4f7e18287137e296711d1d99ce54", checked := Tryz.checked }
namespace Rows
def none {H : Type} : Left H := { results := [], args := [] }

/-- 'shunterlaw18.SchedChecks': WHATEVER THE INPUT: true; the input reads as it did. -/
def schedChecksSpec : ChangeSpec := { name := "schedChecks", fn := fun _ => fun
  | [d] => { results := [.lit (.bool true)], args := [d] }
  | _ => none }
def schedChecksRow : OpenClaim := { program := "ytfjgcljdnhkmaaagreat", sum := "81b30afd8d447d09e08246d6af0421fb653c4f7e18287137e296711d1d99ce54", func := "shunter/shunterlaw18.SchedChecks", spec := "schedChecks", unfollowed := true, recurses := true, apart := false }
def SchedChecksSaid : Prop := schedChecksRow.holds Tryz.pinned (OpenSpec.ofChange schedChecksSpec)

/-- ITS FALSE NEIGHBOUR: 'it returns false'. Refute it at one input. -/
def schedChecksWrong : ChangeSpec := { name := "schedChecks", fn := fun _ => fun
  | [d] => { results := [.lit (.bool false)], args := [d] }
  | _ => none }
def SchedChecksWrongFalsely : Prop := schedChecksRow.holds Tryz.pinned (OpenSpec.ofChange schedChecksWrong)

/-- 'shunterlaw18.SchedSteals': WHATEVER THE INPUT: true; the input reads as it did. -/
def schedStealsSpec : ChangeSpec := { name := "schedSteals", fn := fun _ => fun
  | [d] => { results := [.lit (.bool true)], args := [d] }
  | _ => none }
def schedStealsRow : OpenClaim := { program := "ytfjgcljdnhkmaaagreat", sum := "81b30afd8d447d09e08246d6af0421fb653c4f7e18287137e296711d1d99ce54", func := "shunter/shunterlaw18.SchedSteals", spec := "schedSteals", unfollowed := true, recurses := true, apart := false }
def SchedStealsSaid : Prop := schedStealsRow.holds Tryz.pinned (OpenSpec.ofChange schedStealsSpec)

/-- ITS FALSE NEIGHBOUR: 'it returns false'. Refute it at one input. -/
def schedStealsWrong : ChangeSpec := { name := "schedSteals", fn := fun _ => fun
  | [d] => { results := [.lit (.bool false)], args := [d] }
  | _ => none }
def SchedStealsWrongFalsely : Prop := schedStealsRow.holds Tryz.pinned (OpenSpec.ofChange schedStealsWrong)

/-- 'shunterlaw18.SchedAlone': WHATEVER THE INPUT: true; the input reads as it did. -/
def schedAloneSpec : ChangeSpec := { name := "schedAlone", fn := fun _ => fun
  | [d1, d2, d3] => { results := [.lit (.bool true)], args := [d1, d2, d3] }
  | _ => none }
def schedAloneRow : OpenClaim := { program := "ytfjgcljdnhkmaaagreat", sum := "81b30afd8d447d09e08246d6af0421fb653c4f7e18287137e296711d1d99ce54", func := "shunter/shunterlaw18.SchedAlone", spec := "schedAlone", unfollowed := true, recurses := true, apart := false }
def SchedAloneSaid : Prop := schedAloneRow.holds Tryz.pinned (OpenSpec.ofChange schedAloneSpec)

/-- ITS FALSE NEIGHBOUR: 'it returns false'. Refute it at one input. -/
def schedAloneWrong : ChangeSpec := { name := "schedAlone", fn := fun _ => fun
  | [d1, d2, d3] => { results := [.lit (.bool false)], args := [d1, d2, d3] }
  | _ => none }
def SchedAloneWrongFalsely : Prop := schedAloneRow.holds Tryz.pinned (OpenSpec.ofChange schedAloneWrong)

/-- 'shunterlaw18.SchedWakes': WHATEVER THE INPUT: true; the input reads as it did. -/
def schedWakesSpec : ChangeSpec := { name := "schedWakes", fn := fun _ => fun
  | [d1, d2] => { results := [.lit (.bool true)], args := [d1, d2] }
  | _ => none }
def schedWakesRow : OpenClaim := { program := "ytfjgcljdnhkmaaagreat", sum := "81b30afd8d447d09e08246d6af0421fb653c4f7e18287137e296711d1d99ce54", func := "shunter/shunterlaw18.SchedWakes", spec := "schedWakes", unfollowed := true, recurses := true, apart := false }
def SchedWakesSaid : Prop := schedWakesRow.holds Tryz.pinned (OpenSpec.ofChange schedWakesSpec)

/-- ITS FALSE NEIGHBOUR: 'it returns false'. Refute it at one input. -/
def schedWakesWrong : ChangeSpec := { name := "schedWakes", fn := fun _ => fun
  | [d1, d2] => { results := [.lit (.bool false)], args := [d1, d2] }
  | _ => none }
def SchedWakesWrongFalsely : Prop := schedWakesRow.holds Tryz.pinned (OpenSpec.ofChange schedWakesWrong)

/-- 'shunterlaw18.SchedLost': WHATEVER THE INPUT: true; the input reads as it did. -/
def schedLostSpec : ChangeSpec := { name := "schedLost", fn := fun _ => fun
  | [d1, d2, d3] => { results := [.lit (.bool true)], args := [d1, d2, d3] }
  | _ => none }
def schedLostRow : OpenClaim := { program := "ytfjgcljdnhkmaaagreat", sum := "81b30afd8d447d09e08246d6af0421fb653c4f7e18287137e296711d1d99ce54", func := "shunter/shunterlaw18.SchedLost", spec := "schedLost", unfollowed := true, recurses := true, apart := false }
def SchedLostSaid : Prop := schedLostRow.holds Tryz.pinned (OpenSpec.ofChange schedLostSpec)

/-- ITS FALSE NEIGHBOUR: 'it returns false'. Refute it at one input. -/
def schedLostWrong : ChangeSpec := { name := "schedLost", fn := fun _ => fun
  | [d1, d2, d3] => { results := [.lit (.bool false)], args := [d1, d2, d3] }
  | _ => none }
def SchedLostWrongFalsely : Prop := schedLostRow.holds Tryz.pinned (OpenSpec.ofChange schedLostWrong)

/-- 'shunterlaw18.SchedAgain': WHATEVER THE INPUT: true; the input reads as it did. -/
def schedAgainSpec : ChangeSpec := { name := "schedAgain", fn := fun _ => fun
  | [d1, d2, d3] => { results := [.lit (.bool true)], args := [d1, d2, d3] }
  | _ => none }
def schedAgainRow : OpenClaim := { program := "ytfjgcljdnhkmaaagreat", sum := "81b30afd8d447d09e08246d6af0421fb653c4f7e18287137e296711d1d99ce54", func := "shunter/shunterlaw18.SchedAgain", spec := "schedAgain", unfollowed := true, recurses := true, apart := false }
def SchedAgainSaid : Prop := schedAgainRow.holds Tryz.pinned (OpenSpec.ofChange schedAgainSpec)

/-- ITS FALSE NEIGHBOUR: 'it returns false'. Refute it at one input. -/
def schedAgainWrong : ChangeSpec := { name := "schedAgain", fn := fun _ => fun
  | [d1, d2, d3] => { results := [.lit (.bool false)], args := [d1, d2, d3] }
  | _ => none }
def SchedAgainWrongFalsely : Prop := schedAgainRow.holds Tryz.pinned (OpenSpec.ofChange schedAgainWrong)

/-- 'shunterlaw16.WorldDry': WHATEVER THE INPUT: true; the input reads as it did. -/
def worldDrySpec : ChangeSpec := { name := "worldDry", fn := fun _ => fun
  | [d1, d2] => { results := [.lit (.bool true)], args := [d1, d2] }
  | _ => none }
def worldDryRow : OpenClaim := { program := "ytfjgcljdnhkmaaagreat", sum := "81b30afd8d447d09e08246d6af0421fb653c4f7e18287137e296711d1d99ce54", func := "shunter/shunterlaw16.WorldDry", spec := "worldDry", unfollowed := true, recurses := true, apart := false }
def WorldDrySaid : Prop := worldDryRow.holds Tryz.pinned (OpenSpec.ofChange worldDrySpec)

/-- ITS FALSE NEIGHBOUR: 'it returns false'. Refute it at one input. -/
def worldDryWrong : ChangeSpec := { name := "worldDry", fn := fun _ => fun
  | [d1, d2] => { results := [.lit (.bool false)], args := [d1, d2] }
  | _ => none }
def WorldDryWrongFalsely : Prop := worldDryRow.holds Tryz.pinned (OpenSpec.ofChange worldDryWrong)

/-- 'shunterlaw16.WorldEnds': WHATEVER THE INPUT: true; the input reads as it did. -/
def worldEndsSpec : ChangeSpec := { name := "worldEnds", fn := fun _ => fun
  | [d1, d2, d3] => { results := [.lit (.bool true)], args := [d1, d2, d3] }
  | _ => none }
def worldEndsRow : OpenClaim := { program := "ytfjgcljdnhkmaaagreat", sum := "81b30afd8d447d09e08246d6af0421fb653c4f7e18287137e296711d1d99ce54", func := "shunter/shunterlaw16.WorldEnds", spec := "worldEnds", unfollowed := true, recurses := true, apart := false }
def WorldEndsSaid : Prop := worldEndsRow.holds Tryz.pinned (OpenSpec.ofChange worldEndsSpec)

/-- ITS FALSE NEIGHBOUR: 'it returns false'. Refute it at one input. -/
def worldEndsWrong : ChangeSpec := { name := "worldEnds", fn := fun _ => fun
  | [d1, d2, d3] => { results := [.lit (.bool false)], args := [d1, d2, d3] }
  | _ => none }
def WorldEndsWrongFalsely : Prop := worldEndsRow.holds Tryz.pinned (OpenSpec.ofChange worldEndsWrong)

/-- 'shunterlaw18.SchedPlays': WHATEVER THE INPUT: true; the input reads as it did. -/
def schedPlaysSpec : ChangeSpec := { name := "schedPlays", fn := fun _ => fun
  | [d1, d2, d3] => { results := [.lit (.bool true)], args := [d1, d2, d3] }
  | _ => none }
def schedPlaysRow : OpenClaim := { program := "ytfjgcljdnhkmaaagreat", sum := "81b30afd8d447d09e08246d6af0421fb653c4f7e18287137e296711d1d99ce54", func := "shunter/shunterlaw18.SchedPlays", spec := "schedPlays", unfollowed := true, recurses := true, apart := false }
def SchedPlaysSaid : Prop := schedPlaysRow.holds Tryz.pinned (OpenSpec.ofChange schedPlaysSpec)

/-- ITS FALSE NEIGHBOUR: 'it returns false'. Refute it at one input. -/
def schedPlaysWrong : ChangeSpec := { name := "schedPlays", fn := fun _ => fun
  | [d1, d2, d3] => { results := [.lit (.bool false)], args := [d1, d2, d3] }
  | _ => none }
def SchedPlaysWrongFalsely : Prop := schedPlaysRow.holds Tryz.pinned (OpenSpec.ofChange schedPlaysWrong)

/- THE SECOND FORM. 'bulk': how many values and letters a reading holds, each counted each time it is reached (what is shared counts as often as it is met; a slice's spare places count too). A statement '..UptoSaid' is the law's where the arguments, and the package variables that the reading takes, are together of bulk at most 1048576: NARROWER than '..Said'. Prove '..Said' where nothing that the law and all that it calls make is longer than what came in: it says more and counts as full. Else prove '..UptoSaid'. A law counts once. -/
mutual
def uptoBulk {H : Type} : DataW H → Nat
  | .lit (.string bytes) => bytes.length + 1
  | .lit _ => 1
  | .nil => 1
  | .ptr d => uptoBulk d + 1
  | .slice elems spare => uptoBulkAll elems + uptoBulkAll spare + 1
  | .agg parts => uptoBulkAll parts + 1
  | .iface _ d => uptoBulk d + 1
  | .map entries => uptoBulkEntries entries + 1
  | .held _ => 1
def uptoBulkAll {H : Type} : List (DataW H) → Nat
  | [] => 0
  | d :: r => uptoBulk d + uptoBulkAll r
def uptoBulkEntries {H : Type} : List (Lit × DataW H) → Nat
  | [] => 0
  | x :: r => uptoBulkEntry x + uptoBulkEntries r
def uptoBulkEntry {H : Type} : Lit × DataW H → Nat
  | (.string bytes, d) => bytes.length + uptoBulk d + 1
  | (_, d) => uptoBulk d + 1
 end
def uptoSmall : (H : Type) → List (DataW H) → Bool := fun _ ds => decide (uptoBulkAll ds ≤ 1048576)
def OpenSpec.upto (s : _root_.Go.ChangeSpec) : _root_.Go.OpenSpec := { _root_.Go.OpenSpec.ofChange s with cond := some uptoSmall }

/-- 'shunterlaw18.SchedChecks', WHERE WHAT IT READS IS OF BULK AT MOST 1048576: true; the input reads as it did. -/
def schedChecksUptoRow : OpenClaim := { program := "ytfjgcljdnhkmaaagreat", sum := "81b30afd8d447d09e08246d6af0421fb653c4f7e18287137e296711d1d99ce54", func := "shunter/shunterlaw18.SchedChecks", spec := "schedChecks", unfollowed := true, recurses := true, apart := false, narrowed := true }
def SchedChecksUptoSaid : Prop := schedChecksUptoRow.holds Tryz.pinned (OpenSpec.upto schedChecksSpec)

/-- 'shunterlaw18.SchedSteals', WHERE WHAT IT READS IS OF BULK AT MOST 1048576: true; the input reads as it did. -/
def schedStealsUptoRow : OpenClaim := { program := "ytfjgcljdnhkmaaagreat", sum := "81b30afd8d447d09e08246d6af0421fb653c4f7e18287137e296711d1d99ce54", func := "shunter/shunterlaw18.SchedSteals", spec := "schedSteals", unfollowed := true, recurses := true, apart := false, narrowed := true }
def SchedStealsUptoSaid : Prop := schedStealsUptoRow.holds Tryz.pinned (OpenSpec.upto schedStealsSpec)

/-- 'shunterlaw18.SchedAlone', WHERE WHAT IT READS IS OF BULK AT MOST 1048576: true; the input reads as it did. -/
def schedAloneUptoRow : OpenClaim := { program := "ytfjgcljdnhkmaaagreat", sum := "81b30afd8d447d09e08246d6af0421fb653c4f7e18287137e296711d1d99ce54", func := "shunter/shunterlaw18.SchedAlone", spec := "schedAlone", unfollowed := true, recurses := true, apart := false, narrowed := true }
def SchedAloneUptoSaid : Prop := schedAloneUptoRow.holds Tryz.pinned (OpenSpec.upto schedAloneSpec)

/-- 'shunterlaw18.SchedWakes', WHERE WHAT IT READS IS OF BULK AT MOST 1048576: true; the input reads as it did. -/
def schedWakesUptoRow : OpenClaim := { program := "ytfjgcljdnhkmaaagreat", sum := "81b30afd8d447d09e08246d6af0421fb653c4f7e18287137e296711d1d99ce54", func := "shunter/shunterlaw18.SchedWakes", spec := "schedWakes", unfollowed := true, recurses := true, apart := false, narrowed := true }
def SchedWakesUptoSaid : Prop := schedWakesUptoRow.holds Tryz.pinned (OpenSpec.upto schedWakesSpec)

/-- 'shunterlaw18.SchedLost', WHERE WHAT IT READS IS OF BULK AT MOST 1048576: true; the input reads as it did. -/
def schedLostUptoRow : OpenClaim := { program := "ytfjgcljdnhkmaaagreat", sum := "81b30afd8d447d09e08246d6af0421fb653c4f7e18287137e296711d1d99ce54", func := "shunter/shunterlaw18.SchedLost", spec := "schedLost", unfollowed := true, recurses := true, apart := false, narrowed := true }
def SchedLostUptoSaid : Prop := schedLostUptoRow.holds Tryz.pinned (OpenSpec.upto schedLostSpec)

/-- 'shunterlaw18.SchedAgain', WHERE WHAT IT READS IS OF BULK AT MOST 1048576: true; the input reads as it did. -/
def schedAgainUptoRow : OpenClaim := { program := "ytfjgcljdnhkmaaagreat", sum := "81b30afd8d447d09e08246d6af0421fb653c4f7e18287137e296711d1d99ce54", func := "shunter/shunterlaw18.SchedAgain", spec := "schedAgain", unfollowed := true, recurses := true, apart := false, narrowed := true }
def SchedAgainUptoSaid : Prop := schedAgainUptoRow.holds Tryz.pinned (OpenSpec.upto schedAgainSpec)

/-- 'shunterlaw16.WorldDry', WHERE WHAT IT READS IS OF BULK AT MOST 1048576: true; the input reads as it did. -/
def worldDryUptoRow : OpenClaim := { program := "ytfjgcljdnhkmaaagreat", sum := "81b30afd8d447d09e08246d6af0421fb653c4f7e18287137e296711d1d99ce54", func := "shunter/shunterlaw16.WorldDry", spec := "worldDry", unfollowed := true, recurses := true, apart := false, narrowed := true }
def WorldDryUptoSaid : Prop := worldDryUptoRow.holds Tryz.pinned (OpenSpec.upto worldDrySpec)

/-- 'shunterlaw16.WorldEnds', WHERE WHAT IT READS IS OF BULK AT MOST 1048576: true; the input reads as it did. -/
def worldEndsUptoRow : OpenClaim := { program := "ytfjgcljdnhkmaaagreat", sum := "81b30afd8d447d09e08246d6af0421fb653c4f7e18287137e296711d1d99ce54", func := "shunter/shunterlaw16.WorldEnds", spec := "worldEnds", unfollowed := true, recurses := true, apart := false, narrowed := true }
def WorldEndsUptoSaid : Prop := worldEndsUptoRow.holds Tryz.pinned (OpenSpec.upto worldEndsSpec)

/-- 'shunterlaw18.SchedPlays', WHERE WHAT IT READS IS OF BULK AT MOST 1048576: true; the input reads as it did. -/
def schedPlaysUptoRow : OpenClaim := { program := "ytfjgcljdnhkmaaagreat", sum := "81b30afd8d447d09e08246d6af0421fb653c4f7e18287137e296711d1d99ce54", func := "shunter/shunterlaw18.SchedPlays", spec := "schedPlays", unfollowed := true, recurses := true, apart := false, narrowed := true }
def SchedPlaysUptoSaid : Prop := schedPlaysUptoRow.holds Tryz.pinned (OpenSpec.upto schedPlaysSpec)

end Rows
end Go.Proofs.YtfjgcljdnhkmaaaGreat
