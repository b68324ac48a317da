/-
  No cell of these rows narrows 'for every input' (looked for: loops, veiled, ifaces, maps, wideKeys, modest, calm, conditions, laid).
  DERIVED. THE GIVEN ROWS OF THIS SEAT. 10 by the template 'for every input the law returns true; each argument reads behind the call as it read before'; 0 by the template 'total and deterministic' (their statements: YtnnlgknlialpmaaGreatTotals.lean).
  GIVEN WITH THE SEED: the statements are not yours to turn. If you find one false, say at which input.
  Laid BY PROGRAM, IN A SANDBOX (cutbox-rows.mjs): the forced cells as the released guide's own fill.sh prints them over the translation 9944845154843125… (all of the seat's roots in one cut). By AI agents, Wed Nov 11 2026. No macro, syntax, notation, axiom, sorry.
-/
import Derived.Test.YtnnlgknlialpmaaGreatChecked
import GoSem.Claim
import GoSem.ClaimJoined
import GoSem.ClaimMapViews
import Derived.JoinedTies
import Derived.KernelRfl
namespace Go.Proofs.YtnnlgknlialpmaaGreat
/- THE CELL 'sum', in the pinned program and in every row, IS THE sha256 OF THE DUMP (.gsa) THAT YtnnlgknlialpmaaGreatProg.lean LOADS. Nothing in Lean hashes anything: it is a label: what it is worth is what the hold of that sum in a sandbox is worth. -/
noncomputable def Tryz.pinned : Pinned := { name := "ytnnlgknlialpmaagreat", sum := "9944845154843125a17553bba443a1335efe3a4f51b38be34c9dbdd7fcec87ca", checked := Tryz.checked }
namespace Rows
def none {H : Type} : Left H := { results := [], args := [] }

/-- 'shunterlaw18.SchedWakes': WHATEVER THE INPUT: true; the input reads as it did. -/
def schedWakesSpec : ChangeSpec := { name := "schedWakes", fn := fun _ => fun
  | [d1, d2] => { results := [.lit (.bool true)], args := [d1, d2] }
  | _ => none }
def schedWakesRow : OpenClaim := { program := "ytnnlgknlialpmaagreat", sum := "9944845154843125a17553bba443a1335efe3a4f51b38be34c9dbdd7fcec87ca", func := "shunter/shunterlaw18.SchedWakes", spec := "schedWakes", unfollowed := true, recurses := true, apart := false }
def SchedWakesSaid : Prop := schedWakesRow.holds Tryz.pinned (OpenSpec.ofChange schedWakesSpec)

/-- ITS FALSE NEIGHBOUR: 'it returns false'. Refute it at one input. -/
def schedWakesWrong : ChangeSpec := { name := "schedWakes", fn := fun _ => fun
  | [d1, d2] => { results := [.lit (.bool false)], args := [d1, d2] }
  | _ => none }
def SchedWakesWrongFalsely : Prop := schedWakesRow.holds Tryz.pinned (OpenSpec.ofChange schedWakesWrong)

/-- 'shuntertop.ShunterMachines': WHATEVER THE INPUT: true; the input reads as it did. -/
def shunterMachinesSpec : ChangeSpec := { name := "shunterMachines", fn := fun _ => fun
  | [d1, d2, d3] => { results := [.lit (.bool true)], args := [d1, d2, d3] }
  | _ => none }
def shunterMachinesRow : OpenClaim := { program := "ytnnlgknlialpmaagreat", sum := "9944845154843125a17553bba443a1335efe3a4f51b38be34c9dbdd7fcec87ca", func := "shunter/shuntertop.ShunterMachines", spec := "shunterMachines", unfollowed := true, recurses := true, apart := false }
def ShunterMachinesSaid : Prop := shunterMachinesRow.holds Tryz.pinned (OpenSpec.ofChange shunterMachinesSpec)

/-- ITS FALSE NEIGHBOUR: 'it returns false'. Refute it at one input. -/
def shunterMachinesWrong : ChangeSpec := { name := "shunterMachines", fn := fun _ => fun
  | [d1, d2, d3] => { results := [.lit (.bool false)], args := [d1, d2, d3] }
  | _ => none }
def ShunterMachinesWrongFalsely : Prop := shunterMachinesRow.holds Tryz.pinned (OpenSpec.ofChange shunterMachinesWrong)

/-- 'shuntertop.ShunterChat': WHATEVER THE INPUT: true; the input reads as it did. -/
def shunterChatSpec : ChangeSpec := { name := "shunterChat", fn := fun _ => fun
  | [d1, d2, d3, d4] => { results := [.lit (.bool true)], args := [d1, d2, d3, d4] }
  | _ => none }
def shunterChatRow : OpenClaim := { program := "ytnnlgknlialpmaagreat", sum := "9944845154843125a17553bba443a1335efe3a4f51b38be34c9dbdd7fcec87ca", func := "shunter/shuntertop.ShunterChat", spec := "shunterChat", unfollowed := true, recurses := true, apart := false }
def ShunterChatSaid : Prop := shunterChatRow.holds Tryz.pinned (OpenSpec.ofChange shunterChatSpec)

/-- ITS FALSE NEIGHBOUR: 'it returns false'. Refute it at one input. -/
def shunterChatWrong : ChangeSpec := { name := "shunterChat", fn := fun _ => fun
  | [d1, d2, d3, d4] => { results := [.lit (.bool false)], args := [d1, d2, d3, d4] }
  | _ => none }
def ShunterChatWrongFalsely : Prop := shunterChatRow.holds Tryz.pinned (OpenSpec.ofChange shunterChatWrong)

/-- 'shunterlaw20.TraceSeen': WHATEVER THE INPUT: true; the input reads as it did. -/
def traceSeenSpec : ChangeSpec := { name := "traceSeen", fn := fun _ => fun
  | [d1, d2, d3, d4] => { results := [.lit (.bool true)], args := [d1, d2, d3, d4] }
  | _ => none }
def traceSeenRow : OpenClaim := { program := "ytnnlgknlialpmaagreat", sum := "9944845154843125a17553bba443a1335efe3a4f51b38be34c9dbdd7fcec87ca", func := "shunter/shunterlaw20.TraceSeen", spec := "traceSeen", unfollowed := true, recurses := true, apart := false }
def TraceSeenSaid : Prop := traceSeenRow.holds Tryz.pinned (OpenSpec.ofChange traceSeenSpec)

/-- ITS FALSE NEIGHBOUR: 'it returns false'. Refute it at one input. -/
def traceSeenWrong : ChangeSpec := { name := "traceSeen", fn := fun _ => fun
  | [d1, d2, d3, d4] => { results := [.lit (.bool false)], args := [d1, d2, d3, d4] }
  | _ => none }
def TraceSeenWrongFalsely : Prop := traceSeenRow.holds Tryz.pinned (OpenSpec.ofChange traceSeenWrong)

/-- 'shunterlaw24.FairBound': WHATEVER THE INPUT: true; the input reads as it did. -/
def fairBoundSpec : ChangeSpec := { name := "fairBound", fn := fun _ => fun
  | [d1, d2, d3] => { results := [.lit (.bool true)], args := [d1, d2, d3] }
  | _ => none }
def fairBoundRow : OpenClaim := { program := "ytnnlgknlialpmaagreat", sum := "9944845154843125a17553bba443a1335efe3a4f51b38be34c9dbdd7fcec87ca", func := "shunter/shunterlaw24.FairBound", spec := "fairBound", unfollowed := true, recurses := true, apart := false }
def FairBoundSaid : Prop := fairBoundRow.holds Tryz.pinned (OpenSpec.ofChange fairBoundSpec)

/-- ITS FALSE NEIGHBOUR: 'it returns false'. Refute it at one input. -/
def fairBoundWrong : ChangeSpec := { name := "fairBound", fn := fun _ => fun
  | [d1, d2, d3] => { results := [.lit (.bool false)], args := [d1, d2, d3] }
  | _ => none }
def FairBoundWrongFalsely : Prop := fairBoundRow.holds Tryz.pinned (OpenSpec.ofChange fairBoundWrong)

/-- 'shunterlaw24.FairAny': WHATEVER THE INPUT: true; the input reads as it did. -/
def fairAnySpec : ChangeSpec := { name := "fairAny", fn := fun _ => fun
  | [d1, d2, d3] => { results := [.lit (.bool true)], args := [d1, d2, d3] }
  | _ => none }
def fairAnyRow : OpenClaim := { program := "ytnnlgknlialpmaagreat", sum := "9944845154843125a17553bba443a1335efe3a4f51b38be34c9dbdd7fcec87ca", func := "shunter/shunterlaw24.FairAny", spec := "fairAny", unfollowed := true, recurses := true, apart := false }
def FairAnySaid : Prop := fairAnyRow.holds Tryz.pinned (OpenSpec.ofChange fairAnySpec)

/-- ITS FALSE NEIGHBOUR: 'it returns false'. Refute it at one input. -/
def fairAnyWrong : ChangeSpec := { name := "fairAny", fn := fun _ => fun
  | [d1, d2, d3] => { results := [.lit (.bool false)], args := [d1, d2, d3] }
  | _ => none }
def FairAnyWrongFalsely : Prop := fairAnyRow.holds Tryz.pinned (OpenSpec.ofChange fairAnyWrong)

/-- 'shunterlaw19.SnapAlike': WHATEVER THE INPUT: true; the input reads as it did. -/
def snapAlikeSpec : ChangeSpec := { name := "snapAlike", fn := fun _ => fun
  | [d1, d2, d3] => { results := [.lit (.bool true)], args := [d1, d2, d3] }
  | _ => none }
def snapAlikeRow : OpenClaim := { program := "ytnnlgknlialpmaagreat", sum := "9944845154843125a17553bba443a1335efe3a4f51b38be34c9dbdd7fcec87ca", func := "shunter/shunterlaw19.SnapAlike", spec := "snapAlike", unfollowed := true, recurses := true, apart := false }
def SnapAlikeSaid : Prop := snapAlikeRow.holds Tryz.pinned (OpenSpec.ofChange snapAlikeSpec)

/-- ITS FALSE NEIGHBOUR: 'it returns false'. Refute it at one input. -/
def snapAlikeWrong : ChangeSpec := { name := "snapAlike", fn := fun _ => fun
  | [d1, d2, d3] => { results := [.lit (.bool false)], args := [d1, d2, d3] }
  | _ => none }
def SnapAlikeWrongFalsely : Prop := snapAlikeRow.holds Tryz.pinned (OpenSpec.ofChange snapAlikeWrong)

/-- 'shunterlaw21.TaperSums': WHATEVER THE INPUT: true; the input reads as it did. -/
def taperSumsSpec : ChangeSpec := { name := "taperSums", fn := fun _ => fun
  | [d1, d2, d3, d4] => { results := [.lit (.bool true)], args := [d1, d2, d3, d4] }
  | _ => none }
def taperSumsRow : OpenClaim := { program := "ytnnlgknlialpmaagreat", sum := "9944845154843125a17553bba443a1335efe3a4f51b38be34c9dbdd7fcec87ca", func := "shunter/shunterlaw21.TaperSums", spec := "taperSums", unfollowed := true, recurses := true, apart := false }
def TaperSumsSaid : Prop := taperSumsRow.holds Tryz.pinned (OpenSpec.ofChange taperSumsSpec)

/-- ITS FALSE NEIGHBOUR: 'it returns false'. Refute it at one input. -/
def taperSumsWrong : ChangeSpec := { name := "taperSums", fn := fun _ => fun
  | [d1, d2, d3, d4] => { results := [.lit (.bool false)], args := [d1, d2, d3, d4] }
  | _ => none }
def TaperSumsWrongFalsely : Prop := taperSumsRow.holds Tryz.pinned (OpenSpec.ofChange taperSumsWrong)

/-- 'shunterlaw22.ReplayTold': WHATEVER THE INPUT: true; the input reads as it did. -/
def replayToldSpec : ChangeSpec := { name := "replayTold", fn := fun _ => fun
  | [d1, d2] => { results := [.lit (.bool true)], args := [d1, d2] }
  | _ => none }
def replayToldRow : OpenClaim := { program := "ytnnlgknlialpmaagreat", sum := "9944845154843125a17553bba443a1335efe3a4f51b38be34c9dbdd7fcec87ca", func := "shunter/shunterlaw22.ReplayTold", spec := "replayTold", unfollowed := true, recurses := true, apart := false }
def ReplayToldSaid : Prop := replayToldRow.holds Tryz.pinned (OpenSpec.ofChange replayToldSpec)

/-- ITS FALSE NEIGHBOUR: 'it returns false'. Refute it at one input. -/
def replayToldWrong : ChangeSpec := { name := "replayTold", fn := fun _ => fun
  | [d1, d2] => { results := [.lit (.bool false)], args := [d1, d2] }
  | _ => none }
def ReplayToldWrongFalsely : Prop := replayToldRow.holds Tryz.pinned (OpenSpec.ofChange replayToldWrong)

/-- 'shunterlaw23.SalvageCommon': WHATEVER THE INPUT: true; the input reads as it did. -/
def salvageCommonSpec : ChangeSpec := { name := "salvageCommon", fn := fun _ => fun
  | [d1, d2] => { results := [.lit (.bool true)], args := [d1, d2] }
  | _ => none }
def salvageCommonRow : OpenClaim := { program := "ytnnlgknlialpmaagreat", sum := "9944845154843125a17553bba443a1335efe3a4f51b38be34c9dbdd7fcec87ca", func := "shunter/shunterlaw23.SalvageCommon", spec := "salvageCommon", unfollowed := true, recurses := true, apart := false }
def SalvageCommonSaid : Prop := salvageCommonRow.holds Tryz.pinned (OpenSpec.ofChange salvageCommonSpec)

/-- ITS FALSE NEIGHBOUR: 'it returns false'. Refute it at one input. -/
def salvageCommonWrong : ChangeSpec := { name := "salvageCommon", fn := fun _ => fun
  | [d1, d2] => { results := [.lit (.bool false)], args := [d1, d2] }
  | _ => none }
def SalvageCommonWrongFalsely : Prop := salvageCommonRow.holds Tryz.pinned (OpenSpec.ofChange salvageCommonWrong)

/- THE SECOND FORM. 'bulk': how many values and letters a reading holds, each counted each time it is reached (what is shared counts as often as it is met; a slice's spare places count too). A statement '..UptoSaid' is the law's where the arguments, and the package variables that the reading takes, are together of bulk at most 1048576: NARROWER than '..Said'. Prove '..Said' where nothing that the law and all that it calls make is longer than what came in: it says more and counts as full. Else prove '..UptoSaid'. A law counts once. -/
mutual
def uptoBulk {H : Type} : DataW H → Nat
  | .lit (.string bytes) => bytes.length + 1
  | .lit _ => 1
  | .nil => 1
  | .ptr d => uptoBulk d + 1
  | .slice elems spare => uptoBulkAll elems + uptoBulkAll spare + 1
  | .agg parts => uptoBulkAll parts + 1
  | .iface _ d => uptoBulk d + 1
  | .map entries => uptoBulkEntries entries + 1
  | .held _ => 1
def uptoBulkAll {H : Type} : List (DataW H) → Nat
  | [] => 0
  | d :: r => uptoBulk d + uptoBulkAll r
def uptoBulkEntries {H : Type} : List (Lit × DataW H) → Nat
  | [] => 0
  | x :: r => uptoBulkEntry x + uptoBulkEntries r
def uptoBulkEntry {H : Type} : Lit × DataW H → Nat
  | (.string bytes, d) => bytes.length + uptoBulk d + 1
  | (_, d) => uptoBulk d + 1
 end
def uptoSmall : (H : Type) → List (DataW H) → Bool := fun _ ds => decide (uptoBulkAll ds ≤ 1048576)
def OpenSpec.upto (s : _root_.Go.ChangeSpec) : _root_.Go.OpenSpec := { _root_.Go.OpenSpec.ofChange s with cond := some uptoSmall }

/-- 'shunterlaw18.SchedWakes', WHERE WHAT IT READS IS OF BULK AT MOST 1048576: true; the input reads as it did. -/
def schedWakesUptoRow : OpenClaim := { program := "ytnnlgknlialpmaagreat", sum := "9944845154843125a17553bba443a1335efe3a4f51b38be34c9dbdd7fcec87ca", func := "shunter/shunterlaw18.SchedWakes", spec := "schedWakes", unfollowed := true, recurses := true, apart := false, narrowed := true }
def SchedWakesUptoSaid : Prop := schedWakesUptoRow.holds Tryz.pinned (OpenSpec.upto schedWakesSpec)

/-- 'shuntertop.ShunterMachines', WHERE WHAT IT READS IS OF BULK AT MOST 1048576: true; the input reads as it did. -/
def shunterMachinesUptoRow : OpenClaim := { program := "ytnnlgknlialpmaagreat", sum := "9944845154843125a17553bba443a1335efe3a4f51b38be34c9dbdd7fcec87ca", func := "shunter/shuntertop.ShunterMachines", spec := "shunterMachines", unfollowed := true, recurses := true, apart := false, narrowed := true }
def ShunterMachinesUptoSaid : Prop := shunterMachinesUptoRow.holds Tryz.pinned (OpenSpec.upto shunterMachinesSpec)

/-- 'shuntertop.ShunterChat', WHERE WHAT IT READS IS OF BULK AT MOST 1048576: true; the input reads as it did. -/
def shunterChatUptoRow : OpenClaim := { program := "ytnnlgknlialpmaagreat", sum := "9944845154843125a17553bba443a1335efe3a4f51b38be34c9dbdd7fcec87ca", func := "shunter/shuntertop.ShunterChat", spec := "shunterChat", unfollowed := true, recurses := true, apart := false, narrowed := true }
def ShunterChatUptoSaid : Prop := shunterChatUptoRow.holds Tryz.pinned (OpenSpec.upto shunterChatSpec)

/-- 'shunterlaw20.TraceSeen', WHERE WHAT IT READS IS OF BULK AT MOST 1048576: true; the input reads as it did. -/
def traceSeenUptoRow : OpenClaim := { program := "ytnnlgknlialpmaagreat", sum := "9944845154843125a17553bba443a1335efe3a4f51b38be34c9dbdd7fcec87ca", func := "shunter/shunterlaw20.TraceSeen", spec := "traceSeen", unfollowed := true, recurses := true, apart := false, narrowed := true }
def TraceSeenUptoSaid : Prop := traceSeenUptoRow.holds Tryz.pinned (OpenSpec.upto traceSeenSpec)

/-- 'shunterlaw24.FairBound', WHERE WHAT IT READS IS OF BULK AT MOST 1048576: true; the input reads as it did. -/
def fairBoundUptoRow : OpenClaim := { program := "ytnnlgknlialpmaagreat", sum := "9944845154843125a17553bba443a1335efe3a4f51b38be34c9dbdd7fcec87ca", func := "shunter/shunterlaw24.FairBound", spec := "fairBound", unfollowed := true, recurses := true, apart := false, narrowed := true }
def FairBoundUptoSaid : Prop := fairBoundUptoRow.holds Tryz.pinned (OpenSpec.upto fairBoundSpec)

/-- 'shunterlaw24.FairAny', WHERE WHAT IT READS IS OF BULK AT MOST 1048576: true; the input reads as it did. -/
def fairAnyUptoRow : OpenClaim := { program := "ytnnlgknlialpmaagreat", sum := "9944845154843125a17553bba443a1335efe3a4f51b38be34c9dbdd7fcec87ca", func := "shunter/shunterlaw24.FairAny", spec := "fairAny", unfollowed := true, recurses := true, apart := false, narrowed := true }
def FairAnyUptoSaid : Prop := fairAnyUptoRow.holds Tryz.pinned (OpenSpec.upto fairAnySpec)

/-- 'shunterlaw19.SnapAlike', WHERE WHAT IT READS IS OF BULK AT MOST 1048576: true; the input reads as it did. -/
def snapAlikeUptoRow : OpenClaim := { program := "ytnnlgknlialpmaagreat", sum := "9944845154843125a17553bba443a1335efe3a4f51b38be34c9dbdd7fcec87ca", func := "shunter/shunterlaw19.SnapAlike", spec := "snapAlike", unfollowed := true, recurses := true, apart := false, narrowed := true }
def SnapAlikeUptoSaid : Prop := snapAlikeUptoRow.holds Tryz.pinned (OpenSpec.upto snapAlikeSpec)

/-- 'shunterlaw21.TaperSums', WHERE WHAT IT READS IS OF BULK AT MOST 1048576: true; the input reads as it did. -/
def taperSumsUptoRow : OpenClaim := { program := "ytnnlgknlialpmaagreat", sum := "9944845154843125a17553bba443a1335efe3a4f51b38be34c9dbdd7fcec87ca", func := "shunter/shunterlaw21.TaperSums", spec := "taperSums", unfollowed := true, recurses := true, apart := false, narrowed := true }
def TaperSumsUptoSaid : Prop := taperSumsUptoRow.holds Tryz.pinned (OpenSpec.upto taperSumsSpec)

/-- 'shunterlaw22.ReplayTold', WHERE WHAT IT READS IS OF BULK AT MOST 1048576: true; the input reads as it did. -/
def replayToldUptoRow : OpenClaim := { program := "ytnnlgknlialpmaagreat", sum := "9944845154843125a17553bba443a1335efe3a4f51b38be34c9dbdd7fcec87ca", func := "shunter/shunterlaw22.ReplayTold", spec := "replayTold", unfollowed := true, recurses := true, apart := false, narrowed := true }
def ReplayToldUptoSaid : Prop := replayToldUptoRow.holds Tryz.pinned (OpenSpec.upto replayToldSpec)

/-- 'shunterlaw23.SalvageCommon', WHERE WHAT IT READS IS OF BULK AT MOST 1048576: true; the input reads as it did. -/
def salvageCommonUptoRow : OpenClaim := { program := "ytnnlgknlialpmaagreat", sum := "9944845154843125a17553bba443a1335efe3a4f51b38be34c9dbdd7fcec87ca", func := "shunter/shunterlaw23.SalvageCommon", spec := "salvageCommon", unfollowed := true, recurses := true, apart := false, narrowed := true }
def SalvageCommonUptoSaid : Prop := salvageCommonUptoRow.holds Tryz.pinned (OpenSpec.upto salvageCommonSpec)

end Rows
end Go.Proofs.YtnnlgknlialpmaaGreat
