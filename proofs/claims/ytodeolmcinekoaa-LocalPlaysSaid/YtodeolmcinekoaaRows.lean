/-
  No cell of these rows narrows 'for every input' (looked for: loops, veiled, ifaces, maps, wideKeys, modest, calm, conditions, laid).
  DERIVED. THE GIVEN ROWS OF THIS SEAT. 15 by the template 'for every input the law returns true; each argument reads behind the call as it read before'; 0 by the template 'total and deterministic' (their statements: YtodeolmcinekoaaTotals.lean).
  GIVEN WITH THE SEED: the statements are not yours to turn. If you find one false, say at which input.
  Laid BY PROGRAM, IN A SANDBOX (cutbox-rows.mjs): the forced cells as the released guide's own fill.sh prints them over the translation a2637f8e2741dbd9… (all of the seat's roots in one cut). By AI agents, Wed Nov 11 2026. No macro, syntax, notation, axiom, sorry.
-/
import Derived.Test.YtodeolmcinekoaaChecked
import GoSem.Claim
import GoSem.ClaimJoined
import GoSem.ClaimMapViews
import Derived.JoinedTies
import Derived.KernelRfl
namespace Go.Proofs.Ytodeolmcinekoaa
/- THE CELL 'sum', in the pinned program and in every row, IS THE sha256 OF THE DUMP (.gsa) THAT YtodeolmcinekoaaProg.lean LOADS. Nothing in Lean hashes anything: it is a label: what it is worth is what the hold of that sum in a sandbox is worth. -/
noncomputable def Try.pinned : Pinned := { name := "ytodeolmcinekoaa", sum := "a2637f8e2741dbd9080e41abd8a8782e39675b075d9bee56053349d08a3f1697", checked := Try.checked }
namespace Rows
def none {H : Type} : Left H := { results := [], args := [] }

/-- 'shunterlaw24.FairWindows': WHATEVER THE INPUT: true; the input reads as it did. -/
def fairWindowsSpec : ChangeSpec := { name := "fairWindows", fn := fun _ => fun
  | [d1, d2, d3, d4, d5] => { results := [.lit (.bool true)], args := [d1, d2, d3, d4, d5] }
  | _ => none }
def fairWindowsRow : OpenClaim := { program := "ytodeolmcinekoaa", sum := "a2637f8e2741dbd9080e41abd8a8782e39675b075d9bee56053349d08a3f1697", func := "shunter/shunterlaw24.FairWindows", spec := "fairWindows", unfollowed := true, recurses := true, apart := false }
def FairWindowsSaid : Prop := fairWindowsRow.holds Try.pinned (OpenSpec.ofChange fairWindowsSpec)

/-- ITS FALSE NEIGHBOUR: 'it returns false'. Refute it at one input. -/
def fairWindowsWrong : ChangeSpec := { name := "fairWindows", fn := fun _ => fun
  | [d1, d2, d3, d4, d5] => { results := [.lit (.bool false)], args := [d1, d2, d3, d4, d5] }
  | _ => none }
def FairWindowsWrongFalsely : Prop := fairWindowsRow.holds Try.pinned (OpenSpec.ofChange fairWindowsWrong)

/-- 'shunterlaw24.FairCut': WHATEVER THE INPUT: true; the input reads as it did. -/
def fairCutSpec : ChangeSpec := { name := "fairCut", fn := fun _ => fun
  | [d1, d2] => { results := [.lit (.bool true)], args := [d1, d2] }
  | _ => none }
def fairCutRow : OpenClaim := { program := "ytodeolmcinekoaa", sum := "a2637f8e2741dbd9080e41abd8a8782e39675b075d9bee56053349d08a3f1697", func := "shunter/shunterlaw24.FairCut", spec := "fairCut", apart := false }
def FairCutSaid : Prop := fairCutRow.holds Try.pinned (OpenSpec.ofChange fairCutSpec)

/-- ITS FALSE NEIGHBOUR: 'it returns false'. Refute it at one input. -/
def fairCutWrong : ChangeSpec := { name := "fairCut", fn := fun _ => fun
  | [d1, d2] => { results := [.lit (.bool false)], args := [d1, d2] }
  | _ => none }
def FairCutWrongFalsely : Prop := fairCutRow.holds Try.pinned (OpenSpec.ofChange fairCutWrong)

/-- 'shunterlaw07.RingRound': WHATEVER THE INPUT: true; the input reads as it did. -/
def ringRoundSpec : ChangeSpec := { name := "ringRound", fn := fun _ => fun
  | [d1, d2] => { results := [.lit (.bool true)], args := [d1, d2] }
  | _ => none }
def ringRoundRow : OpenClaim := { program := "ytodeolmcinekoaa", sum := "a2637f8e2741dbd9080e41abd8a8782e39675b075d9bee56053349d08a3f1697", func := "shunter/shunterlaw07.RingRound", spec := "ringRound", apart := false }
def RingRoundSaid : Prop := ringRoundRow.holds Try.pinned (OpenSpec.ofChange ringRoundSpec)

/-- ITS FALSE NEIGHBOUR: 'it returns false'. Refute it at one input. -/
def ringRoundWrong : ChangeSpec := { name := "ringRound", fn := fun _ => fun
  | [d1, d2] => { results := [.lit (.bool false)], args := [d1, d2] }
  | _ => none }
def RingRoundWrongFalsely : Prop := ringRoundRow.holds Try.pinned (OpenSpec.ofChange ringRoundWrong)

/-- 'shunterlaw13.ChansMeet': WHATEVER THE INPUT: true; the input reads as it did. -/
def chansMeetSpec : ChangeSpec := { name := "chansMeet", fn := fun _ => fun
  | [d1, d2, d3] => { results := [.lit (.bool true)], args := [d1, d2, d3] }
  | _ => none }
def chansMeetRow : OpenClaim := { program := "ytodeolmcinekoaa", sum := "a2637f8e2741dbd9080e41abd8a8782e39675b075d9bee56053349d08a3f1697", func := "shunter/shunterlaw13.ChansMeet", spec := "chansMeet", apart := false }
def ChansMeetSaid : Prop := chansMeetRow.holds Try.pinned (OpenSpec.ofChange chansMeetSpec)

/-- ITS FALSE NEIGHBOUR: 'it returns false'. Refute it at one input. -/
def chansMeetWrong : ChangeSpec := { name := "chansMeet", fn := fun _ => fun
  | [d1, d2, d3] => { results := [.lit (.bool false)], args := [d1, d2, d3] }
  | _ => none }
def ChansMeetWrongFalsely : Prop := chansMeetRow.holds Try.pinned (OpenSpec.ofChange chansMeetWrong)

/-- 'shunterlaw07.RingPlays': WHATEVER THE INPUT: true; the input reads as it did. -/
def ringPlaysSpec : ChangeSpec := { name := "ringPlays", fn := fun _ => fun
  | [d1, d2] => { results := [.lit (.bool true)], args := [d1, d2] }
  | _ => none }
def ringPlaysRow : OpenClaim := { program := "ytodeolmcinekoaa", sum := "a2637f8e2741dbd9080e41abd8a8782e39675b075d9bee56053349d08a3f1697", func := "shunter/shunterlaw07.RingPlays", spec := "ringPlays", apart := false }
def RingPlaysSaid : Prop := ringPlaysRow.holds Try.pinned (OpenSpec.ofChange ringPlaysSpec)

/-- ITS FALSE NEIGHBOUR: 'it returns false'. Refute it at one input. -/
def ringPlaysWrong : ChangeSpec := { name := "ringPlays", fn := fun _ => fun
  | [d1, d2] => { results := [.lit (.bool false)], args := [d1, d2] }
  | _ => none }
def RingPlaysWrongFalsely : Prop := ringPlaysRow.holds Try.pinned (OpenSpec.ofChange ringPlaysWrong)

/-- 'shunterlaw07.RingHalves': WHATEVER THE INPUT: true; the input reads as it did. -/
def ringHalvesSpec : ChangeSpec := { name := "ringHalves", fn := fun _ => fun
  | [d1, d2] => { results := [.lit (.bool true)], args := [d1, d2] }
  | _ => none }
def ringHalvesRow : OpenClaim := { program := "ytodeolmcinekoaa", sum := "a2637f8e2741dbd9080e41abd8a8782e39675b075d9bee56053349d08a3f1697", func := "shunter/shunterlaw07.RingHalves", spec := "ringHalves", apart := false }
def RingHalvesSaid : Prop := ringHalvesRow.holds Try.pinned (OpenSpec.ofChange ringHalvesSpec)

/-- ITS FALSE NEIGHBOUR: 'it returns false'. Refute it at one input. -/
def ringHalvesWrong : ChangeSpec := { name := "ringHalves", fn := fun _ => fun
  | [d1, d2] => { results := [.lit (.bool false)], args := [d1, d2] }
  | _ => none }
def RingHalvesWrongFalsely : Prop := ringHalvesRow.holds Try.pinned (OpenSpec.ofChange ringHalvesWrong)

/-- 'shunterlaw13.ChansOrder': WHATEVER THE INPUT: true; the input reads as it did. -/
def chansOrderSpec : ChangeSpec := { name := "chansOrder", fn := fun _ => fun
  | [d1, d2] => { results := [.lit (.bool true)], args := [d1, d2] }
  | _ => none }
def chansOrderRow : OpenClaim := { program := "ytodeolmcinekoaa", sum := "a2637f8e2741dbd9080e41abd8a8782e39675b075d9bee56053349d08a3f1697", func := "shunter/shunterlaw13.ChansOrder", spec := "chansOrder", apart := false }
def ChansOrderSaid : Prop := chansOrderRow.holds Try.pinned (OpenSpec.ofChange chansOrderSpec)

/-- ITS FALSE NEIGHBOUR: 'it returns false'. Refute it at one input. -/
def chansOrderWrong : ChangeSpec := { name := "chansOrder", fn := fun _ => fun
  | [d1, d2] => { results := [.lit (.bool false)], args := [d1, d2] }
  | _ => none }
def ChansOrderWrongFalsely : Prop := chansOrderRow.holds Try.pinned (OpenSpec.ofChange chansOrderWrong)

/-- 'shunterlaw13.ChansDrain': WHATEVER THE INPUT: true; the input reads as it did. -/
def chansDrainSpec : ChangeSpec := { name := "chansDrain", fn := fun _ => fun
  | [d1, d2, d3] => { results := [.lit (.bool true)], args := [d1, d2, d3] }
  | _ => none }
def chansDrainRow : OpenClaim := { program := "ytodeolmcinekoaa", sum := "a2637f8e2741dbd9080e41abd8a8782e39675b075d9bee56053349d08a3f1697", func := "shunter/shunterlaw13.ChansDrain", spec := "chansDrain", apart := false }
def ChansDrainSaid : Prop := chansDrainRow.holds Try.pinned (OpenSpec.ofChange chansDrainSpec)

/-- ITS FALSE NEIGHBOUR: 'it returns false'. Refute it at one input. -/
def chansDrainWrong : ChangeSpec := { name := "chansDrain", fn := fun _ => fun
  | [d1, d2, d3] => { results := [.lit (.bool false)], args := [d1, d2, d3] }
  | _ => none }
def ChansDrainWrongFalsely : Prop := chansDrainRow.holds Try.pinned (OpenSpec.ofChange chansDrainWrong)

/-- 'shunterlaw19.SnapSums': WHATEVER THE INPUT: true; the input reads as it did. -/
def snapSumsSpec : ChangeSpec := { name := "snapSums", fn := fun _ => fun
  | [d] => { results := [.lit (.bool true)], args := [d] }
  | _ => none }
def snapSumsRow : OpenClaim := { program := "ytodeolmcinekoaa", sum := "a2637f8e2741dbd9080e41abd8a8782e39675b075d9bee56053349d08a3f1697", func := "shunter/shunterlaw19.SnapSums", spec := "snapSums", recurses := true, apart := false }
def SnapSumsSaid : Prop := snapSumsRow.holds Try.pinned (OpenSpec.ofChange snapSumsSpec)

/-- ITS FALSE NEIGHBOUR: 'it returns false'. Refute it at one input. -/
def snapSumsWrong : ChangeSpec := { name := "snapSums", fn := fun _ => fun
  | [d] => { results := [.lit (.bool false)], args := [d] }
  | _ => none }
def SnapSumsWrongFalsely : Prop := snapSumsRow.holds Try.pinned (OpenSpec.ofChange snapSumsWrong)

/-- 'shunterlaw13.ChansPlays': WHATEVER THE INPUT: true; the input reads as it did. -/
def chansPlaysSpec : ChangeSpec := { name := "chansPlays", fn := fun _ => fun
  | [d1, d2, d3] => { results := [.lit (.bool true)], args := [d1, d2, d3] }
  | _ => none }
def chansPlaysRow : OpenClaim := { program := "ytodeolmcinekoaa", sum := "a2637f8e2741dbd9080e41abd8a8782e39675b075d9bee56053349d08a3f1697", func := "shunter/shunterlaw13.ChansPlays", spec := "chansPlays", apart := false }
def ChansPlaysSaid : Prop := chansPlaysRow.holds Try.pinned (OpenSpec.ofChange chansPlaysSpec)

/-- ITS FALSE NEIGHBOUR: 'it returns false'. Refute it at one input. -/
def chansPlaysWrong : ChangeSpec := { name := "chansPlays", fn := fun _ => fun
  | [d1, d2, d3] => { results := [.lit (.bool false)], args := [d1, d2, d3] }
  | _ => none }
def ChansPlaysWrongFalsely : Prop := chansPlaysRow.holds Try.pinned (OpenSpec.ofChange chansPlaysWrong)

/-- 'shunterlaw08.LocalOrder': WHATEVER THE INPUT: true; the input reads as it did. -/
def localOrderSpec : ChangeSpec := { name := "localOrder", fn := fun _ => fun
  | [d1, d2] => { results := [.lit (.bool true)], args := [d1, d2] }
  | _ => none }
def localOrderRow : OpenClaim := { program := "ytodeolmcinekoaa", sum := "a2637f8e2741dbd9080e41abd8a8782e39675b075d9bee56053349d08a3f1697", func := "shunter/shunterlaw08.LocalOrder", spec := "localOrder", apart := false }
def LocalOrderSaid : Prop := localOrderRow.holds Try.pinned (OpenSpec.ofChange localOrderSpec)

/-- ITS FALSE NEIGHBOUR: 'it returns false'. Refute it at one input. -/
def localOrderWrong : ChangeSpec := { name := "localOrder", fn := fun _ => fun
  | [d1, d2] => { results := [.lit (.bool false)], args := [d1, d2] }
  | _ => none }
def LocalOrderWrongFalsely : Prop := localOrderRow.holds Try.pinned (OpenSpec.ofChange localOrderWrong)

/-- 'shunterlaw08.LocalSteals': WHATEVER THE INPUT: true; the input reads as it did. -/
def localStealsSpec : ChangeSpec := { name := "localSteals", fn := fun _ => fun
  | [d1, d2] => { results := [.lit (.bool true)], args := [d1, d2] }
  | _ => none }
def localStealsRow : OpenClaim := { program := "ytodeolmcinekoaa", sum := "a2637f8e2741dbd9080e41abd8a8782e39675b075d9bee56053349d08a3f1697", func := "shunter/shunterlaw08.LocalSteals", spec := "localSteals", apart := false }
def LocalStealsSaid : Prop := localStealsRow.holds Try.pinned (OpenSpec.ofChange localStealsSpec)

/-- ITS FALSE NEIGHBOUR: 'it returns false'. Refute it at one input. -/
def localStealsWrong : ChangeSpec := { name := "localSteals", fn := fun _ => fun
  | [d1, d2] => { results := [.lit (.bool false)], args := [d1, d2] }
  | _ => none }
def LocalStealsWrongFalsely : Prop := localStealsRow.holds Try.pinned (OpenSpec.ofChange localStealsWrong)

/-- 'shunterlaw15.PicksCases': WHATEVER THE INPUT: true; the input reads as it did. -/
def picksCasesSpec : ChangeSpec := { name := "picksCases", fn := fun _ => fun
  | [d1, d2, d3, d4, d5] => { results := [.lit (.bool true)], args := [d1, d2, d3, d4, d5] }
  | _ => none }
def picksCasesRow : OpenClaim := { program := "ytodeolmcinekoaa", sum := "a2637f8e2741dbd9080e41abd8a8782e39675b075d9bee56053349d08a3f1697", func := "shunter/shunterlaw15.PicksCases", spec := "picksCases", apart := false }
def PicksCasesSaid : Prop := picksCasesRow.holds Try.pinned (OpenSpec.ofChange picksCasesSpec)

/-- ITS FALSE NEIGHBOUR: 'it returns false'. Refute it at one input. -/
def picksCasesWrong : ChangeSpec := { name := "picksCases", fn := fun _ => fun
  | [d1, d2, d3, d4, d5] => { results := [.lit (.bool false)], args := [d1, d2, d3, d4, d5] }
  | _ => none }
def PicksCasesWrongFalsely : Prop := picksCasesRow.holds Try.pinned (OpenSpec.ofChange picksCasesWrong)

/-- 'shunterlaw08.LocalLost': WHATEVER THE INPUT: true; the input reads as it did. -/
def localLostSpec : ChangeSpec := { name := "localLost", fn := fun _ => fun
  | [d1, d2] => { results := [.lit (.bool true)], args := [d1, d2] }
  | _ => none }
def localLostRow : OpenClaim := { program := "ytodeolmcinekoaa", sum := "a2637f8e2741dbd9080e41abd8a8782e39675b075d9bee56053349d08a3f1697", func := "shunter/shunterlaw08.LocalLost", spec := "localLost", apart := false }
def LocalLostSaid : Prop := localLostRow.holds Try.pinned (OpenSpec.ofChange localLostSpec)

/-- ITS FALSE NEIGHBOUR: 'it returns false'. Refute it at one input. -/
def localLostWrong : ChangeSpec := { name := "localLost", fn := fun _ => fun
  | [d1, d2] => { results := [.lit (.bool false)], args := [d1, d2] }
  | _ => none }
def LocalLostWrongFalsely : Prop := localLostRow.holds Try.pinned (OpenSpec.ofChange localLostWrong)

/-- 'shunterlaw08.LocalPlays': WHATEVER THE INPUT: true; the input reads as it did. -/
def localPlaysSpec : ChangeSpec := { name := "localPlays", fn := fun _ => fun
  | [d1, d2] => { results := [.lit (.bool true)], args := [d1, d2] }
  | _ => none }
def localPlaysRow : OpenClaim := { program := "ytodeolmcinekoaa", sum := "a2637f8e2741dbd9080e41abd8a8782e39675b075d9bee56053349d08a3f1697", func := "shunter/shunterlaw08.LocalPlays", spec := "localPlays", apart := false }
def LocalPlaysSaid : Prop := localPlaysRow.holds Try.pinned (OpenSpec.ofChange localPlaysSpec)

/-- ITS FALSE NEIGHBOUR: 'it returns false'. Refute it at one input. -/
def localPlaysWrong : ChangeSpec := { name := "localPlays", fn := fun _ => fun
  | [d1, d2] => { results := [.lit (.bool false)], args := [d1, d2] }
  | _ => none }
def LocalPlaysWrongFalsely : Prop := localPlaysRow.holds Try.pinned (OpenSpec.ofChange localPlaysWrong)

/- THE SECOND FORM. 'bulk': how many values and letters a reading holds, each counted each time it is reached (what is shared counts as often as it is met; a slice's spare places count too). A statement '..UptoSaid' is the law's where the arguments, and the package variables that the reading takes, are together of bulk at most 1048576: NARROWER than '..Said'. Prove '..Said' where nothing that the law and all that it calls make is longer than what came in: it says more and counts as full. Else prove '..UptoSaid'. A law counts once. -/
mutual
def uptoBulk {H : Type} : DataW H → Nat
  | .lit (.string bytes) => bytes.length + 1
  | .lit _ => 1
  | .nil => 1
  | .ptr d => uptoBulk d + 1
  | .slice elems spare => uptoBulkAll elems + uptoBulkAll spare + 1
  | .agg parts => uptoBulkAll parts + 1
  | .iface _ d => uptoBulk d + 1
  | .map entries => uptoBulkEntries entries + 1
  | .held _ => 1
def uptoBulkAll {H : Type} : List (DataW H) → Nat
  | [] => 0
  | d :: r => uptoBulk d + uptoBulkAll r
def uptoBulkEntries {H : Type} : List (Lit × DataW H) → Nat
  | [] => 0
  | x :: r => uptoBulkEntry x + uptoBulkEntries r
def uptoBulkEntry {H : Type} : Lit × DataW H → Nat
  | (.string bytes, d) => bytes.length + uptoBulk d + 1
  | (_, d) => uptoBulk d + 1
 end
def uptoSmall : (H : Type) → List (DataW H) → Bool := fun _ ds => decide (uptoBulkAll ds ≤ 1048576)
def OpenSpec.upto (s : _root_.Go.ChangeSpec) : _root_.Go.OpenSpec := { _root_.Go.OpenSpec.ofChange s with cond := some uptoSmall }

/-- 'shunterlaw24.FairWindows', WHERE WHAT IT READS IS OF BULK AT MOST 1048576: true; the input reads as it did. -/
def fairWindowsUptoRow : OpenClaim := { program := "ytodeolmcinekoaa", sum := "a2637f8e2741dbd9080e41abd8a8782e39675b075d9bee56053349d08a3f1697", func := "shunter/shunterlaw24.FairWindows", spec := "fairWindows", unfollowed := true, recurses := true, apart := false, narrowed := true }
def FairWindowsUptoSaid : Prop := fairWindowsUptoRow.holds Try.pinned (OpenSpec.upto fairWindowsSpec)

/-- 'shunterlaw24.FairCut', WHERE WHAT IT READS IS OF BULK AT MOST 1048576: true; the input reads as it did. -/
def fairCutUptoRow : OpenClaim := { program := "ytodeolmcinekoaa", sum := "a2637f8e2741dbd9080e41abd8a8782e39675b075d9bee56053349d08a3f1697", func := "shunter/shunterlaw24.FairCut", spec := "fairCut", apart := false, narrowed := true }
def FairCutUptoSaid : Prop := fairCutUptoRow.holds Try.pinned (OpenSpec.upto fairCutSpec)

/-- 'shunterlaw07.RingRound', WHERE WHAT IT READS IS OF BULK AT MOST 1048576: true; the input reads as it did. -/
def ringRoundUptoRow : OpenClaim := { program := "ytodeolmcinekoaa", sum := "a2637f8e2741dbd9080e41abd8a8782e39675b075d9bee56053349d08a3f1697", func := "shunter/shunterlaw07.RingRound", spec := "ringRound", apart := false, narrowed := true }
def RingRoundUptoSaid : Prop := ringRoundUptoRow.holds Try.pinned (OpenSpec.upto ringRoundSpec)

/-- 'shunterlaw13.ChansMeet', WHERE WHAT IT READS IS OF BULK AT MOST 1048576: true; the input reads as it did. -/
def chansMeetUptoRow : OpenClaim := { program := "ytodeolmcinekoaa", sum := "a2637f8e2741dbd9080e41abd8a8782e39675b075d9bee56053349d08a3f1697", func := "shunter/shunterlaw13.ChansMeet", spec := "chansMeet", apart := false, narrowed := true }
def ChansMeetUptoSaid : Prop := chansMeetUptoRow.holds Try.pinned (OpenSpec.upto chansMeetSpec)

/-- 'shunterlaw07.RingPlays', WHERE WHAT IT READS IS OF BULK AT MOST 1048576: true; the input reads as it did. -/
def ringPlaysUptoRow : OpenClaim := { program := "ytodeolmcinekoaa", sum := "a2637f8e2741dbd9080e41abd8a8782e39675b075d9bee56053349d08a3f1697", func := "shunter/shunterlaw07.RingPlays", spec := "ringPlays", apart := false, narrowed := true }
def RingPlaysUptoSaid : Prop := ringPlaysUptoRow.holds Try.pinned (OpenSpec.upto ringPlaysSpec)

/-- 'shunterlaw07.RingHalves', WHERE WHAT IT READS IS OF BULK AT MOST 1048576: true; the input reads as it did. -/
def ringHalvesUptoRow : OpenClaim := { program := "ytodeolmcinekoaa", sum := "a2637f8e2741dbd9080e41abd8a8782e39675b075d9bee56053349d08a3f1697", func := "shunter/shunterlaw07.RingHalves", spec := "ringHalves", apart := false, narrowed := true }
def RingHalvesUptoSaid : Prop := ringHalvesUptoRow.holds Try.pinned (OpenSpec.upto ringHalvesSpec)

/-- 'shunterlaw13.ChansOrder', WHERE WHAT IT READS IS OF BULK AT MOST 1048576: true; the input reads as it did. -/
def chansOrderUptoRow : OpenClaim := { program := "ytodeolmcinekoaa", sum := "a2637f8e2741dbd9080e41abd8a8782e39675b075d9bee56053349d08a3f1697", func := "shunter/shunterlaw13.ChansOrder", spec := "chansOrder", apart := false, narrowed := true }
def ChansOrderUptoSaid : Prop := chansOrderUptoRow.holds Try.pinned (OpenSpec.upto chansOrderSpec)

/-- 'shunterlaw13.ChansDrain', WHERE WHAT IT READS IS OF BULK AT MOST 1048576: true; the input reads as it did. -/
def chansDrainUptoRow : OpenClaim := { program := "ytodeolmcinekoaa", sum := "a2637f8e2741dbd9080e41abd8a8782e39675b075d9bee56053349d08a3f1697", func := "shunter/shunterlaw13.ChansDrain", spec := "chansDrain", apart := false, narrowed := true }
def ChansDrainUptoSaid : Prop := chansDrainUptoRow.holds Try.pinned (OpenSpec.upto chansDrainSpec)

/-- 'shunterlaw19.SnapSums', WHERE WHAT IT READS IS OF BULK AT MOST 1048576: true; the input reads as it did. -/
def snapSumsUptoRow : OpenClaim := { program := "ytodeolmcinekoaa", sum := "a2637f8e2741dbd9080e41abd8a8782e39675b075d9bee56053349d08a3f1697", func := "shunter/shunterlaw19.SnapSums", spec := "snapSums", recurses := true, apart := false, narrowed := true }
def SnapSumsUptoSaid : Prop := snapSumsUptoRow.holds Try.pinned (OpenSpec.upto snapSumsSpec)

/-- 'shunterlaw13.ChansPlays', WHERE WHAT IT READS IS OF BULK AT MOST 1048576: true; the input reads as it did. -/
def chansPlaysUptoRow : OpenClaim := { program := "ytodeolmcinekoaa", sum := "a2637f8e2741dbd9080e41abd8a8782e39675b075d9bee56053349d08a3f1697", func := "shunter/shunterlaw13.ChansPlays", spec := "chansPlays", apart := false, narrowed := true }
def ChansPlaysUptoSaid : Prop := chansPlaysUptoRow.holds Try.pinned (OpenSpec.upto chansPlaysSpec)

/-- 'shunterlaw08.LocalOrder', WHERE WHAT IT READS IS OF BULK AT MOST 1048576: true; the input reads as it did. -/
def localOrderUptoRow : OpenClaim := { program := "ytodeolmcinekoaa", sum := "a2637f8e2741dbd9080e41abd8a8782e39675b075d9bee56053349d08a3f1697", func := "shunter/shunterlaw08.LocalOrder", spec := "localOrder", apart := false, narrowed := true }
def LocalOrderUptoSaid : Prop := localOrderUptoRow.holds Try.pinned (OpenSpec.upto localOrderSpec)

/-- 'shunterlaw08.LocalSteals', WHERE WHAT IT READS IS OF BULK AT MOST 1048576: true; the input reads as it did. -/
def localStealsUptoRow : OpenClaim := { program := "ytodeolmcinekoaa", sum := "a2637f8e2741dbd9080e41abd8a8782e39675b075d9bee56053349d08a3f1697", func := "shunter/shunterlaw08.LocalSteals", spec := "localSteals", apart := false, narrowed := true }
def LocalStealsUptoSaid : Prop := localStealsUptoRow.holds Try.pinned (OpenSpec.upto localStealsSpec)

/-- 'shunterlaw15.PicksCases', WHERE WHAT IT READS IS OF BULK AT MOST 1048576: true; the input reads as it did. -/
def picksCasesUptoRow : OpenClaim := { program := "ytodeolmcinekoaa", sum := "a2637f8e2741dbd9080e41abd8a8782e39675b075d9bee56053349d08a3f1697", func := "shunter/shunterlaw15.PicksCases", spec := "picksCases", apart := false, narrowed := true }
def PicksCasesUptoSaid : Prop := picksCasesUptoRow.holds Try.pinned (OpenSpec.upto picksCasesSpec)

/-- 'shunterlaw08.LocalLost', WHERE WHAT IT READS IS OF BULK AT MOST 1048576: true; the input reads as it did. -/
def localLostUptoRow : OpenClaim := { program := "ytodeolmcinekoaa", sum := "a2637f8e2741dbd9080e41abd8a8782e39675b075d9bee56053349d08a3f1697", func := "shunter/shunterlaw08.LocalLost", spec := "localLost", apart := false, narrowed := true }
def LocalLostUptoSaid : Prop := localLostUptoRow.holds Try.pinned (OpenSpec.upto localLostSpec)

/-- 'shunterlaw08.LocalPlays', WHERE WHAT IT READS IS OF BULK AT MOST 1048576: true; the input reads as it did. -/
def localPlaysUptoRow : OpenClaim := { program := "ytodeolmcinekoaa", sum := "a2637f8e2741dbd9080e41abd8a8782e39675b075d9bee56053349d08a3f1697", func := "shunter/shunterlaw08.LocalPlays", spec := "localPlays", apart := false, narrowed := true }
def LocalPlaysUptoSaid : Prop := localPlaysUptoRow.holds Try.pinned (OpenSpec.upto localPlaysSpec)

end Rows
end Go.Proofs.Ytodeolmcinekoaa
