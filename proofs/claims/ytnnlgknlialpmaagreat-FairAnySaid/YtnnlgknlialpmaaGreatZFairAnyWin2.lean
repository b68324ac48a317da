/- A part of proofs about one program. -/
import Derived.Test.YtnnlgknlialpmaaGreatZFairAnyWin
set_option linter.unusedVariables false

