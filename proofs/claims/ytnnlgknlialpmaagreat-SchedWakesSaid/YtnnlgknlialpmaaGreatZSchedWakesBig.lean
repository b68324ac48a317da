/- A part of proofs about one program. -/
import Derived.Test.YtnnlgknlialpmaaGreatZSchedWakesRow
set_option linter.unusedVariables false

