/- A part of proofs about one program. -/
import Derived.Test.YtnnlgknlialpmaaGreatZTraceSeenLib
set_option linter.unusedVariables false

