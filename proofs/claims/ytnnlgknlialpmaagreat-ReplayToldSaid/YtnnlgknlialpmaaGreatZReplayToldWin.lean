/- A part of proofs about one program. -/
import Derived.Test.YtnnlgknlialpmaaGreatZReplayToldLib
set_option linter.unusedVariables false

