/- A part of proofs about one program. -/
import Derived.Test.YtfjgcljdnhkmaaaGreatZWorldDryDefer
set_option linter.unusedVariables false

