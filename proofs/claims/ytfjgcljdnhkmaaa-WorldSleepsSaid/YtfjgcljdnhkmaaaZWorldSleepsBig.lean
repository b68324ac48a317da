/- A part of proofs about one program. -/
import Derived.Test.YtfjgcljdnhkmaaaZWorldSleepsRow
set_option linter.unusedVariables false

