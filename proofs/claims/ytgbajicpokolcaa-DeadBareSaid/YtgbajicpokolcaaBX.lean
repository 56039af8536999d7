/- All of these. -/
import Derived.Test.YtgbajicpokolcaaBX0
import Derived.Test.YtgbajicpokolcaaBX1
set_option linter.unusedSimpArgs false
set_option linter.unusedVariables false
set_option linter.unusedSectionVars false
