/- All of these. -/
import Derived.Test.YtgbajicpokolcaaCX0
import Derived.Test.YtgbajicpokolcaaCX1
set_option linter.unusedSimpArgs false
set_option linter.unusedVariables false
set_option linter.unusedSectionVars false
