/- All of these. -/
import Derived.Test.YtgbajicpokolcaaKX0
import Derived.Test.YtgbajicpokolcaaKX1
set_option linter.unusedSimpArgs false
set_option linter.unusedVariables false
set_option linter.unusedSectionVars false
