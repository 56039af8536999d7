/- All of these. -/
import Derived.Test.YtgbajicpokolcaaLX0
import Derived.Test.YtgbajicpokolcaaLX1
set_option linter.unusedSimpArgs false
set_option linter.unusedVariables false
set_option linter.unusedSectionVars false
