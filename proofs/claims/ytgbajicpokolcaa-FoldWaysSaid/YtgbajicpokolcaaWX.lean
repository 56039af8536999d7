/- All of these. -/
import Derived.Test.YtgbajicpokolcaaWX0
import Derived.Test.YtgbajicpokolcaaWX1
set_option linter.unusedSimpArgs false
set_option linter.unusedVariables false
set_option linter.unusedSectionVars false
