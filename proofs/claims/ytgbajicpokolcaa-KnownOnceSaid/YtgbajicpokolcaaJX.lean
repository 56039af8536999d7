/- All of these. -/
import Derived.Test.YtgbajicpokolcaaJX0
import Derived.Test.YtgbajicpokolcaaJX1
set_option linter.unusedSimpArgs false
set_option linter.unusedVariables false
set_option linter.unusedSectionVars false
