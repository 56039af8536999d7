/- All of these. -/
import Derived.Test.YtgbajicpokolcaaFX0
import Derived.Test.YtgbajicpokolcaaFX1
set_option linter.unusedSimpArgs false
set_option linter.unusedVariables false
set_option linter.unusedSectionVars false
