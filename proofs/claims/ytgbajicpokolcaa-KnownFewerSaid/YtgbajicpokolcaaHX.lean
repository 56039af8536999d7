/- All of these. -/
import Derived.Test.YtgbajicpokolcaaHX0
import Derived.Test.YtgbajicpokolcaaHX1
set_option linter.unusedSimpArgs false
set_option linter.unusedVariables false
set_option linter.unusedSectionVars false
