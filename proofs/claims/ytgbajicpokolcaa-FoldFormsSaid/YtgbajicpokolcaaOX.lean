/- All of these. -/
import Derived.Test.YtgbajicpokolcaaOX0
import Derived.Test.YtgbajicpokolcaaOX1
set_option linter.unusedSimpArgs false
set_option linter.unusedVariables false
set_option linter.unusedSectionVars false
