/- All of these. -/
import Derived.Test.YtgbajicpokolcaaNX0
import Derived.Test.YtgbajicpokolcaaNX1
set_option linter.unusedSimpArgs false
set_option linter.unusedVariables false
set_option linter.unusedSectionVars false
