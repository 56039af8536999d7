/- All of these. -/
import Derived.Test.YtgbajicpokolcaaGX0
import Derived.Test.YtgbajicpokolcaaGX1
set_option linter.unusedSimpArgs false
set_option linter.unusedVariables false
set_option linter.unusedSectionVars false
