/- All of these. -/
import Derived.Test.YthemfgeagohdhaaPX0
import Derived.Test.YthemfgeagohdhaaPX1
set_option linter.unusedSimpArgs false
set_option linter.unusedVariables false
set_option linter.unusedSectionVars false
