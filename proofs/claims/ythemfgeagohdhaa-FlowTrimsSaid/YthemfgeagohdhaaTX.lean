/- All of these. -/
import Derived.Test.YthemfgeagohdhaaTX0
import Derived.Test.YthemfgeagohdhaaTX1
set_option linter.unusedSimpArgs false
set_option linter.unusedVariables false
set_option linter.unusedSectionVars false
