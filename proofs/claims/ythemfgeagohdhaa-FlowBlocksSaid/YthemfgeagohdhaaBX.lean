/- All of these. -/
import Derived.Test.YthemfgeagohdhaaBX0
import Derived.Test.YthemfgeagohdhaaBX1
set_option linter.unusedSimpArgs false
set_option linter.unusedVariables false
set_option linter.unusedSectionVars false
