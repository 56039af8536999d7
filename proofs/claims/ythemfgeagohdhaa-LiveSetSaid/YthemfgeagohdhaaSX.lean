/- All of these. -/
import Derived.Test.YthemfgeagohdhaaSX0
import Derived.Test.YthemfgeagohdhaaSX1
set_option linter.unusedSimpArgs false
set_option linter.unusedVariables false
set_option linter.unusedSectionVars false
