/- All of these. -/
import Derived.Test.YthemfgeagohdhaaWX0
import Derived.Test.YthemfgeagohdhaaWX1
set_option linter.unusedSimpArgs false
set_option linter.unusedVariables false
set_option linter.unusedSectionVars false
