/- All of these. -/
import Derived.Test.YthemfgeagohdhaaVX0
import Derived.Test.YthemfgeagohdhaaVX1
set_option linter.unusedSimpArgs false
set_option linter.unusedVariables false
set_option linter.unusedSectionVars false
