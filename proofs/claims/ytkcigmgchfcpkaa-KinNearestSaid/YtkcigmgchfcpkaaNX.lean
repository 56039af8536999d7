/- All of these. -/
import Derived.Test.YtkcigmgchfcpkaaNX0
set_option linter.unusedSimpArgs false
set_option linter.unusedVariables false
set_option linter.unusedSectionVars false
