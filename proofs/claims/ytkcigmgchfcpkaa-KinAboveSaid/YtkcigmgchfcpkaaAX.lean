/- All of these. -/
import Derived.Test.YtkcigmgchfcpkaaAX0
set_option linter.unusedSimpArgs false
set_option linter.unusedVariables false
set_option linter.unusedSectionVars false
