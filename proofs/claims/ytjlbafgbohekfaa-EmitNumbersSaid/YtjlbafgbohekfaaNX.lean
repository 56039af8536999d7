/- All of these. -/
import Derived.Test.YtjlbafgbohekfaaNX0
import Derived.Test.YtjlbafgbohekfaaNX1
set_option linter.unusedSimpArgs false
set_option linter.unusedVariables false
set_option linter.unusedSectionVars false
