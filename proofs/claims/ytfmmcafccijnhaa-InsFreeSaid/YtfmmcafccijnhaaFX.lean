/- All of these. -/
import Derived.Test.YtfmmcafccijnhaaFX0
set_option linter.unusedSimpArgs false
set_option linter.unusedVariables false
set_option linter.unusedSectionVars false
