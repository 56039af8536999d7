/- All of these. -/
import Derived.Test.YtfmmcafccijnhaaCX0
import Derived.Test.YtfmmcafccijnhaaCX1
