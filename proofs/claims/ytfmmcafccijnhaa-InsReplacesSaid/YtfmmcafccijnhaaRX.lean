/- All of these. -/
import Derived.Test.YtfmmcafccijnhaaRX0
