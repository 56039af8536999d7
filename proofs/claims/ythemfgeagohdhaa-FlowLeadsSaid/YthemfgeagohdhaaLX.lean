/- All of these. -/
import Derived.Test.YthemfgeagohdhaaLX0
