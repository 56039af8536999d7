/- All of these. -/
import Derived.Test.YthemfgeagohdhaaTX0
import Derived.Test.YthemfgeagohdhaaTX1
