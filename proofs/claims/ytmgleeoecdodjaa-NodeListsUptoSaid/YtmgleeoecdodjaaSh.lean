/- All printed conditions. Conditions: none. -/
import Derived.Test.YtmgleeoecdodjaaShA
import Derived.Test.YtmgleeoecdodjaaShB
import Derived.Test.YtmgleeoecdodjaaShC
import Derived.Test.YtmgleeoecdodjaaShD
