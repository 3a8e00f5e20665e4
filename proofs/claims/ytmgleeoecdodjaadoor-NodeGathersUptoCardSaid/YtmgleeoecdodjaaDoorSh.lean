/- The conditions of the functions of this seat, together. Conditions: none. -/
import Derived.Test.YtmgleeoecdodjaaDoorShA
import Derived.Test.YtmgleeoecdodjaaDoorShB
import Derived.Test.YtmgleeoecdodjaaDoorShC
import Derived.Test.YtmgleeoecdodjaaDoorShD
