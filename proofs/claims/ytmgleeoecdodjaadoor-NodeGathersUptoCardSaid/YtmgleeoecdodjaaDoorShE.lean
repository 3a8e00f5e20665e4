/- The conditions of the functions of this seat, together. Conditions: none. -/
import Derived.Test.YtmgleeoecdodjaaDoorSh
