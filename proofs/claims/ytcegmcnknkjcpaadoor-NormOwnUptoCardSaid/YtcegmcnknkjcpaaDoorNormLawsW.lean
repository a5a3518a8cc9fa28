/- What the shells of the laws on normal asks import. Conditions: none. -/
import Derived.Test.YtcegmcnknkjcpaaDoorNormOnceW
import Derived.Test.YtcegmcnknkjcpaaDoorAskArg
import Derived.Test.YtcegmcnknkjcpaaDoorNormTurnedW
import Derived.Test.YtcegmcnknkjcpaaDoorNormOwnW
