/- tallymanref's Part and Right, for a seat that reaches no strconv.Atoi (elsewhere: RpS, RnR). -/
import Derived.Test.YtpbbbiifeihkaaaGreatDoorPartI
import Derived.Test.YtpbbbiifeihkaaaGreatDoorRnRi
