/- What the arguments of ch 09 fit in. -/
import Derived.Test.YtcpkhaebcmgehaaGreatDoorTgMore
import Derived.Test.YtcpkhaebcmgehaaGreatDoorKeyAwake
import Derived.Test.YtcpkhaebcmgehaaGreatDoorRgGraph
import Derived.Test.YtcpkhaebcmgehaaGreatDoorFew
