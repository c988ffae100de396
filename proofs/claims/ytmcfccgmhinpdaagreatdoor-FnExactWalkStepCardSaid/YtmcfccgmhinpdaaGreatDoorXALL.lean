/- All printed functions. -/
import Derived.Test.YtmcfccgmhinpdaaGreatDoorX0
