/- All printed functions. -/
import Derived.Test.YtfolgfbhllmdiaaGreatDoorX0
