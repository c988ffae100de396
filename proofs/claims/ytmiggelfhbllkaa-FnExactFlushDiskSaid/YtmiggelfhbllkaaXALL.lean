/- All printed functions. -/
import Derived.Test.YtmiggelfhbllkaaX0
