/- All printed functions. -/
import Derived.Test.YtfolgfbhllmdiaaDoorX0
