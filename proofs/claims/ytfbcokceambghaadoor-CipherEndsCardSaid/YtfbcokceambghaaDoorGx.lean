/- All walks of this seat. -/
import Derived.Test.YtfbcokceambghaaDoorGx3
