/- All walks of this seat. -/
import Derived.Test.YtlmbhggkahehjaaDoorGx3
