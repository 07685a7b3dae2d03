/- All walks of this seat. -/
import Derived.Test.YtbanecjdkphooaaDoorGx3
