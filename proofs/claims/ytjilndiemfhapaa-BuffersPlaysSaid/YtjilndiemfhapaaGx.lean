/- All walks of this seat. -/
import Derived.Test.YtjilndiemfhapaaGx3
