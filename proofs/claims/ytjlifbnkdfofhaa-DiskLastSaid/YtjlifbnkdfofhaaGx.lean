/- All walks of this seat. -/
import Derived.Test.YtjlifbnkdfofhaaGx3
