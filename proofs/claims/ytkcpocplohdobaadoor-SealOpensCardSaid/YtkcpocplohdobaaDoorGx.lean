/- All walks of this seat. -/
import Derived.Test.YtkcpocplohdobaaDoorGx4
