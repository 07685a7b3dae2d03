/- All walks of this seat. -/
import Derived.Test.YtekpnjhacnkgcaaDoorGx5
