/- All walks of this seat. -/
import Derived.Test.YtmhcjafkdmcgoaaDoorGx5
