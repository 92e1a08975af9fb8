/- Regions that draw their order lie in the walk's own machine now. No condition. -/
import Derived.Test.YthggoibbkloefaaSlX
