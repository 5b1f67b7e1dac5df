/- All the walks of this claim. No text of its own. -/
import Derived.Test.YtjjjljlobfpbnaaGWalk5
set_option linter.all false
