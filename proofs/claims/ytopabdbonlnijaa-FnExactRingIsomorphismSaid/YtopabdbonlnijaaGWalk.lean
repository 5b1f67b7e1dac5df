/- All the walks of this claim. No text of its own. -/
import Derived.Test.YtopabdbonlnijaaGWalk6
set_option linter.all false
