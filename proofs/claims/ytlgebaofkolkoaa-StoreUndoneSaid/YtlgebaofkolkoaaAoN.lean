/- The abstract machine. -/
import Derived.Test.YtlgebaofkolkoaaAoM
set_option linter.unusedSimpArgs false
set_option linter.unusedVariables false
set_option linter.defProp false
namespace Go.Am
open Go
end Go.Am
