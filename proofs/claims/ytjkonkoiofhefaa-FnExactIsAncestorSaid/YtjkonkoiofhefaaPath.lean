/-
  The walk of the law FnExactValidPath: it returns true.
  No condition but those of the law's own text.
-/
import Derived.Test.YtjkonkoiofhefaaProg
import Derived.Test.YtjkonkoiofhefaaMem
import Derived.Test.YtjkonkoiofhefaaBasic
import Derived.Test.YtjkonkoiofhefaaAllk
import Derived.Test.YtjkonkoiofhefaaInts
import Derived.Handy
namespace Go.Proofs.Ytjkonkoiofhefaa
open Go.RowKit
set_option linter.unusedVariables false


end Go.Proofs.Ytjkonkoiofhefaa
