-- Laid by xprint.py (this repo, wip/tools) over the translation of the seat Ytifalpoabgofkaa. Not trusted: Lean checks it.
import Derived.Test.YtifalpoabgofkaaGx0
import Derived.Test.YtifalpoabgofkaaGx1
import Derived.Test.YtifalpoabgofkaaGx2
import Derived.Test.YtifalpoabgofkaaGx3
import Derived.Test.YtifalpoabgofkaaGx4
import Derived.Test.YtifalpoabgofkaaGx5
import Derived.Test.YtifalpoabgofkaaGx6
import Derived.Test.YtifalpoabgofkaaGx7
import Derived.Test.YtifalpoabgofkaaGx8
import Derived.Test.YtifalpoabgofkaaGx9
import Derived.Test.YtifalpoabgofkaaGx10
namespace Go.Proofs.Ytifalpoabgofkaa.G
open Go.RowKit Go.Proofs.YtifalpoabgofkaaW.PrintWords Go.Proofs.YtifalpoabgofkaaW.PrintLast Go.Proofs.YtifalpoabgofkaaW.PrintMore
attribute [local go_sem] max2_int min2_int max_two min_two max_three min_three max_four min_four   -- for this text's walks alone
set_option linter.unusedVariables false
set_option linter.unusedSimpArgs false

end Go.Proofs.Ytifalpoabgofkaa.G
