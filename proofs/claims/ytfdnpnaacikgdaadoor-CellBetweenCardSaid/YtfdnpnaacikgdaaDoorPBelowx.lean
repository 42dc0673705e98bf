/- Printed by this session's own run of the print. -/
import Derived.Test.YtfdnpnaacikgdaaDoorPBelowx0
import Derived.Test.YtfdnpnaacikgdaaDoorPBelowx1
namespace Go.Proofs.YtfdnpnaacikgdaaDoor.PBelow
open Go.RowKit Go.Proofs.YtfdnpnaacikgdaaDoorW.PrintWords Go.Proofs.YtfdnpnaacikgdaaDoorW.PrintLast Go.Proofs.YtfdnpnaacikgdaaDoorW.PrintMore
attribute [local go_sem] max2_int min2_int max_two min_two max_three min_three max_four min_four   -- for this text's walks alone
set_option linter.unusedVariables false
set_option linter.unusedSimpArgs false

end Go.Proofs.YtfdnpnaacikgdaaDoor.PBelow
