-- Written by a program of this session (wip/tools/xprint.py, over the kit's print)
import Derived.Test.YtgjbdheekjjaeaaDoorX3x0
import Derived.Test.YtgjbdheekjjaeaaDoorX3x1
import Derived.Test.YtgjbdheekjjaeaaDoorX3x2
import Derived.Test.YtgjbdheekjjaeaaDoorX3x3
import Derived.Test.YtgjbdheekjjaeaaDoorX3x4
import Derived.Test.YtgjbdheekjjaeaaDoorX3x5
import Derived.Test.YtgjbdheekjjaeaaDoorX3x6
import Derived.Test.YtgjbdheekjjaeaaDoorX3x7
import Derived.Test.YtgjbdheekjjaeaaDoorX3x8
namespace Go.Proofs.YtgjbdheekjjaeaaDoor.X3
open Go.RowKit Go.Proofs.YtgjbdheekjjaeaaDoorW.PrintWords Go.Proofs.YtgjbdheekjjaeaaDoorW.PrintLast Go.Proofs.YtgjbdheekjjaeaaDoorW.PrintMore
attribute [local go_sem] max2_int min2_int max_two min_two max_three min_three max_four min_four   -- for this text's walks alone
set_option linter.unusedVariables false
set_option linter.unusedSimpArgs false

end Go.Proofs.YtgjbdheekjjaeaaDoor.X3
