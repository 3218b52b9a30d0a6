-- Written by a program of this session (wip/tools/xprint.py, over the kit's print)
import Derived.Test.YtgjbdheekjjaeaaX1x0
import Derived.Test.YtgjbdheekjjaeaaX1x1
import Derived.Test.YtgjbdheekjjaeaaX1x2
import Derived.Test.YtgjbdheekjjaeaaX1x3
import Derived.Test.YtgjbdheekjjaeaaX1x4
import Derived.Test.YtgjbdheekjjaeaaX1x5
import Derived.Test.YtgjbdheekjjaeaaX1x6
namespace Go.Proofs.Ytgjbdheekjjaeaa.X1
open Go.RowKit Go.Proofs.YtgjbdheekjjaeaaW.PrintWords Go.Proofs.YtgjbdheekjjaeaaW.PrintLast Go.Proofs.YtgjbdheekjjaeaaW.PrintMore
attribute [local go_sem] max2_int min2_int max_two min_two max_three min_three max_four min_four   -- for this text's walks alone
set_option linter.unusedVariables false
set_option linter.unusedSimpArgs false

end Go.Proofs.Ytgjbdheekjjaeaa.X1
