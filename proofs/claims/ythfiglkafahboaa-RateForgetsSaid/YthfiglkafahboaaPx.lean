-- Laid by a program of this session (myprint.py).
import Derived.Test.YthfiglkafahboaaPx0
import Derived.Test.YthfiglkafahboaaPx1
import Derived.Test.YthfiglkafahboaaPx2
import Derived.Test.YthfiglkafahboaaPx3
import Derived.Test.YthfiglkafahboaaPx4
namespace Go.Proofs.Ythfiglkafahboaa.P
open Go.RowKit Go.Proofs.YthfiglkafahboaaW.PrintWords Go.Proofs.YthfiglkafahboaaW.PrintLast Go.Proofs.YthfiglkafahboaaW.PrintMore
attribute [local go_sem] max2_int min2_int max_two min_two max_three min_three max_four min_four   -- for this text's walks alone
set_option linter.unusedVariables false
set_option linter.unusedSimpArgs false

end Go.Proofs.Ythfiglkafahboaa.P
