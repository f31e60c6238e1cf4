/- Contracts of functions of the program: what each call answers, and that nothing that was there has changed; written by a program of the session over the printer, or by hand; no condition beside those in each statement. -/
import Derived.Test.YtogekdbbgpaelaaPAllx0
import Derived.Test.YtogekdbbgpaelaaPAllx1
import Derived.Test.YtogekdbbgpaelaaPAllx2
import Derived.Test.YtogekdbbgpaelaaPAllx3
import Derived.Test.YtogekdbbgpaelaaPAllx4
import Derived.Test.YtogekdbbgpaelaaPAllx5
import Derived.Test.YtogekdbbgpaelaaPAllx6
import Derived.Test.YtogekdbbgpaelaaPAllx7
import Derived.Test.YtogekdbbgpaelaaPAllx8
namespace Go.Proofs.Ytogekdbbgpaelaa.PAll
open Go.RowKit Go.Proofs.YtogekdbbgpaelaaW.PrintWords Go.Proofs.YtogekdbbgpaelaaW.PrintLast Go.Proofs.YtogekdbbgpaelaaW.PrintMore
attribute [local go_sem] max2_int min2_int max_two min_two max_three min_three max_four min_four   -- for this text's walks alone
set_option linter.unusedVariables false
set_option linter.unusedSimpArgs false

end Go.Proofs.Ytogekdbbgpaelaa.PAll
