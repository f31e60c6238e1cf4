/- Contracts of functions of the program: what each call answers, and that nothing that was there has changed; written by a program of the session over the printer, or by hand; no condition beside those in each statement. -/
import Derived.Test.YtkndjjceijfdgaaPAllx0
import Derived.Test.YtkndjjceijfdgaaPAllx1
import Derived.Test.YtkndjjceijfdgaaPAllx2
import Derived.Test.YtkndjjceijfdgaaPAllx3
namespace Go.Proofs.Ytkndjjceijfdgaa.PAll
open Go.RowKit Go.Proofs.YtkndjjceijfdgaaW.PrintWords Go.Proofs.YtkndjjceijfdgaaW.PrintLast Go.Proofs.YtkndjjceijfdgaaW.PrintMore
attribute [local go_sem] max2_int min2_int max_two min_two max_three min_three max_four min_four   -- for this text's walks alone
set_option linter.unusedVariables false
set_option linter.unusedSimpArgs false

end Go.Proofs.Ytkndjjceijfdgaa.PAll
