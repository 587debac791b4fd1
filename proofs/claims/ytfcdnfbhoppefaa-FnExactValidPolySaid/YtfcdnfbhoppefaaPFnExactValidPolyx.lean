-- Contracts of the functions that one law reaches, written by a program of this session.
import Derived.Test.YtfcdnfbhoppefaaPFnExactValidPolyx0
import Derived.Test.YtfcdnfbhoppefaaPFnExactValidPolyx1
import Derived.Test.YtfcdnfbhoppefaaPFnExactValidPolyx2
import Derived.Test.YtfcdnfbhoppefaaPFnExactValidPolyx3
import Derived.Test.YtfcdnfbhoppefaaPFnExactValidPolyx4
import Derived.Test.YtfcdnfbhoppefaaPFnExactValidPolyx5
namespace Go.Proofs.Ytfcdnfbhoppefaa.PFnExactValidPoly
open Go.RowKit Go.Proofs.YtfcdnfbhoppefaaW.PrintWords Go.Proofs.YtfcdnfbhoppefaaW.PrintLast Go.Proofs.YtfcdnfbhoppefaaW.PrintMore
attribute [local go_sem] max2_int min2_int max_two min_two max_three min_three max_four min_four   -- for this text's walks alone
set_option linter.unusedVariables false
set_option linter.unusedSimpArgs false

end Go.Proofs.Ytfcdnfbhoppefaa.PFnExactValidPoly
