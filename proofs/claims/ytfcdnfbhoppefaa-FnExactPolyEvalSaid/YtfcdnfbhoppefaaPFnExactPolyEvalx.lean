-- Contracts of the functions that one law reaches, written by a program of this session.
import Derived.Test.YtfcdnfbhoppefaaPFnExactPolyEvalx0
import Derived.Test.YtfcdnfbhoppefaaPFnExactPolyEvalx1
import Derived.Test.YtfcdnfbhoppefaaPFnExactPolyEvalx2
import Derived.Test.YtfcdnfbhoppefaaPFnExactPolyEvalx3
import Derived.Test.YtfcdnfbhoppefaaPFnExactPolyEvalx4
import Derived.Test.YtfcdnfbhoppefaaPFnExactPolyEvalx5
import Derived.Test.YtfcdnfbhoppefaaPFnExactPolyEvalx6
import Derived.Test.YtfcdnfbhoppefaaPFnExactPolyEvalx7
import Derived.Test.YtfcdnfbhoppefaaPFnExactPolyEvalx8
import Derived.Test.YtfcdnfbhoppefaaPFnExactPolyEvalx9
import Derived.Test.YtfcdnfbhoppefaaPFnExactPolyEvalx10
import Derived.Test.YtfcdnfbhoppefaaPFnExactPolyEvalx11
import Derived.Test.YtfcdnfbhoppefaaPFnExactPolyEvalx12
namespace Go.Proofs.Ytfcdnfbhoppefaa.PFnExactPolyEval
open Go.Proofs.Ytfcdnfbhoppefaa.Run Go.RowKit Go.Proofs.YtfcdnfbhoppefaaW.PrintWords Go.Proofs.YtfcdnfbhoppefaaW.PrintLast Go.Proofs.YtfcdnfbhoppefaaW.PrintMore
attribute [local go_sem] max2_int min2_int max_two min_two max_three min_three max_four min_four   -- for this text's walks alone
set_option linter.unusedVariables false
set_option linter.unusedSimpArgs false

end Go.Proofs.Ytfcdnfbhoppefaa.PFnExactPolyEval
