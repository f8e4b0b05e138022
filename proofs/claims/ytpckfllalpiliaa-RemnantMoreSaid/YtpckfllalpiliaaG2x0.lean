-- Laid by a program of this session (wip/tools/gprint.py, over the kit's printer); no hand turned it.
import Derived.Test.YtpckfllalpiliaaG0x0
import Derived.Test.YtpckfllalpiliaaG1x
import Derived.Test.YtpckfllalpiliaaH1
import Derived.Test.YtpckfllalpiliaaH2
import Derived.Test.YtpckfllalpiliaaH3
namespace Go.Proofs.Ytpckfllalpiliaa.G
open Go.RowKit Go.Proofs.YtpckfllalpiliaaW.PrintWords Go.Proofs.YtpckfllalpiliaaW.PrintLast Go.Proofs.YtpckfllalpiliaaW.PrintMore
attribute [local go_sem] max2_int min2_int max_two min_two max_three min_three max_four min_four   -- for this text's walks alone
set_option linter.unusedVariables false
set_option linter.unusedSimpArgs false

-- the values' own types

end Go.Proofs.Ytpckfllalpiliaa.G
