-- Laid by a program of this session (wip/tools/gprint.py, over the kit's printer); no hand turned it.
import Derived.Test.YtohgdegklhlldaaG0x0
import Derived.Test.YtohgdegklhlldaaG1x
import Derived.Test.YtohgdegklhlldaaH1
import Derived.Test.YtohgdegklhlldaaH2
namespace Go.Proofs.Ytohgdegklhlldaa.G
open Go.RowKit Go.Proofs.YtohgdegklhlldaaW.PrintWords Go.Proofs.YtohgdegklhlldaaW.PrintLast Go.Proofs.YtohgdegklhlldaaW.PrintMore
attribute [local go_sem] max2_int min2_int max_two min_two max_three min_three max_four min_four   -- for this text's walks alone
set_option linter.unusedVariables false
set_option linter.unusedSimpArgs false

-- the values' own types

end Go.Proofs.Ytohgdegklhlldaa.G
