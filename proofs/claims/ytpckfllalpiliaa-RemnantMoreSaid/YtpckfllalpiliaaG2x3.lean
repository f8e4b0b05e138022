-- Laid by a program of this session (wip/tools/gprint.py, over the kit's printer); no hand turned it.
import Derived.Test.YtpckfllalpiliaaG2x0
namespace Go.Proofs.Ytpckfllalpiliaa.G
open Go.RowKit Go.Proofs.YtpckfllalpiliaaW.PrintWords Go.Proofs.YtpckfllalpiliaaW.PrintLast Go.Proofs.YtpckfllalpiliaaW.PrintMore
attribute [local go_sem] max2_int min2_int max_two min_two max_three min_three max_four min_four   -- for this text's walks alone
set_option linter.unusedVariables false
set_option linter.unusedSimpArgs false

-- NOT PRINTED: function 44 (remnant_fit)

-- NOT PRINTED: function 30 (remnant_First)

-- NOT PRINTED: function 48 (remnant_sets)

-- NOT PRINTED: function 31 (remnant_Split)

-- NOT PRINTED: function 13 (galloonlaw09_awake)

-- NOT PRINTED: function 3 (galloonlaw09_RemnantBounds)

-- NOT PRINTED: function 15 (remnant_Ways)

-- NOT PRINTED: function 4 (galloonlaw09_RemnantMore)

-- NOT PRINTED: function 36 (remnant_loaded)

-- NOT PRINTED: function 37 (slices_Max_int_int)

-- NOT PRINTED: function 20 (remnant_Check)

-- NOT PRINTED: function 5 (galloonlaw09_RemnantBests)

end Go.Proofs.Ytpckfllalpiliaa.G
