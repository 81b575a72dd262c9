/- Plain facts on layer 9: the examples, by evaluation of the models. -/
import Derived.Test.YtajmekjcnbmaaaaMod
import Derived.Test.YtajmekjcnbmaaaaLxEntry
namespace Go.Proofs.Ytajmekjcnbmaaaa
open Go.Lx
set_option maxRecDepth 100000 in
theorem awake_true : M.law09_awake = some true := by decide +kernel
end Go.Proofs.Ytajmekjcnbmaaaa
