/- Plain facts on layer 14: the examples, by evaluation of the models. -/
import Derived.Test.YtjdmfabmacdpgaaMod
import Derived.Test.YtjdmfabmacdpgaaLxEntry
namespace Go.Proofs.Ytjdmfabmacdpgaa
open Go.Lx
set_option maxRecDepth 100000 in
theorem awake_true : M.law14_awake = some true := by decide +kernel
end Go.Proofs.Ytjdmfabmacdpgaa
