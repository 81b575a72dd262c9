/- Plain facts on layer 10: the examples of the document. -/
import Derived.Test.YtogpainomdfpnaaMod
namespace Go.Proofs.Ytogpainomdfpnaa
open Go.Lx
theorem awake_true : M.law10_awake = some true := by decide +kernel
end Go.Proofs.Ytogpainomdfpnaa
