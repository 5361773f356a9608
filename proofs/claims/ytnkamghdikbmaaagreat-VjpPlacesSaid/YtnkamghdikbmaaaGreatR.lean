/- The closed call at the end of the law 'VjpPlaces' comes to true: it is run by the abstract machine. -/
import Derived.Test.YtnkamghdikbmaaaGreatSMrc
import Derived.Test.YtnkamghdikbmaaaGreatProg
import Derived.KernelRfl
namespace Go.Proofs.YtnkamghdikbmaaaGreat
open Go Go.SM
set_option maxRecDepth 100000
theorem law33_run : runF Tryz.prog [232, 233] [171, 129] 100 8 [] [] = some (.e (.c (.bool true)), []) := by kernel_rfl
def law33_same : Option (RTs.den [.d .bool]) := some true
theorem law33_same_s : ∀ y, law33_same = some y → CSem Tryz.prog 8 [] [] (fun v b => v = (RTs.shape [.d .bool] y).1 ∧ b = (RTs.shape [.d .bool] y).2) := fun y h => by
  cases h
  exact run_closed law33_run
end Go.Proofs.YtnkamghdikbmaaaGreat
