/- A part of the proofs over this seat. -/
import Derived.Test.YtgjobbmbbedecaaDoorQC0
namespace Go.Proofs.YtgjobbmbbedecaaDoor
open Go Go.Abs Go.Proofs
set_option maxRecDepth 100000
theorem live_eq (H : Hp) : evW Tryd.prog notes 12 [] H = some (.ret (.bool true) false, H) := live_any (n := 30) (m := 12) rfl (by kernel_rfl) H
end Go.Proofs.YtgjobbmbbedecaaDoor
