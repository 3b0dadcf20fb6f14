/- A part of the proofs over this seat. -/
import Derived.Test.YtcmndnkeoepmoaaDoorQC0
namespace Go.Proofs.YtcmndnkeoepmoaaDoor
open Go Go.Abs Go.Proofs
set_option maxRecDepth 1000000
theorem live_eq (H : Hp) : evW Tryd.prog notes 9 [] H = some (.ret (.bool true) false, H) := live_any (n := 30) (m := 8) rfl (by kernel_rfl) H
end Go.Proofs.YtcmndnkeoepmoaaDoor
