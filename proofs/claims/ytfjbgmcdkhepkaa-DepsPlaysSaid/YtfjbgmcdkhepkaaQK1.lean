/- A part of the proofs over this seat. -/
import Derived.Test.YtfjbgmcdkhepkaaQC0
import Derived.Test.YtfjbgmcdkhepkaaQAbsKe
namespace Go.Proofs.Ytfjbgmcdkhepkaa
open Go Go.Abs Go.Proofs
set_option maxRecDepth 100000
theorem live_eq (H : Hp) : evW Try.prog notes 8 [] H = some (.ret (.bool true) false, H) := live_any (n := 30) (m := 9) rfl (by kernel_rfl) H
end Go.Proofs.Ytfjbgmcdkhepkaa
