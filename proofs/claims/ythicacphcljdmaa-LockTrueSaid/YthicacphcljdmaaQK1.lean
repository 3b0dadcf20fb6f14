/- A part of the proofs over this seat. -/
import Derived.Test.YthicacphcljdmaaQC0
namespace Go.Proofs.Ythicacphcljdmaa
open Go Go.Abs Go.Proofs
set_option maxRecDepth 100000
theorem live_eq (H : Hp) : evW Try.prog notes 7 [] H = some (.ret (.bool true) false, H) := live_any (n := 30) (m := 12) rfl (by kernel_rfl) H
end Go.Proofs.Ythicacphcljdmaa
