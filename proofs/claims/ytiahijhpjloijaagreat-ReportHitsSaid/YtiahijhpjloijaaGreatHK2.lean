/- ReportHits, evaluated: twenty rounds, where r leaves 2. -/
import Derived.Test.YtiahijhpjloijaaGreatHR
import Derived.Test.YtiahijhpjloijaaGreatKHA
namespace Go.Proofs.YtiahijhpjloijaaGreat.V
open Go Go.RowKit
theorem hk2 (n r : Int) : chk (den Tryz.prog F2 (X2 khs) 100000 59) 20 2 n r = true := by kernel_rfl
end Go.Proofs.YtiahijhpjloijaaGreat.V
