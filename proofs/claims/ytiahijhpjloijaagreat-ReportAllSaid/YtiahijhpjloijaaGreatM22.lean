/- Parts of the proof, put together: KX2. -/
import Derived.Test.YtiahijhpjloijaaGreatM19
set_option linter.unusedVariables false
set_option linter.unusedSimpArgs false
namespace Go.Proofs.YtiahijhpjloijaaGreat.V
open Go
theorem kx2_ok:all okK kx2=true:=by kernel_rfl
end Go.Proofs.YtiahijhpjloijaaGreat.V

