/- Parts of the proof, put together: KX3. -/
import Derived.Test.YtiahijhpjloijaaGreatM19
set_option linter.unusedVariables false
set_option linter.unusedSimpArgs false
namespace Go.Proofs.YtiahijhpjloijaaGreat.V
open Go
theorem kx3_ok:all okK kx3=true:=by kernel_rfl
end Go.Proofs.YtiahijhpjloijaaGreat.V

