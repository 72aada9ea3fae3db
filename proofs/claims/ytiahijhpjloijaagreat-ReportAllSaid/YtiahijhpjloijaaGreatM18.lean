/- Parts of the proof, put together: K3, K4. -/
import Derived.Test.YtiahijhpjloijaaGreatM16
set_option linter.unusedVariables false
set_option linter.unusedSimpArgs false
set_option maxRecDepth 100000
set_option maxHeartbeats 2000000
namespace Go.Proofs.YtiahijhpjloijaaGreat.V
open Go
theorem kc2:all kfn (List.range' 88 3)=true:=by kernel_rfl
theorem kc6:all kfn (List.range' 136 16)=true:=by kernel_rfl
end Go.Proofs.YtiahijhpjloijaaGreat.V

set_option maxRecDepth 100000
set_option maxHeartbeats 2000000
namespace Go.Proofs.YtiahijhpjloijaaGreat.V
open Go
theorem kc3:all kfn (List.range' 91 25)=true:=by kernel_rfl
theorem kc7:all kfn (List.range' 152 24)=true:=by kernel_rfl
end Go.Proofs.YtiahijhpjloijaaGreat.V

