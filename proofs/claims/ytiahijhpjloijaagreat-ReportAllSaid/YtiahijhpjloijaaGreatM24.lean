/- Parts of the proof, put together: KXA. -/
import Derived.Test.YtiahijhpjloijaaGreatM20
import Derived.Test.YtiahijhpjloijaaGreatM21
import Derived.Test.YtiahijhpjloijaaGreatM22
import Derived.Test.YtiahijhpjloijaaGreatM23
set_option linter.unusedVariables false
set_option linter.unusedSimpArgs false
namespace Go.Proofs.YtiahijhpjloijaaGreat.V
open Go
noncomputable def kxs:List Known:=kx0++kx1++kx2++kx3
theorem kxs_ok:∀k∈kxs,KnownOk D1s k:=by
 intro k hk;unfold kxs at hk;simp only[List.mem_append]at hk;rcases hk with((h0|h1)|h2)|h3
 ·exact okK_ok (all_true kx0_ok k h0)
 ·exact okK_ok (all_true kx1_ok k h1)
 ·exact okK_ok (all_true kx2_ok k h2)
 ·exact okK_ok (all_true kx3_ok k h3)
end Go.Proofs.YtiahijhpjloijaaGreat.V

