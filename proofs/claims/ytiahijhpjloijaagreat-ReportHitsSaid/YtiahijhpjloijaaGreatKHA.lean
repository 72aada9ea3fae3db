/- The known answers together. Written by entlean.py. -/
import Derived.Test.YtiahijhpjloijaaGreatKH0
import Derived.Test.YtiahijhpjloijaaGreatKH1
import Derived.Test.YtiahijhpjloijaaGreatKH2
import Derived.Test.YtiahijhpjloijaaGreatKH3
import Derived.Test.YtiahijhpjloijaaGreatKH4
import Derived.Test.YtiahijhpjloijaaGreatKH5
set_option linter.unusedVariables false
namespace Go.Proofs.YtiahijhpjloijaaGreat.V
open Go
noncomputable def khs : List Known := [kh0, kh1, kh2, kh3, kh4, kh5, kh6, kh7, kh8, kh9, kh10, kh11, kh12, kh13, kh14, kh15, kh16, kh17, kh18, kh19, kh20, kh21, kh22, kh23, kh24, kh25, kh26, kh27, kh28, kh29, kh30]
theorem khs_ok : ∀ k ∈ khs, KnownOk D1s k := by
  intro k hk
  simp only [khs, List.mem_cons, List.not_mem_nil, or_false] at hk
  rcases hk with rfl | rfl | rfl | rfl | rfl | rfl | rfl | rfl | rfl | rfl | rfl | rfl | rfl | rfl | rfl | rfl | rfl | rfl | rfl | rfl | rfl | rfl | rfl | rfl | rfl | rfl | rfl | rfl | rfl | rfl | rfl
  · exact okK_ok kh0_ok
  · exact okK_ok kh1_ok
  · exact okK_ok kh2_ok
  · exact okK_ok kh3_ok
  · exact okK_ok kh4_ok
  · exact okK_ok kh5_ok
  · exact okK_ok kh6_ok
  · exact okK_ok kh7_ok
  · exact okK_ok kh8_ok
  · exact okK_ok kh9_ok
  · exact okK_ok kh10_ok
  · exact okK_ok kh11_ok
  · exact okK_ok kh12_ok
  · exact okK_ok kh13_ok
  · exact okK_ok kh14_ok
  · exact okK_ok kh15_ok
  · exact okK_ok kh16_ok
  · exact okK_ok kh17_ok
  · exact okK_ok kh18_ok
  · exact okK_ok kh19_ok
  · exact okK_ok kh20_ok
  · exact okK_ok kh21_ok
  · exact okK_ok kh22_ok
  · exact okK_ok kh23_ok
  · exact okK_ok kh24_ok
  · exact okK_ok kh25_ok
  · exact okK_ok kh26_ok
  · exact okK_ok kh27_ok
  · exact okK_ok kh28_ok
  · exact okK_ok kh29_ok
  · exact okK_ok kh30_ok
end Go.Proofs.YtiahijhpjloijaaGreat.V
