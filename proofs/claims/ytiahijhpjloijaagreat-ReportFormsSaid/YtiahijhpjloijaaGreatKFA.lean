/- The known answers together. Written by entlean.py. -/
import Derived.Test.YtiahijhpjloijaaGreatKF0
import Derived.Test.YtiahijhpjloijaaGreatKF1
import Derived.Test.YtiahijhpjloijaaGreatKF2
import Derived.Test.YtiahijhpjloijaaGreatKF3
import Derived.Test.YtiahijhpjloijaaGreatKF4
import Derived.Test.YtiahijhpjloijaaGreatKF5
set_option linter.unusedVariables false
namespace Go.Proofs.YtiahijhpjloijaaGreat.V
open Go
noncomputable def kfs : List Known := [kf0, kf1, kf2, kf3, kf4, kf5, kf6, kf7, kf8, kf9, kf10, kf11, kf12, kf13, kf14, kf15, kf16, kf17, kf18, kf19, kf20, kf21, kf22, kf23, kf24, kf25, kf26]
theorem kfs_ok : ∀ k ∈ kfs, KnownOk D1s k := by
  intro k hk
  simp only [kfs, List.mem_cons, List.not_mem_nil, or_false] at hk
  rcases hk with rfl | rfl | rfl | rfl | rfl | rfl | rfl | rfl | rfl | rfl | rfl | rfl | rfl | rfl | rfl | rfl | rfl | rfl | rfl | rfl | rfl | rfl | rfl | rfl | rfl | rfl | rfl
  · exact okK_ok kf0_ok
  · exact okK_ok kf1_ok
  · exact okK_ok kf2_ok
  · exact okK_ok kf3_ok
  · exact okK_ok kf4_ok
  · exact okK_ok kf5_ok
  · exact okK_ok kf6_ok
  · exact okK_ok kf7_ok
  · exact okK_ok kf8_ok
  · exact okK_ok kf9_ok
  · exact okK_ok kf10_ok
  · exact okK_ok kf11_ok
  · exact okK_ok kf12_ok
  · exact okK_ok kf13_ok
  · exact okK_ok kf14_ok
  · exact okK_ok kf15_ok
  · exact okK_ok kf16_ok
  · exact okK_ok kf17_ok
  · exact okK_ok kf18_ok
  · exact okK_ok kf19_ok
  · exact okK_ok kf20_ok
  · exact okK_ok kf21_ok
  · exact okK_ok kf22_ok
  · exact okK_ok kf23_ok
  · exact okK_ok kf24_ok
  · exact okK_ok kf25_ok
  · exact okK_ok kf26_ok
end Go.Proofs.YtiahijhpjloijaaGreat.V
