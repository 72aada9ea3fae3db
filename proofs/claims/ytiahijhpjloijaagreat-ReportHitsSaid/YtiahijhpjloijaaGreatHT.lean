/- ReportHits returns true. -/
import Derived.Test.YtiahijhpjloijaaGreatHJ
import Derived.Test.YtiahijhpjloijaaGreatHK0
import Derived.Test.YtiahijhpjloijaaGreatHK1
import Derived.Test.YtiahijhpjloijaaGreatHK2
set_option linter.unusedVariables false
namespace Go.Proofs.YtiahijhpjloijaaGreat.V
open Go Go.RowKit
theorem hits_true (n r : Int) (hn : 0 ≤ n) (hr : 0 ≤ r) (w : World) :
    Calls Tryz.prog 6 #[.int .u8 n, .int .u8 r] w fun e w' => e = .returned (.bool true) ∧ Below w.heap.size w w' := by
  obtain ⟨n, rfl⟩ := Int.eq_ofNat_of_zero_le hn
  obtain ⟨r, rfl⟩ := Int.eq_ofNat_of_zero_le hr
  have hm : Int.tmod (n : Int) 20 = .ofNat (n % 20) := rfl
  have hk : Int.tmod (r : Int) 3 = .ofNat (r % 3) := rfl
  refine hits_walk ?_ w
  have h3 : r % 3 = 0 ∨ r % 3 = 1 ∨ r % 3 = 2 := by omega
  rcases h3 with h | h | h <;> rw [h] at hk
  · exact hits_go hm (Nat.mod_lt _ (by omega)) hk (by omega) (hk0 _ _)
  · exact hits_go hm (Nat.mod_lt _ (by omega)) hk (by omega) (hk1 _ _)
  · exact hits_go hm (Nat.mod_lt _ (by omega)) hk (by omega) (hk2 _ _)
end Go.Proofs.YtiahijhpjloijaaGreat.V
