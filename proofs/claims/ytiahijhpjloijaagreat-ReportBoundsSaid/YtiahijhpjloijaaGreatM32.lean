/- Parts of the proof, put together: KP3. -/
import Derived.Test.YtiahijhpjloijaaGreatM28
set_option linter.unusedVariables false
set_option linter.unusedSimpArgs false
set_option maxRecDepth 100000
set_option maxHeartbeats 2000000
namespace Go.Proofs.YtiahijhpjloijaaGreat.V
open Go
theorem kp19_3 (k:Nat):fstO (GDD (Nat.succ (Nat.succ (Nat.succ (Nat.succ (Nat.succ (Nat.succ (Nat.succ (Nat.succ (Nat.succ (Nat.succ (Nat.succ (Nat.succ (k))))))))))))) 19 [.ag (mapsV (wd 3)),.ag (mapsV (stp 2 98))] [])=some (.tup [.ag (mapsV (ud 3)),.ag (mapsV [.int .i64 5,.int .i64 0,.str []])]):=by kernel_rfl
theorem kp17_3 (k:Nat):fstO (GDD (Nat.succ (Nat.succ (Nat.succ (Nat.succ (Nat.succ (Nat.succ (Nat.succ (Nat.succ (Nat.succ (Nat.succ (Nat.succ (Nat.succ (k))))))))))))) 17 [.ag (mapsV (ud 3))] [])=some (.ag (mapsV (wd 4))):=by kernel_rfl
end Go.Proofs.YtiahijhpjloijaaGreat.V

