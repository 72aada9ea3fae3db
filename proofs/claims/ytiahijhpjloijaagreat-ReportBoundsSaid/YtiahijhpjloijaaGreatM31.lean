/- Parts of the proof, put together: KP2. -/
import Derived.Test.YtiahijhpjloijaaGreatM28
set_option linter.unusedVariables false
set_option linter.unusedSimpArgs false
set_option maxRecDepth 100000
set_option maxHeartbeats 2000000
namespace Go.Proofs.YtiahijhpjloijaaGreat.V
open Go
theorem kp19_2 (k:Nat):fstO (GDD (Nat.succ (Nat.succ (Nat.succ (Nat.succ (Nat.succ (Nat.succ (Nat.succ (Nat.succ (Nat.succ (Nat.succ (Nat.succ (Nat.succ (k))))))))))))) 19 [.ag (mapsV (wd 2)),.ag (mapsV (stp 2 97))] [])=some (.tup [.ag (mapsV (ud 2)),.ag (mapsV [.int .i64 5,.int .i64 0,.str []])]):=by kernel_rfl
theorem kp17_2 (k:Nat):fstO (GDD (Nat.succ (Nat.succ (Nat.succ (Nat.succ (Nat.succ (Nat.succ (Nat.succ (Nat.succ (Nat.succ (Nat.succ (Nat.succ (Nat.succ (k))))))))))))) 17 [.ag (mapsV (ud 2))] [])=some (.ag (mapsV (wd 3))):=by kernel_rfl
end Go.Proofs.YtiahijhpjloijaaGreat.V

