/- Parts of the proof, put together: KPA. -/
import Derived.Test.YtiahijhpjloijaaGreatM29
import Derived.Test.YtiahijhpjloijaaGreatM30
import Derived.Test.YtiahijhpjloijaaGreatM31
import Derived.Test.YtiahijhpjloijaaGreatM32
import Derived.Test.YtiahijhpjloijaaGreatM33
import Derived.Test.YtiahijhpjloijaaGreatM34
set_option linter.unusedVariables false
set_option linter.unusedSimpArgs false
set_option maxRecDepth 100000
set_option maxHeartbeats 2000000
namespace Go.Proofs.YtiahijhpjloijaaGreat.V
open Go
theorem fst_ok {n:Nat} {f:Nat} {ds:List GD} {d:GD} (h:fstO (GDD n f ds [])=some d):∃G,GDD n f ds []=some (d,G):=fstO_some h
theorem kn19 (k i:Nat) (hi:i<6):∃G,GDD (k+12) 19 [.ag (mapsV (wd i)),.ag (mapsV (stp (1+i/2) (97+i%2)))] []=some (.tup [.ag (mapsV (ud i)),.ag (mapsV [.int .i64 5,.int .i64 0,.str []])],G):=by
 match i,hi with
 |0,_=>exact fst_ok (kp19_0 k)
 |1,_=>exact fst_ok (kp19_1 k)
 |2,_=>exact fst_ok (kp19_2 k)
 |3,_=>exact fst_ok (kp19_3 k)
 |4,_=>exact fst_ok (kp19_4 k)
 |5,_=>exact fst_ok (kp19_5 k)
theorem kn17 (k i:Nat) (hi:i<6):∃G,GDD (k+12) 17 [.ag (mapsV (ud i))] []=some (.ag (mapsV (wd (i+1))),G):=by
 match i,hi with
 |0,_=>exact fst_ok (kp17_0 k)
 |1,_=>exact fst_ok (kp17_1 k)
 |2,_=>exact fst_ok (kp17_2 k)
 |3,_=>exact fst_ok (kp17_3 k)
 |4,_=>exact fst_ok (kp17_4 k)
 |5,_=>exact fst_ok (kp17_5 k)
theorem kn21 (k:Nat):∃G,GDD (k+12) 21 [] []=some (.ag (mapsV (wd 0)),G):=fst_ok (kp21 k)
end Go.Proofs.YtiahijhpjloijaaGreat.V

