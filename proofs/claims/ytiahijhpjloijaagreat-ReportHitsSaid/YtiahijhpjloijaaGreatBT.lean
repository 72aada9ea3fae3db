/- The table of functions. Written by genb.py. -/
import Derived.Test.YtiahijhpjloijaaGreatB1
import Derived.Test.YtiahijhpjloijaaGreatB2
import Derived.Test.YtiahijhpjloijaaGreatB3
import Derived.Test.YtiahijhpjloijaaGreatB4
set_option linter.unusedVariables false
namespace Go.Proofs.YtiahijhpjloijaaGreat.V
open Go
def table : List (List (Option Fn)) := [[none, none, some b2, some b3, some b4, some b5, some b6, some b7, some b8, some b9, some b10, some b11, some b12, some b13, some b14, some b15],
  [some b16, some b17, some b18, some b19, none, some b21, some b22, some b23, some b24, some b25, some b26, some b27, some b28, some b29, some b30, some b31],
  [some b32, some b33, some b34, some b35, some b36, some b37, some b38, some b39, some b40, some b41, some b42, some b43, some b44, some b45, some b46, some b47],
  [some b48, some b49, some b50, some b51, some b52, some b53, some b54, some b55, some b56, some b57, some b58, some b59, some b60, some b61, some b62, some b63],
  [some b64, some b65, some b66, some b67, some b68, some b69, some b70, some b71, some b72, some b73, some b74, some b75, some b76, some b77, some b78, some b79],
  [some b80, some b81, some b82, some b83, some b84, some b85, some b86, some b87, some b88, none, some b90, some b91, some b92, some b93, some b94, some b95],
  [some b96, some b97, some b98, some b99, some b100, some b101, some b102, some b103, some b104, some b105, some b106, some b107, some b108, some b109, some b110, some b111],
  [some b112, some b113, some b114, some b115, some b116, some b117, some b118, some b119, some b120, some b121, some b122, some b123, some b124, some b125, some b126, some b127],
  [some b128, some b129, some b130, some b131, some b132, some b133, some b134, some b135, some b136, some b137, some b138, some b139, some b140, some b141, some b142, some b143],
  [some b144, some b145, some b146, some b147, some b148, some b149, some b150, some b151, some b152, some b153, some b154, some b155, some b156, some b157, some b158, some b159],
  [some b160, some b161, some b162, some b163, some b164, some b165, some b166, some b167]]
noncomputable def fns (f : Nat) : Option Fn :=
  Option.rec none (fun l => Option.rec none (fun x => x) (nth l (Nat.mod f 16))) (nth table (Nat.div f 16))
end Go.Proofs.YtiahijhpjloijaaGreat.V
