/- The functions without a body, and what a float that is no number comes to in the document's order. -/
import Derived.Test.YtiahijhpjloijaaGreatFl
import Derived.Test.YtiahijhpjloijaaGreatProg
import Derived.WalkKit
import Derived.WalkLawsBesides
import Derived.Laws.Externs
import Derived.Laws.FloatArith
import Derived.Laws.BitsAllLaws
import Derived.Laws.BitsLemmas
import Derived.Outline
import Derived.Lib.Hide
import Derived.KernelRfl
import Derived.Deep.QuietTactic
import Derived.BigQuiet
set_option linter.unusedVariables false
set_option linter.unusedSimpArgs false
namespace Go.Proofs.YtiahijhpjloijaaGreat.V2
open Go.RowKit
open Fl
theorem ext20 (n : Int) (w : World) : (callFunc 20 #[.int .u64 n]).run Tryz.prog w = .ok (.value (.float .f64 n.toNat)) w := by
  rw [run_callFunc_extern (e := Extern.MathFloatBits.float64frombits) Tryz.func20 (by kernel_rfl) (by kernel_rfl) (by kernel_rfl) (by kernel_rfl)]; rfl
theorem ext89 (b : Nat) (w : World) : (callFunc 89 #[.float .f64 b]).run Tryz.prog w = .ok (.value (.int .u64 (b : Int))) w := by
  rw [run_callFunc_extern (e := Extern.MathFloatBits.float64bits) Tryz.func89 (by kernel_rfl) (by kernel_rfl) (by kernel_rfl) (by kernel_rfl)]; rfl
theorem call52 (vs : Array Value) (w : World) : (callFunc 52 vs).run Tryz.prog w = .ok (.enter 52 vs) w := by
  have hn : (Tryz.f52.name == "runtime.NumGoroutine") = false := by kernel_rfl
  have hb : Tryz.f52.body.isNone = false := by kernel_rfl
  simp only [callFunc, Sem.run_bind, run_program, Result.andThen_ok, Tryz.func52, hn, hb, Bool.false_eq_true, if_false, Sem.run_pure]
theorem and_mask {a : Nat} (ha : a < 18446744073709551616) : bits .and .u64 (a : Int) 9223372036854775807 = (rung a : Int) := by
  have := u64_and_nat a 9223372036854775807 ha (by decide)
  rw [show ((9223372036854775807 : Nat) : Int) = 9223372036854775807 from rfl] at this
  rw [this]
  congr 1
  exact Nat.and_two_pow_sub_one_eq_mod a 63
set_option maxHeartbeats 800000 in
theorem key_nan (b : Nat) (hN : isN b = true) (hb : b < 18446744073709551616) (w : World) : Calls Tryz.prog 52 #[.float .f64 b] w fun e w' => e = .returned (.int .u64 18446744073709551615) ∧ w' = w := by
  have e89 := ext89
  have hm : ((9218868437227405312 : Int) < (bits .and .u64 (b : Int) 9223372036854775807)) := by
    rw [and_mask hb]
    have : INF < rung b := by simpa [isN] using hN
    have e : INF = 9218868437227405312 := rfl
    omega
  go_enter Tryz.func52, Tryz.ntmps52
  go_wp2
  go_ret
  exact ⟨rfl, rfl⟩
end Go.Proofs.YtiahijhpjloijaaGreat.V2
