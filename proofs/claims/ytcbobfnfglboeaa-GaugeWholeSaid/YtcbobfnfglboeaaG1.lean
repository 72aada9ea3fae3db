/- The small functions over floats (none, Signbit, Inf, NaN, Abs, IsInf, Order, and the document's key and Order): what each comes to, in any world. No condition. -/
import Derived.Test.YtcbobfnfglboeaaFl
import Derived.Test.YtcbobfnfglboeaaProg
import Derived.WalkKit
import Derived.WalkLawsBesides
import Derived.Laws.Externs
import Derived.Laws.FloatArith
import Derived.Laws.BitsAllLaws
import Derived.Laws.BitsLemmas
import Derived.Outline
import Derived.Lib.Hide
import Derived.KernelRfl
import Derived.Deep.QuietTactic
import Derived.BigQuiet
set_option linter.unusedVariables false
set_option linter.unusedSimpArgs false
namespace Go.Proofs.Ytcbobfnfglboeaa.G
open Go.RowKit
open Fl
theorem ext17 (n : Int) (w : World) : (callFunc 17 #[.int .u64 n]).run Try.prog w = .ok (.value (.float .f64 n.toNat)) w := by
  rw [run_callFunc_extern (e := Extern.MathFloatBits.float64frombits) Try.func17 (by kernel_rfl) (by kernel_rfl) (by kernel_rfl) (by kernel_rfl)]; rfl
theorem ext25 (b : Nat) (w : World) : (callFunc 25 #[.float .f64 b]).run Try.prog w = .ok (.value (.int .u64 (b : Int))) w := by
  rw [run_callFunc_extern (e := Extern.MathFloatBits.float64bits) Try.func25 (by kernel_rfl) (by kernel_rfl) (by kernel_rfl) (by kernel_rfl)]; rfl
abbrev F (b : Nat) : Value := .float .f64 b
theorem none_any (a : Nat) (w : World) : Calls Try.prog 18 #[F a] w fun e w' => e = .returned (.bool (isN a)) ∧ w' = w := by
  go_enter Try.func18, Try.ntmps18
  go_wp2
  go_ret
  exact ⟨by rw [← noneB_eq]; rfl, rfl⟩
theorem nan_any (w : World) : Calls Try.prog 22 #[] w fun e w' => e = .returned (F 9221120237041090561) ∧ w' = w := by
  have e17 := ext17
  go_enter Try.func22, Try.ntmps22
  go_wp2
  go_ret
  exact ⟨rfl, rfl⟩
theorem inf_pos (w : World) : Calls Try.prog 21 #[.int .i64 1] w fun e w' => e = .returned (F 9218868437227405312) ∧ w' = w := by
  have e17 := ext17
  go_enter Try.func21, Try.ntmps21
  go_wp2
  go_ret
  exact ⟨rfl, rfl⟩
theorem inf_neg (w : World) : Calls Try.prog 21 #[.int .i64 (-1)] w fun e w' => e = .returned (F 18442240474082181120) ∧ w' = w := by
  have e17 := ext17
  go_enter Try.func21, Try.ntmps21
  go_wp2
  go_ret
  exact ⟨rfl, rfl⟩
theorem sgn_wrap {a : Nat} (ha : a < 18446744073709551616) : decide (wrap64 (a : Int) < 0) = sgn a := by
  unfold sgn
  rw [Bool.eq_iff_iff, decide_eq_true_iff, beq_iff_eq]
  unfold wrap64
  omega
theorem rung_bits {a : Nat} (ha : a < 18446744073709551616) : (bits .andNot .u64 (a : Int) 9223372036854775808).toNat = rung a := by
  have := u64_andNot_nat a 9223372036854775808 ha (by decide)
  rw [show ((9223372036854775808 : Nat) : Int) = 9223372036854775808 from rfl] at this
  rw [this, Int.toNat_natCast]
  show a &&& 9223372036854775807 = a % 9223372036854775808
  exact Nat.and_two_pow_sub_one_eq_mod a 63
theorem rung_lt (a : Nat) : rung a < 9223372036854775808 := Nat.mod_lt _ (by decide)
theorem sign_any (a : Nat) (ha : a < 18446744073709551616) (w : World) : Calls Try.prog 19 #[F a] w fun e w' => e = .returned (.bool (sgn a)) ∧ w' = w := by
  have e25 := ext25
  go_enter Try.func19, Try.ntmps19
  go_wp2
  go_ret
  exact ⟨congrArg (fun b => Ending.returned (Value.bool b)) (sgn_wrap ha), rfl⟩
theorem abs_any (a : Nat) (ha : a < 18446744073709551616) (w : World) : Calls Try.prog 26 #[F a] w fun e w' => e = .returned (F (rung a)) ∧ w' = w := by
  have e25 := ext25
  have e17 := ext17
  go_enter Try.func26, Try.ntmps26
  go_wp2
  go_ret
  exact ⟨congrArg (fun b => Ending.returned (F b)) (rung_bits ha), rfl⟩
theorem isInf_any (a : Nat) (ha : a < 18446744073709551616) (w : World) : Calls Try.prog 23 #[F a, .int .i64 0] w fun e w' => e = .returned (.bool (rung a == INF)) ∧ w' = w := by
  go_enter Try.func23, Try.ntmps23
  go_wp2_with (go_at_call 26; refine (abs_any _ ha _).mono ?_; rintro e w' ⟨rfl, rfl⟩)
  go_ret
  exact ⟨congrArg (fun b => Ending.returned (Value.bool b)) (isInf_go a), rfl⟩
theorem order_any (a b : Nat) (ha : a < 18446744073709551616) (hb : b < 18446744073709551616) (w : World) : Calls Try.prog 9 #[F a, F b] w fun e w' => e = .returned (.int .i64 (ord a b)) ∧ w' = w := by
  have HO := Lib.hid (ord_go a b)
  cases na : isN a <;> cases nb : isN b
  all_goals
    cases og : (FloatKind.f64.format.order a b == some .gt) <;> cases ol : (FloatKind.f64.format.order a b == some .lt) <;> cases sa : sgn a <;> cases sb : sgn b
  all_goals
    have na' := noneB_eq a
    have nb' := noneB_eq b
    rw [na] at na'
    rw [nb] at nb'
    have hval := HO.out
    rw [na', nb', og, ol, sa, sb] at hval
    simp only [Bool.and_true, Bool.and_false, Bool.or_true, Bool.or_false, Bool.true_and, Bool.false_and, Bool.true_or, Bool.false_or, Bool.not_true, Bool.not_false, if_true, if_false, Bool.false_eq_true] at hval
    rw [hval]
    clear hval na' nb' HO
    go_enter Try.func9, Try.ntmps9
    go_wp2_with (first | (go_at_call 18; refine (none_any _ _).mono ?_; rintro e w' ⟨rfl, rfl⟩) | (go_at_call 19; refine (sign_any _ (by assumption) _).mono ?_; rintro e w' ⟨rfl, rfl⟩))
    go_ret
    exact ⟨rfl, rfl⟩
end Go.Proofs.Ytcbobfnfglboeaa.G
