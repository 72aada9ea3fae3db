/- The table of functions is the program's, checked function by function. -/
import Derived.Test.YtiahijhpjloijaaGreatBT
import Derived.Test.YtiahijhpjloijaaGreatF27
import Derived.Test.YtiahijhpjloijaaGreatProg
import Derived.KernelRfl
set_option linter.unusedVariables false
namespace Go.Proofs.YtiahijhpjloijaaGreat.V
open Go Go.RowKit
noncomputable def okf (f : Nat) : Bool := match fns f with
  | none => true
  | some b => match Tryz.prog.funcs[f]? with
    | some fn => (!(fn.name == "runtime.NumGoroutine")) && fitF Tryz.prog fn b
    | none => false
theorem ok1 : all okf (List.range' 0 60) = true := by kernel_rfl
theorem ok2 : all okf (List.range' 60 60) = true := by kernel_rfl
theorem ok3 : all okf (List.range' 120 56) = true := by kernel_rfl
theorem fns_top (f : Nat) (h : 176 ≤ f) : fns f = none := by
  have h1 : Nat.div f 16 ≥ 11 := by show f / 16 ≥ 11; omega
  have h2 : nth table (Nat.div f 16) = none := by
    rw [nth_eq, List.getElem?_eq_none]
    exact h1
  unfold fns
  rw [h2]
theorem fits : Fits Tryz.prog fns := by
  intro f b hb
  have hf : okf f = true := by
    by_cases h : f < 176
    · by_cases h1 : f < 60
      · exact all_true ok1 f (by rw [List.mem_range'_1]; omega)
      · by_cases h2 : f < 120
        · exact all_true ok2 f (by rw [List.mem_range'_1]; omega)
        · exact all_true ok3 f (by rw [List.mem_range'_1]; omega)
    · rw [fns_top f (by omega)] at hb; cases hb
  unfold okf at hf
  rw [hb] at hf
  simp only [] at hf
  split at hf
  · rename_i fn hfn
    simp only [Bool.and_eq_true, Bool.not_eq_true'] at hf
    exact ⟨fn, hfn, hf.1, hf.2⟩
  · cases hf
theorem mixed : Tryz.prog.follows .mixedOrders = true := by kernel_rfl
end Go.Proofs.YtiahijhpjloijaaGreat.V
