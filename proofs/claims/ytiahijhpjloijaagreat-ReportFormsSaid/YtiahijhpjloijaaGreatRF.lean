/- ReportForms, evaluated: it returns true. -/
import Derived.Test.YtiahijhpjloijaaGreatKFA
set_option linter.unusedVariables false
namespace Go.Proofs.YtiahijhpjloijaaGreat.V
open Go Go.RowKit
noncomputable def yes (r : Option (D × Tr Ob × Pos)) : Bool := match r with | some (.one (.bool true), _, _) => true | _ => false
theorem forms_yes : yes (D2 kfs 5 [] .e .h) = true := by kernel_rfl
theorem forms_walk (w : World) : Calls Tryz.prog 5 #[] w fun e w' => e = .returned (.bool true) ∧ Below w.heap.size w w' := by
  have h := forms_yes
  unfold yes at h
  split at h
  · rename_i hp nx hr
    refine (closed (D2_good kfs_ok) hr Tryz.func5 (by kernel_rfl) (by kernel_rfl) w).mono ?_
    rintro e w' ⟨v, β', rfl, hd, _, _, hb⟩
    have hd : v = .bool true := hd
    subst hd
    exact ⟨rfl, hb⟩
  · cases h
end Go.Proofs.YtiahijhpjloijaaGreat.V
