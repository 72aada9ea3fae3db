/-
  No cell of these rows narrows 'for every input' (looked for: loops, veiled, ifaces, maps, wideKeys, modest, calm, conditions, laid).
  DERIVED. THE GIVEN ROWS OF THIS SEAT. 4 by the template 'for every input the law returns true; each argument reads behind the call as it read before'; 0 by the template 'total and deterministic' (their statements: YtiahijhpjloijaaGreatTotals.lean).
  GIVEN WITH THE SEED: the statements are not yours to turn. If you find one false, say at which input.
  Laid BY PROGRAM, IN A SANDBOX (cutbox-rows.mjs): the forced cells as the released guide's own fill.sh prints them over the translation 42a7f2278d9e82c5… (all of the seat's roots in one cut). By AI agents, Wed Nov 11 2026. No macro, syntax, notation, axiom, sorry.
-/
import Derived.Test.YtiahijhpjloijaaGreatChecked
import GoSem.Claim
import GoSem.ClaimJoined
import GoSem.ClaimMapViews
import Derived.JoinedTies
import Derived.KernelRfl
namespace Go.Proofs.YtiahijhpjloijaaGreat
/- THE CELL 'sum', in the pinned program and in every row, IS THE sha256 OF THE DUMP (.gsa) THAT YtiahijhpjloijaaGreatProg.lean LOADS. Nothing in Lean hashes anything: it is a label: what it is worth is what the hold of that sum in a sandbox is worth. -/
noncomputable def Tryz.pinned : Pinned := { name := "ytiahijhpjloijaagreat", sum := "42a7f2278d9e82c500efab7143a8f5d9ae25d767b7a664e326a7d11afba55622", checked := Tryz.checked }
namespace Rows
def none {H : Type} : Left H := { results := [], args := [] }

/-- 'tenancylaw24.ReportAll': WHATEVER THE INPUT: true; the input reads as it did. -/
def reportAllSpec : ChangeSpec := { name := "reportAll", fn := fun _ => fun
  | [d1, d2, d3, d4] => { results := [.lit (.bool true)], args := [d1, d2, d3, d4] }
  | _ => none }
def reportAllRow : OpenClaim := { program := "ytiahijhpjloijaagreat", sum := "42a7f2278d9e82c500efab7143a8f5d9ae25d767b7a664e326a7d11afba55622", func := "tenancy/tenancylaw24.ReportAll", spec := "reportAll", inPlace := ["math.Float64frombits", "math.Float64bits"], apart := false }
def ReportAllSaid : Prop := reportAllRow.holds Tryz.pinned (OpenSpec.ofChange reportAllSpec)

/-- ITS FALSE NEIGHBOUR: 'it returns false'. Refute it at one input. -/
def reportAllWrong : ChangeSpec := { name := "reportAll", fn := fun _ => fun
  | [d1, d2, d3, d4] => { results := [.lit (.bool false)], args := [d1, d2, d3, d4] }
  | _ => none }
def ReportAllWrongFalsely : Prop := reportAllRow.holds Tryz.pinned (OpenSpec.ofChange reportAllWrong)

/-- 'tenancylaw24.ReportBounds': WHATEVER THE INPUT: true; the input reads as it did. -/
def reportBoundsSpec : ChangeSpec := { name := "reportBounds", fn := fun _ => fun
  | [d1, d2] => { results := [.lit (.bool true)], args := [d1, d2] }
  | _ => none }
def reportBoundsRow : OpenClaim := { program := "ytiahijhpjloijaagreat", sum := "42a7f2278d9e82c500efab7143a8f5d9ae25d767b7a664e326a7d11afba55622", func := "tenancy/tenancylaw24.ReportBounds", spec := "reportBounds", inPlace := ["math.Float64frombits", "math.Float64bits"], apart := false }
def ReportBoundsSaid : Prop := reportBoundsRow.holds Tryz.pinned (OpenSpec.ofChange reportBoundsSpec)

/-- ITS FALSE NEIGHBOUR: 'it returns false'. Refute it at one input. -/
def reportBoundsWrong : ChangeSpec := { name := "reportBounds", fn := fun _ => fun
  | [d1, d2] => { results := [.lit (.bool false)], args := [d1, d2] }
  | _ => none }
def ReportBoundsWrongFalsely : Prop := reportBoundsRow.holds Tryz.pinned (OpenSpec.ofChange reportBoundsWrong)

/-- 'tenancylaw24.ReportForms': WHATEVER THE INPUT: true; the input reads as it did. -/
def reportFormsSpec : ChangeSpec := { name := "reportForms", fn := fun _ => fun
  | [] => { results := [.lit (.bool true)], args := [] }
  | _ => none }
def reportFormsRow : OpenClaim := { program := "ytiahijhpjloijaagreat", sum := "42a7f2278d9e82c500efab7143a8f5d9ae25d767b7a664e326a7d11afba55622", func := "tenancy/tenancylaw24.ReportForms", spec := "reportForms", inPlace := ["math.Float64frombits", "math.Float64bits"], apart := false }
def ReportFormsSaid : Prop := reportFormsRow.holds Tryz.pinned (OpenSpec.ofChange reportFormsSpec)

/-- ITS FALSE NEIGHBOUR: 'it returns false'. Refute it at one input. -/
def reportFormsWrong : ChangeSpec := { name := "reportForms", fn := fun _ => fun
  | [] => { results := [.lit (.bool false)], args := [] }
  | _ => none }
def ReportFormsWrongFalsely : Prop := reportFormsRow.holds Tryz.pinned (OpenSpec.ofChange reportFormsWrong)

/-- 'tenancylaw24.ReportHits': WHATEVER THE INPUT: true; the input reads as it did. -/
def reportHitsSpec : ChangeSpec := { name := "reportHits", fn := fun _ => fun
  | [d1, d2] => { results := [.lit (.bool true)], args := [d1, d2] }
  | _ => none }
def reportHitsRow : OpenClaim := { program := "ytiahijhpjloijaagreat", sum := "42a7f2278d9e82c500efab7143a8f5d9ae25d767b7a664e326a7d11afba55622", func := "tenancy/tenancylaw24.ReportHits", spec := "reportHits", inPlace := ["math.Float64frombits", "math.Float64bits"], apart := false }
def ReportHitsSaid : Prop := reportHitsRow.holds Tryz.pinned (OpenSpec.ofChange reportHitsSpec)

/-- ITS FALSE NEIGHBOUR: 'it returns false'. Refute it at one input. -/
def reportHitsWrong : ChangeSpec := { name := "reportHits", fn := fun _ => fun
  | [d1, d2] => { results := [.lit (.bool false)], args := [d1, d2] }
  | _ => none }
def ReportHitsWrongFalsely : Prop := reportHitsRow.holds Tryz.pinned (OpenSpec.ofChange reportHitsWrong)

/- THE SECOND FORM. 'bulk': how many values and letters a reading holds, each counted each time it is reached (what is shared counts as often as it is met; a slice's spare places count too). A statement '..UptoSaid' is the law's where the arguments, and the package variables that the reading takes, are together of bulk at most 1048576: NARROWER than '..Said'. Prove '..Said' where nothing that the law and all that it calls make is longer than what came in: it says more and counts as full. Else prove '..UptoSaid'. A law counts once. -/
mutual
def uptoBulk {H : Type} : DataW H → Nat
  | .lit (.string bytes) => bytes.length + 1
  | .lit _ => 1
  | .nil => 1
  | .ptr d => uptoBulk d + 1
  | .slice elems spare => uptoBulkAll elems + uptoBulkAll spare + 1
  | .agg parts => uptoBulkAll parts + 1
  | .iface _ d => uptoBulk d + 1
  | .map entries => uptoBulkEntries entries + 1
  | .held _ => 1
def uptoBulkAll {H : Type} : List (DataW H) → Nat
  | [] => 0
  | d :: r => uptoBulk d + uptoBulkAll r
def uptoBulkEntries {H : Type} : List (Lit × DataW H) → Nat
  | [] => 0
  | x :: r => uptoBulkEntry x + uptoBulkEntries r
def uptoBulkEntry {H : Type} : Lit × DataW H → Nat
  | (.string bytes, d) => bytes.length + uptoBulk d + 1
  | (_, d) => uptoBulk d + 1
 end
def uptoSmall : (H : Type) → List (DataW H) → Bool := fun _ ds => decide (uptoBulkAll ds ≤ 1048576)
def OpenSpec.upto (s : _root_.Go.ChangeSpec) : _root_.Go.OpenSpec := { _root_.Go.OpenSpec.ofChange s with cond := some uptoSmall }

/-- 'tenancylaw24.ReportAll', WHERE WHAT IT READS IS OF BULK AT MOST 1048576: true; the input reads as it did. -/
def reportAllUptoRow : OpenClaim := { program := "ytiahijhpjloijaagreat", sum := "42a7f2278d9e82c500efab7143a8f5d9ae25d767b7a664e326a7d11afba55622", func := "tenancy/tenancylaw24.ReportAll", spec := "reportAll", inPlace := ["math.Float64frombits", "math.Float64bits"], apart := false, narrowed := true }
def ReportAllUptoSaid : Prop := reportAllUptoRow.holds Tryz.pinned (OpenSpec.upto reportAllSpec)

/-- 'tenancylaw24.ReportBounds', WHERE WHAT IT READS IS OF BULK AT MOST 1048576: true; the input reads as it did. -/
def reportBoundsUptoRow : OpenClaim := { program := "ytiahijhpjloijaagreat", sum := "42a7f2278d9e82c500efab7143a8f5d9ae25d767b7a664e326a7d11afba55622", func := "tenancy/tenancylaw24.ReportBounds", spec := "reportBounds", inPlace := ["math.Float64frombits", "math.Float64bits"], apart := false, narrowed := true }
def ReportBoundsUptoSaid : Prop := reportBoundsUptoRow.holds Tryz.pinned (OpenSpec.upto reportBoundsSpec)

/-- 'tenancylaw24.ReportForms', WHERE WHAT IT READS IS OF BULK AT MOST 1048576: true; the input reads as it did. -/
def reportFormsUptoRow : OpenClaim := { program := "ytiahijhpjloijaagreat", sum := "42a7f2278d9e82c500efab7143a8f5d9ae25d767b7a664e326a7d11afba55622", func := "tenancy/tenancylaw24.ReportForms", spec := "reportForms", inPlace := ["math.Float64frombits", "math.Float64bits"], apart := false, narrowed := true }
def ReportFormsUptoSaid : Prop := reportFormsUptoRow.holds Tryz.pinned (OpenSpec.upto reportFormsSpec)

/-- 'tenancylaw24.ReportHits', WHERE WHAT IT READS IS OF BULK AT MOST 1048576: true; the input reads as it did. -/
def reportHitsUptoRow : OpenClaim := { program := "ytiahijhpjloijaagreat", sum := "42a7f2278d9e82c500efab7143a8f5d9ae25d767b7a664e326a7d11afba55622", func := "tenancy/tenancylaw24.ReportHits", spec := "reportHits", inPlace := ["math.Float64frombits", "math.Float64bits"], apart := false, narrowed := true }
def ReportHitsUptoSaid : Prop := reportHitsUptoRow.holds Tryz.pinned (OpenSpec.upto reportHitsSpec)

end Rows
end Go.Proofs.YtiahijhpjloijaaGreat
