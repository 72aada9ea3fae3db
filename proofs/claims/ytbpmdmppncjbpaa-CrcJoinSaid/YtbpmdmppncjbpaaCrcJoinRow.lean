/- CrcJoin: for every input the law returns true: of two arrays of 20 bytes, turned in one another, the sum is the two sums turned in one another; the inputs read as they did. No condition. -/
import Derived.Test.YtbpmdmppncjbpaaRows
import Derived.Test.YtbpmdmppncjbpaaCrcJoinW
import Derived.WalkKit
import Derived.ProofKit
import Derived.OpenShut
import Derived.ShutString
import Derived.ChangeOld
import Derived.Below
import Derived.SizedLaws
import Derived.Test.YtbpmdmppncjbpaaWSized
namespace Go.Proofs.Ytbpmdmppncjbpaa.crcJoin
open Go.ChangeShapes Go.WideShapes Go.ChangeAt Go.RowKit
open Go.ChangeMaps (open_string shut_string)
set_option linter.unusedVariables false
theorem own : ownKnob Try.prog.godebug = none := by kernel_rfl
theorem laidOut : laidOutB Try.prog = true := by kernel_rfl
theorem cells5 : Try.prog.cellsOf 5 = 1 := by kernel_rfl
theorem cells29 : Try.prog.cellsOf 29 = 20 := by kernel_rfl
/-- an array of 20 bytes that came in -/
theorem open_array {H : Type} {enc : TypeId × Value → H} {W : World} {base : Nat} {spare : Nat → Bool} {held : Bool} {v : Value} {d : DataW H} {p : List MemPlace} (h : Value.okWide Try.prog W .any base 29 v) (hd : DataW.Trod enc Try.prog W 0 spare held 29 v d p) :
    ∃ m : List Nat, v = .agg (Crc.Join.cl m).toArray ∧ m.length = 20 ∧ ∀ u, u ∈ m → u < 256 := by
  obtain ⟨cs, rfl, hsz, _⟩ : ∃ cs, v = .agg cs ∧ cs.size = Try.prog.cellsOf 29 ∧ Row.okWide Try.prog W .any base 29 cs := by
    simpa [Value.okWide, Try.underlying29] using h
  rw [cells29] at hsz
  obtain ⟨fuel, hf⟩ := hd
  obtain ⟨xs, m, _, _, _, hl, hel⟩ := DataW.trod_array Try.underlying29 hf
  have key : ∀ i, i < 20 → ∃ z : Nat, cs[i]? = some (.int .u8 (z : Int)) ∧ z < 256 := by
    intro i hi
    have hE := hel i hi
    rw [cells5, Nat.mul_one, List.getElem?_eq_getElem (by omega)] at hE
    obtain ⟨z, e1, _, wz⟩ := DataW.trod_int Try.underlying5 hE
    have hz := bounds_u8 wz
    refine ⟨z.toNat, ?_, by omega⟩
    have h0 : (((Value.agg cs).cells.toList.drop i).take 1)[0]? = some (.int .u8 z) := by rw [e1]; rfl
    rw [Int.toNat_of_nonneg hz.1]
    simpa [Value.cells] using h0
  have mk : ∀ n, n ≤ 20 → ∃ m : List Nat, m.length = n ∧ (∀ u, u ∈ m → u < 256) ∧ ∀ i, i < n → cs[i]? = some (.int .u8 ((m.getD i 0 : Nat) : Int)) := by
    intro n
    induction n with
    | zero => intro _; exact ⟨[], rfl, (fun u hu => by cases hu), (fun i hi => by omega)⟩
    | succ n ih =>
      intro hn
      obtain ⟨m, h1, h2, h3⟩ := ih (by omega)
      obtain ⟨z, hz, hb⟩ := key n (by omega)
      refine ⟨m ++ [z], by simp [h1], (fun u hu => ?_), (fun i hi => ?_)⟩
      · rcases List.mem_append.1 hu with hu | hu
        · exact h2 u hu
        · simp at hu; omega
      · by_cases e : i < n
        · rw [h3 i e, List.getD_eq_getElem?_getD, List.getD_eq_getElem?_getD, List.getElem?_append_left (by omega)]
        · obtain rfl : i = n := by omega
          rw [hz, List.getD_eq_getElem?_getD, List.getElem?_append_right (by omega), h1]; simp
  obtain ⟨m, h1, h2, h3⟩ := mk 20 (Nat.le_refl _)
  refine ⟨m, ?_, h1, h2⟩
  congr 1
  apply Array.ext_getElem?
  intro i
  by_cases hi : i < 20
  · rw [h3 i hi, List.getElem?_toArray]
    exact (Crc.Join.cl_at m i (by omega)).symm
  · rw [Array.getElem?_eq_none (by omega), List.getElem?_toArray, List.getElem?_eq_none (by simp [Crc.Join.cl]; omega)]
def zeros : Array Value := (List.replicate 20 (Value.int .u8 0)).toArray
set_option maxRecDepth 100000 in
theorem lifted (os : Os) (started : os.Started) (H : Type) (enc : TypeId × Value → H) :
    ReturnsInHanded {} Try.checked os 6 .any (Rows.crcJoinSpec.pre6 enc Try.prog Try.f6 Rows.crcJoinRow.domain false) (Rows.crcJoinSpec.post enc Try.prog Try.f6 false true false false) := by
  refine returnsInHanded_of_change_sized (C := Try.checked) own started (by kernel_rfl) Try.func6
    (ChangeSpec.witness6 (enc := enc) (C := Try.checked) false ⟨#[], #[.agg zeros, .agg zeros], []⟩ 8 (by kernel_rfl) (by kernel_rfl) (by kernel_rfl) (by kernel_rfl)) ?_
  intro W base args ds gs before hval0 hW hcnd hsz0 _
  have hval : ∀ (j : Nat) t v, Try.f6.params[j]? = some t → args[j]? = some v → Value.okWide Try.prog W .any base t v := hval0
  have hW' := hW
  obtain ⟨p, q, hA0, hV, rfl, hfz, hnd⟩ := hW
  have hA : DataW.TrodAll enc Try.prog W 0 (fun _ => true) true Try.f6.params.toList args.toList ds p := hA0
  rw [Try.params6] at hA hval
  obtain ⟨v0, vs0, d0, ds0, p0, q0, hargs, rfl, rfl, h0, r0⟩ := trodAll_cons hA
  obtain ⟨v1, vs1, d1, ds1, p1, q1, rfl, rfl, rfl, h1, r1⟩ := trodAll_cons r0
  obtain ⟨rfl, rfl, rfl⟩ := trodAll_nil r1
  obtain rfl : args = #[v0, v1] := by cases args; simp_all
  obtain ⟨rfl, rfl⟩ := trodVars_none hV
  have lt0 : ∀ x ∈ p0, x.block < W.heap.size := by obtain ⟨m, hm⟩ := h0; exact DataW.trod_lt m _ _ _ hm
  have lt1 : ∀ x ∈ p1, x.block < W.heap.size := by obtain ⟨m, hm⟩ := h1; exact DataW.trod_lt m _ _ _ hm
  obtain ⟨mx, rfl, lx, bx⟩ := open_array (hval 0 29 v0 rfl rfl) h0
  obtain ⟨my, rfl, ly, byy⟩ := open_array (hval 1 29 v1 rfl rfl) h1
  clear hA0 hval0 hsz0
  refine (Crc.join_walk mx my W lx ly bx byy).mono fun e W' ⟨he, bel⟩ => ?_
  subst he
  exact ⟨_, rfl, _, _, _, [], _, [], hW', trodAll_mk1 (shut_bool Try.underlying4 _), (trodAll_cons_mk (Below.trod laidOut (by kernel_rfl) (of_decide_eq_true (by kernel_rfl)) h0 bel lt0) (trodAll_cons_mk (Below.trod laidOut (by kernel_rfl) (of_decide_eq_true (by kernel_rfl)) h1 bel lt1) trodAll_mk0)), rfl, bel.frame _, fun h => by cases h⟩
theorem over : Rows.crcJoinRow.holds Try.pinned (OpenSpec.ofChange Rows.crcJoinSpec) :=
  OpenClaim.holds_of_wide 6 Try.f6 rfl rfl rfl rfl rfl rfl rfl ⟨rfl, rfl, rfl, rfl, rfl⟩ rfl rfl rfl rfl rfl (by kernel_rfl) Try.func6 (by kernel_rfl)
    (of_decide_eq_true (by kernel_rfl)) (by unfold Func.isWrapper; first | (rw [if_pos (by decide +kernel)]; kernel_rfl) | (rw [if_neg (by decide +kernel)]; exact ⟨rfl, rfl⟩))
    (fun os started H enc _ => lifted os started H enc)
theorem proved : Rows.CrcJoinSaid := over
#print axioms proved
end Go.Proofs.Ytbpmdmppncjbpaa.crcJoin
namespace Go.Proofs.Ytbpmdmppncjbpaa
/-- The row, under a short name, for the claim. -/
theorem crcJoin_holds : Rows.CrcJoinSaid := crcJoin.proved
end Go.Proofs.Ytbpmdmppncjbpaa
