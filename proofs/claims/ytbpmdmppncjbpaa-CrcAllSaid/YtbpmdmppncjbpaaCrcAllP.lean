/- The sum of up to 300 bytes is the one that the document tells: the plain law. No condition. -/
import Derived.Test.YtbpmdmppncjbpaaCrcSum
import Derived.Test.YtbpmdmppncjbpaaCrcAllW
namespace Go.Proofs.Ytbpmdmppncjbpaa.Crc.Sums
open Go.RowKit Go.Proofs.YtbpmdmppncjbpaaW.PrintWords Go.Proofs.YtbpmdmppncjbpaaW.PrintLast Go.Proofs.Ytbpmdmppncjbpaa.Bits16 Go.Proofs.Ytbpmdmppncjbpaa.Crc

theorem ref_l1 (l : List Int) (i : Int) (r : Int) : ∀ (d c : Nat) (j : Int), d ≤ 8 → c < 65536 → j = 8 - (d : Int) → Ev (fun k => tenancyref1_Crc.l0 k l (stepN d c : Int) (wrap64 (i + 1))) r → Ev (fun k => tenancyref1_Crc.l1 k l (c : Int) i j) r := by
  intro d
  induction d with
  | zero =>
    intro c j _ _ hj h
    refine Ev.step (fun k => ?_) h
    simp only [tenancyref1_Crc.l1]
    rw [if_neg (by omega)]
    rfl
  | succ d ih =>
    intro c j hd8 hc hj h
    have hw : wrap64 (j + 1) = 8 - (d : Int) := by unfold wrap64; omega
    have hh := half_lt hc
    have ht : Int.tmod (c : Int) 2 = ((c % 2 : Nat) : Int) := by rw [Int.tmod_eq_emod_of_nonneg (by omega)]; omega
    have hq : wrap64 (Int.tdiv (c : Int) 2) = ((c >>> 1 : Nat) : Int) := by rw [← half_cast, Int.tdiv_eq_ediv_of_nonneg (by omega)]; unfold wrap64; omega
    refine Ev.step (f := fun k => tenancyref1_Crc.l1 k l (Bits16.step c : Int) i (8 - (d : Int))) (fun k => ?_) (ih (Bits16.step c) _ (by omega) (step_lt hc) rfl h)
    simp only [tenancyref1_Crc.l1]
    by_cases hd : j < 8
    · rw [if_pos hd, ht, hw, hq]
      by_cases hp : c % 2 = 1
      · rw [if_pos (by omega), step_odd hp, show (40961 : Int) = ((40961 : Nat) : Int) from rfl, i64_xor_cast hh (by decide)]
      · rw [if_neg (by omega), step_even hp]
    · omega
theorem ref_l0 (m : List Nat) (hn : m.length ≤ 140737488351232) (hm : ∀ x, x ∈ m → x < 256) : ∀ (s p : List Nat) (c : Nat), m = p ++ s → c < 65536 → Ev (fun k => tenancyref1_Crc.l0 k (cast m) (c : Int) (p.length : Int)) (sum c s : Int) := by
  intro s
  induction s with
  | nil =>
    intro p c e hc
    refine Ev.step (fun k => ?_) (Ev.now _)
    simp only [tenancyref1_Crc.l0]
    rw [if_neg (by rw [cast_length, e, List.append_nil]; omega), IntKind.wrap_u16]
    show some ((c : Int) % 65536) = some (c : Int)
    congr 1; omega
  | cons x s ih =>
    intro p c e hc
    have hx : x < 256 := hm x (by rw [e]; simp)
    have hl : (cast m).length = p.length + 1 + s.length := by rw [cast_length, e]; simp; omega
    have hlm : m.length = p.length + 1 + s.length := by rw [e]; simp; omega
    have hr : rd (cast m) (p.length : Int) = (x : Int) := by
      unfold rd; rw [e]; simpa using cast_at p x s
    have hw : wrap64 (x : Int) = (x : Int) := by unfold wrap64; omega
    have hwr : wrap64 ((p.length : Int) + 1) = (((p ++ [x]).length : Nat) : Int) := by simp; unfold wrap64; omega
    refine Ev.step (f := fun k => tenancyref1_Crc.l1 k (cast m) ((c ^^^ x : Nat) : Int) (p.length : Int) 0) (fun k => ?_) ?_
    · simp only [tenancyref1_Crc.l0]
      rw [if_pos (by omega), if_pos (by omega), hr, hw, i64_xor_cast hc (by omega)]
    · refine ref_l1 _ _ _ 8 (c ^^^ x) 0 (by decide) (Nat.xor_lt_two_pow (n := 16) hc (by show x < 65536; omega)) (by decide) ?_
      rw [hwr]
      exact ih (p ++ [x]) (stepN 8 (c ^^^ x)) (by rw [e]; simp) (byte_lt hc hx)
theorem ref_f (m : List Nat) (hn : m.length ≤ 140737488351232) (hm : ∀ x, x ∈ m → x < 256) : Ev (fun k => tenancyref1_Crc.f k (cast m)) (sum 0 m : Int) := ref_l0 m hn hm m [] 0 rfl (by decide)
theorem CrcAll : tenancylaw3_CrcAll.Pure := by
  intro l _ hl hw
  obtain ⟨m, rfl, hm⟩ := of_bytes l hw
  have hn : m.length ≤ 140737488351232 := by rw [cast_length] at hl; omega
  apply Ev.rounds
  refine Ev.bind begun_f (Ev.congr (fun k => if_pos rfl) ?_)
  by_cases h : ((cast m).length : Int) > 300
  · exact Ev.congr (fun k => if_pos h) (Ev.now true)
  · refine Ev.congr (fun k => if_neg h) ?_
    refine Ev.bind (sum_f m hn hm) (Ev.bind (ref_f m hn hm) ?_)
    rw [beq_self_eq_true]
    exact Ev.now true

end Go.Proofs.Ytbpmdmppncjbpaa.Crc.Sums
