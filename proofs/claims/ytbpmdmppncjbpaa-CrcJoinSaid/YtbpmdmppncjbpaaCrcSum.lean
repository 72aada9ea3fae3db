/- What Sum and begun come to: the plain sum of bits. No condition but that there are at most 2^47 bytes. -/
import Derived.Test.YtbpmdmppncjbpaaCrcW
import Derived.Test.YtbpmdmppncjbpaaBits
namespace Go.Proofs.Ytbpmdmppncjbpaa.Crc.Sums
open Go.RowKit Go.Proofs.YtbpmdmppncjbpaaW.PrintWords Go.Proofs.YtbpmdmppncjbpaaW.PrintLast Go.Proofs.Ytbpmdmppncjbpaa.Bits16 Go.Proofs.Ytbpmdmppncjbpaa.Crc

/-- one byte's eight bits -/
theorem sum_l1 (l : List Int) (n i : Int) (r : Int) : ∀ (d c : Nat) (j : Int), d ≤ 8 → c < 65536 → j = 8 - (d : Int) → Ev (fun k => crc_Sum.l0 k (stepN d c : Int) l n (wrap64 (i + 1))) r → Ev (fun k => crc_Sum.l1 k (c : Int) l n i j) r := by
  intro d
  induction d with
  | zero =>
    intro c j _ _ hj h
    refine Ev.step (fun k => ?_) h
    simp only [crc_Sum.l1]
    rw [if_neg (by omega)]
    rfl
  | succ d ih =>
    intro c j hd8 hc hj h
    have hw : wrap64 (j + 1) = 8 - (d : Int) := by unfold wrap64; omega
    have hh := half_lt hc
    refine Ev.step (f := fun k => crc_Sum.l1 k (Bits16.step c : Int) l n i (8 - (d : Int))) (fun k => ?_) (ih (Bits16.step c) _ (by omega) (step_lt hc) rfl h)
    simp only [crc_Sum.l1]
    by_cases hd : j < 8
    · rw [if_pos hd, u16_low hc, hw, half_cast]
      by_cases hp : c % 2 = 1
      · rw [if_pos (by omega), step_odd hp, show (40961 : Int) = ((40961 : Nat) : Int) from rfl, u16_xor_cast hh (by decide)]
      · rw [if_neg (by omega), step_even hp]
    · omega
theorem sum_l0 (m : List Nat) (hn : m.length ≤ 140737488351232) (hm : ∀ x, x ∈ m → x < 256) : ∀ (s p : List Nat) (c : Nat), m = p ++ s → c < 65536 → Ev (fun k => crc_Sum.l0 k (c : Int) (cast m) ((cast m).length : Int) (p.length : Int)) (sum c s : Int) := by
  intro s
  induction s with
  | nil =>
    intro p c e _
    refine Ev.step (fun k => ?_) (Ev.now _)
    simp only [crc_Sum.l0]
    rw [if_neg (by rw [cast_length, e, List.append_nil]; omega)]
    rfl
  | cons x s ih =>
    intro p c e hc
    have hx : x < 256 := hm x (by rw [e]; simp)
    have hl : (cast m).length = p.length + 1 + s.length := by rw [cast_length, e]; simp; omega
    have hlm : m.length = p.length + 1 + s.length := by rw [e]; simp; omega
    have hr : rd (cast m) (p.length : Int) = (x : Int) := by
      unfold rd; rw [e]; simpa using cast_at p x s
    have hw : IntKind.u16.wrap (x : Int) = (x : Int) := by rw [IntKind.wrap_u16]; omega
    have hwr : wrap64 ((p.length : Int) + 1) = (((p ++ [x]).length : Nat) : Int) := by simp; unfold wrap64; omega
    refine Ev.step (f := fun k => crc_Sum.l1 k ((c ^^^ x : Nat) : Int) (cast m) ((cast m).length : Int) (p.length : Int) 0) (fun k => ?_) ?_
    · simp only [crc_Sum.l0]
      rw [if_pos (by omega), if_pos (by omega), if_pos (by omega), hr, hw, u16_xor_cast hc (by omega)]
    · refine sum_l1 _ _ _ _ 8 (c ^^^ x) 0 (by decide) (Nat.xor_lt_two_pow (n := 16) hc (by show x < 65536; omega)) (by decide) ?_
      rw [hwr]
      exact ih (p ++ [x]) (stepN 8 (c ^^^ x)) (by rw [e]; simp) (byte_lt hc hx)
theorem sum_f (m : List Nat) (hn : m.length ≤ 140737488351232) (hm : ∀ x, x ∈ m → x < 256) : Ev (fun k => crc_Sum.f k (cast m)) (sum 0 m : Int) := sum_l0 m hn hm m [] 0 rfl (by decide)
theorem begun_f : Ev (fun k => tenancylaw3_begun.f k) true := by
  have h1 := sum_f [49, 50, 51, 52, 53, 54, 55, 56, 57] (by decide) (by decide)
  have h2 := sum_f [] (by decide) (fun x hx => by cases hx)
  refine Ev.bind h1 (Ev.congr (fun k => if_pos (by decide +kernel)) ?_)
  exact Ev.bind h2 (Ev.now true)

end Go.Proofs.Ytbpmdmppncjbpaa.Crc.Sums
