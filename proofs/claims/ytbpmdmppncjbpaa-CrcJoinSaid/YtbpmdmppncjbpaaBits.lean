/- Plain facts about a sum of bits, one bit at a time: that it is linear, that turned bits are seen. No program in sight. -/
import Derived.Laws.BitsAllLaws
import Derived.Laws.BitsLemmas
import Derived.WalkKit
namespace Go.Proofs.Ytbpmdmppncjbpaa.Bits16
theorem xor_zero_iff {a b : Nat} (h : a ^^^ b = 0) : a = b := by
  have := congrArg (fun t => t ^^^ b) h
  simpa [Nat.xor_assoc] using this
/-- one bit -/
def step (v : Nat) : Nat := if v % 2 = 1 then (v >>> 1) ^^^ 40961 else v >>> 1
def stepN : Nat → Nat → Nat
  | 0, v => v
  | n + 1, v => stepN n (step v)
theorem par_xor (a b : Nat) : (a ^^^ b) % 2 = (a % 2 + b % 2) % 2 := by
  have := @Nat.xor_mod_two_pow a b 1
  simp at this
  rw [this]
  rcases Nat.mod_two_eq_zero_or_one a with h | h <;> rcases Nat.mod_two_eq_zero_or_one b with h' | h' <;> rw [h, h'] <;> rfl
theorem step_xor (a b : Nat) : step (a ^^^ b) = step a ^^^ step b := by
  unfold step
  rw [par_xor, Nat.shiftRight_xor_distrib]
  rcases Nat.mod_two_eq_zero_or_one a with h | h <;> rcases Nat.mod_two_eq_zero_or_one b with h' | h' <;> rw [h, h'] <;> simp
  · rw [Nat.xor_assoc]
  · rw [Nat.xor_assoc, Nat.xor_assoc]; congr 1; exact Nat.xor_comm _ _
  · rw [Nat.xor_assoc, ← Nat.xor_assoc 40961, Nat.xor_comm 40961 (b >>> 1), Nat.xor_assoc (b >>> 1), Nat.xor_self, Nat.xor_zero]
theorem stepN_xor (n : Nat) : ∀ a b, stepN n (a ^^^ b) = stepN n a ^^^ stepN n b := by
  induction n with
  | zero => intro a b; rfl
  | succ n ih => intro a b; show stepN n (step _) = _; rw [step_xor, ih]; rfl
theorem step_lt {v : Nat} (h : v < 65536) : step v < 65536 := by
  unfold step
  have : v >>> 1 < 65536 := by rw [Nat.shiftRight_eq_div_pow]; omega
  split
  · exact Nat.xor_lt_two_pow (n := 16) this (by decide)
  · exact this
theorem stepN_lt (n : Nat) : ∀ {v : Nat}, v < 65536 → stepN n v < 65536 := by
  induction n with
  | zero => intro v h; exact h
  | succ n ih => intro v h; exact ih (step_lt h)
theorem step_ne {v : Nat} (h : v < 65536) (h0 : v ≠ 0) : step v ≠ 0 := by
  unfold step
  have e : v >>> 1 = v / 2 := by rw [Nat.shiftRight_eq_div_pow]
  split
  · rw [e]
    intro hx
    have := xor_zero_iff hx
    omega
  · rw [e]; omega
theorem stepN_ne (n : Nat) : ∀ {v : Nat}, v < 65536 → v ≠ 0 → stepN n v ≠ 0 := by
  induction n with
  | zero => intro v _ h; exact h
  | succ n ih => intro v h h0; exact ih (step_lt h) (step_ne h h0)
theorem step_shl (v k : Nat) : step (v <<< (k + 1)) = v <<< k := by
  unfold step
  have e : v <<< (k + 1) = 2 * (v <<< k) := by rw [Nat.shiftLeft_eq, Nat.shiftLeft_eq, Nat.pow_succ, ← Nat.mul_assoc, Nat.mul_comm]
  rw [e, if_neg (by omega), Nat.shiftRight_eq_div_pow]; omega
theorem stepN_shl (n : Nat) : ∀ v k, stepN n (v <<< (k + n)) = v <<< k := by
  induction n with
  | zero => intro v k; rfl
  | succ n ih => intro v k; show stepN n (step (v <<< (k + n + 1))) = _; rw [step_shl, ih]
theorem stepN_add (m : Nat) : ∀ n v, stepN (m + n) v = stepN n (stepN m v) := by
  induction m with
  | zero => intro n v; rw [Nat.zero_add]; rfl
  | succ m ih => intro n v; rw [Nat.succ_add]; exact ih n (step v)
/-- a byte taken in -/
def byte (c x : Nat) : Nat := stepN 8 (c ^^^ x)
def sum (c : Nat) (l : List Nat) : Nat := l.foldl byte c
theorem byte_xor (c d x y : Nat) : byte (c ^^^ d) (x ^^^ y) = byte c x ^^^ byte d y := by
  unfold byte
  rw [← stepN_xor]; congr 1
  rw [Nat.xor_assoc, Nat.xor_assoc, ← Nat.xor_assoc d, ← Nat.xor_assoc x, Nat.xor_comm d x]
theorem byte_lt {c x : Nat} (h : c < 65536) (hx : x < 256) : byte c x < 65536 :=
  stepN_lt 8 (Nat.xor_lt_two_pow (n := 16) h (by show x < 65536; omega))
theorem sum_lt (l : List Nat) : ∀ {c : Nat}, c < 65536 → (∀ x, x ∈ l → x < 256) → sum c l < 65536 := by
  induction l with
  | nil => intro c h _; exact h
  | cons a l ih => intro c h hl; exact ih (byte_lt h (hl a (by simp))) (fun x hx => hl x (by simp [hx]))
/-- linear -/
theorem sum_xor (l : List Nat) : ∀ (m : List Nat) (c d : Nat), l.length = m.length → sum (c ^^^ d) (List.zipWith (· ^^^ ·) l m) = sum c l ^^^ sum d m := by
  induction l with
  | nil => intro m c d h; cases m with | nil => rfl | cons _ _ => cases h
  | cons a l ih =>
    intro m c d h
    cases m with
    | nil => cases h
    | cons b m =>
      show sum (byte (c ^^^ d) (a ^^^ b)) _ = _
      rw [byte_xor]; exact ih m _ _ (by simpa using h)
theorem sum_append (c : Nat) (l m : List Nat) : sum c (l ++ m) = sum (sum c l) m := List.foldl_append ..
/-- states that part stay parted -/
theorem sum_part (l : List Nat) : ∀ (c d : Nat), c < 65536 → d < 65536 → c ≠ d → (∀ x, x ∈ l → x < 256) → sum c l ≠ sum d l := by
  induction l with
  | nil => intro c d _ _ h _; exact h
  | cons a l ih =>
    intro c d hc hd h hl
    have ha := hl a (by simp)
    refine ih _ _ (byte_lt hc ha) (byte_lt hd ha) ?_ (fun x hx => hl x (by simp [hx]))
    intro e
    have h1 : byte c a ^^^ byte d a = 0 := by rw [e, Nat.xor_self]
    rw [← byte_xor, Nat.xor_self] at h1
    unfold byte at h1
    rw [Nat.xor_zero] at h1
    exact stepN_ne 8 (Nat.xor_lt_two_pow (n := 16) hc hd) (fun t => h (xor_zero_iff t)) h1
/-- three bytes, of which the bits of v are turned: another state -/
theorem three (c x y z p q r : Nat) (hv : stepN 24 (p ^^^ (q <<< 8) ^^^ (r <<< 16)) ≠ 0) : byte (byte (byte c (x ^^^ p)) (y ^^^ q)) (z ^^^ r) ≠ byte (byte (byte c x) y) z := by
  intro e
  apply hv
  have h0 : byte (byte (byte c (x ^^^ p)) (y ^^^ q)) (z ^^^ r) = byte (byte (byte c x) y) z ^^^ byte (byte (byte 0 p) q) r := by
    rw [← byte_xor, ← byte_xor, ← byte_xor, Nat.xor_zero]
  rw [h0] at e
  have h1 : byte (byte (byte 0 p) q) r = 0 := by
    have := congrArg (fun t => byte (byte (byte c x) y) z ^^^ t) e
    simpa [← Nat.xor_assoc] using this
  rw [← h1]
  unfold byte
  rw [Nat.zero_xor]
  have k1 : stepN 8 (q <<< 8) = q := by have := stepN_shl 8 q 0; simpa using this
  have k2 : stepN 8 (r <<< 16) = r <<< 8 := stepN_shl 8 r 8
  have k3 : stepN 8 (r <<< 8) = r := by have := stepN_shl 8 r 0; simpa using this
  rw [show 24 = 8 + (8 + 8) from rfl, stepN_add, stepN_xor 8, stepN_xor 8 p, k1, k2, stepN_add, stepN_xor 8 (stepN 8 p ^^^ q), k3]
/-- sixteen bits, shifted by less than 8, are seen -/
theorem seen (b s : Nat) (hb : b < 65536) (h0 : b ≠ 0) (hs : s < 8) : stepN 24 (b <<< s) ≠ 0 := by
  have e : 24 = s + (24 - s) := by omega
  rw [e, stepN_add]
  have := stepN_shl s b 0
  simp at this
  rw [this]
  exact stepN_ne _ hb h0
/-! what the printed functions do with one bit -/
theorem u16_xor_cast {a b : Nat} (ha : a < 65536) (hb : b < 65536) : Go.bits .xor .u16 (a : Int) (b : Int) = ((a ^^^ b : Nat) : Int) := u16_xor_nat a b ha hb
theorem i64_xor_cast {a b : Nat} (ha : a < 65536) (hb : b < 65536) : Go.bits .xor .i64 (a : Int) (b : Int) = ((a ^^^ b : Nat) : Int) := by
  have ha' : a % 2 ^ 64 = a := Nat.mod_eq_of_lt (by omega)
  have hb' : b % 2 ^ 64 = b := Nat.mod_eq_of_lt (by omega)
  have hx : a ^^^ b < 65536 := Nat.xor_lt_two_pow (n := 16) ha hb
  show IntKind.i64.wrap ((BitVec.ofInt 64 (a : Int) ^^^ BitVec.ofInt 64 (b : Int)).toNat : Int) = _
  rw [BitVec.toNat_xor, BitVec.ofInt_natCast, BitVec.ofInt_natCast, BitVec.toNat_ofNat, BitVec.toNat_ofNat, ha', hb', IntKind.wrap_i64]
  omega
theorem u16_low {a : Nat} (ha : a < 65536) : Go.bits .and .u16 (a : Int) 1 = ((a % 2 : Nat) : Int) := by
  have := u16_and_nat a 1 ha (by decide)
  rw [Nat.and_one_is_mod] at this
  exact this
theorem half_cast (a : Nat) : (a : Int) / (2 : Int) = ((a >>> 1 : Nat) : Int) := by rw [Nat.shiftRight_eq_div_pow]; omega
theorem step_odd {v : Nat} (h : v % 2 = 1) : (step v : Int) = ((v >>> 1 ^^^ 40961 : Nat) : Int) := by unfold step; rw [if_pos h]
theorem step_even {v : Nat} (h : v % 2 ≠ 1) : (step v : Int) = ((v >>> 1 : Nat) : Int) := by unfold step; rw [if_neg h]
theorem half_lt {v : Nat} (h : v < 65536) : v >>> 1 < 65536 := by rw [Nat.shiftRight_eq_div_pow]; omega
/-- bytes as whole numbers -/
def cast (m : List Nat) : List Int := m.map (fun (x : Nat) => (x : Int))
theorem cast_length (m : List Nat) : (cast m).length = m.length := List.length_map ..
theorem cast_at (p : List Nat) (x : Nat) (s : List Nat) : (cast (p ++ x :: s)).getD p.length 0 = (x : Int) := by
  simp [cast]
theorem of_bytes (l : List Int) (h : ∀ x ∈ l, (Lit.int .u8 x).wf = true) : ∃ m : List Nat, l = cast m ∧ ∀ x, x ∈ m → x < 256 := by
  induction l with
  | nil => exact ⟨[], rfl, fun x hx => by cases hx⟩
  | cons a l ih =>
    obtain ⟨m, rfl, hm⟩ := ih (fun x hx => h x (by simp [hx]))
    have ha := h a (by simp)
    have hb : 0 ≤ a ∧ a ≤ 255 := by simpa [Lit.wf, IntKind.min, IntKind.max, IntKind.signed, IntKind.bits] using ha
    refine ⟨a.toNat :: m, ?_, ?_⟩
    · show a :: cast m = ((a.toNat : Nat) : Int) :: cast m
      rw [Int.toNat_of_nonneg hb.1]
    · intro x hx
      rcases List.mem_cons.1 hx with rfl | hx
      · omega
      · exact hm x hx
end Go.Proofs.Ytbpmdmppncjbpaa.Bits16
