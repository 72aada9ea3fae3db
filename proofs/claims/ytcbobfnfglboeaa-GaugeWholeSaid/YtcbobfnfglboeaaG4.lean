/- The document's key and Order of floats, whether two lists are alike, and the floats that are made of bytes: what each comes to. -/
import Derived.Test.YtcbobfnfglboeaaG3
set_option linter.unusedVariables false
set_option linter.unusedSimpArgs false
namespace Go.Proofs.Ytcbobfnfglboeaa.G
open Go.RowKit Go.Proofs.YtcbobfnfglboeaaW.PrintWords Go.Proofs.YtcbobfnfglboeaaW.PrintLast
open Fl
/-- the document's key -/
def keyb (a : Nat) : Nat := if INF < rung a then 18446744073709551615 else if 9223372036854775808 ≤ a then 18446744073709551615 - a else a + 9223372036854775808
theorem keyb_lt {a : Nat} (ha : a < 18446744073709551616) : keyb a < 18446744073709551616 := by
  unfold keyb
  split
  · decide
  · split <;> omega
theorem keyb_key {a : Nat} (ha : a < 18446744073709551616) : (keyb a : Int) = if isN a = true then 18446744073709551615 else key a + 9223372036854775808 := by
  unfold keyb key isN
  have h1 : a = a / 9223372036854775808 * 9223372036854775808 + rung a := by unfold rung; omega
  have h2 : rung a < 9223372036854775808 := rung_lt a
  by_cases hn : INF < rung a
  · simp [hn]
  · rw [if_neg hn]
    simp only [hn, decide_false, Bool.false_eq_true, if_false]
    by_cases hs : 9223372036854775808 ≤ a
    · have : sgn a = true := by unfold sgn; rw [beq_iff_eq]; omega
      rw [if_pos hs, this]; simp only [if_true]; omega
    · have : sgn a = false := by unfold sgn; rw [beq_eq_false_iff_ne]; omega
      rw [if_neg hs, this]; simp only [Bool.false_eq_true, if_false]; omega
theorem ord_keyb {a b : Nat} (ha : a < 18446744073709551616) (hb : b < 18446744073709551616) : ord a b = if keyb a < keyb b then -1 else if keyb b < keyb a then 1 else 0 := by
  have e1 := keyb_key ha
  have e2 := keyb_key hb
  have hI : INF = 9218868437227405312 := rfl
  have hk : ∀ c, isN c = false → -9223372036854775808 ≤ key c ∧ key c ≤ 9218868437227405312 := by
    intro c hc
    have h2 : rung c < 9223372036854775808 := rung_lt c
    have h3 : rung c ≤ INF := by simpa [isN] using hc
    unfold key
    rw [hc]
    cases sgn c <;> simp <;> omega
  have hn : ∀ c, isN c = true → key c = 9223372036854775808 := by intro c hc; unfold key; rw [hc]; rfl
  have ka : isN a = false ∨ isN a = true := by cases isN a <;> simp
  have kb : isN b = false ∨ isN b = true := by cases isN b <;> simp
  unfold ord
  rcases ka with na | na <;> rcases kb with nb | nb <;> simp only [na, nb, if_true, Bool.false_eq_true, if_false] at e1 e2
  · repeat' split
    all_goals omega
  · have := hk a na; have := hn b nb
    repeat' split
    all_goals omega
  · have := hk b nb; have := hn a na
    repeat' split
    all_goals omega
  · have := hn a na; have := hn b nb
    repeat' split
    all_goals omega
set_option maxHeartbeats 800000 in
set_option maxRecDepth 100000 in
theorem key_any (a : Nat) (ha : a < 18446744073709551616) (w : World) : Calls Try.prog 27 #[F a] w fun e w' => e = .returned (.int .u64 (keyb a : Int)) ∧ w = w' := by
  have e25 := ext25
  have hand : bits .and .u64 (a : Int) 9223372036854775807 = (rung a : Int) := by
    have := u64_and_nat a 9223372036854775807 ha (by decide)
    rw [show ((9223372036854775807 : Nat) : Int) = 9223372036854775807 from rfl] at this
    rw [this]
    show ((a &&& 9223372036854775807 : Nat) : Int) = ((a % 9223372036854775808 : Nat) : Int)
    rw [show a &&& 9223372036854775807 = a % 9223372036854775808 from Nat.and_two_pow_sub_one_eq_mod a 63]
  have hrg := rung_lt a
  have hval : ∀ v : Int, v = (keyb a : Int) → Ending.returned (Value.int .u64 v) = Ending.returned (Value.int .u64 (keyb a : Int)) := fun v h => by rw [h]
  obtain ⟨r, hr⟩ : ∃ r, bits .and .u64 (a : Int) 9223372036854775807 = r := ⟨_, rfl⟩
  have hra : r = (rung a : Int) := hr.symm.trans hand
  have HA := Aside0.mk (And.intro ha (And.intro hra hrg))
  have HV := Aside0.mk hval
  clear hand ha hra hrg hval
  by_cases h1 : (9218868437227405312 : Int) < r
  · have hk : (18446744073709551615 : Int) = (keyb a : Int) := by
      have := HA.out.2.1
      have hI : INF = 9218868437227405312 := rfl
      unfold keyb; rw [if_pos (by omega)]; rfl
    have HK := Aside0.mk hk
    clear hk
    go_enter Try.func27, Try.ntmps27
    go_wp2_with fail
    go_ret
    exact ⟨HV.out _ HK.out, rfl⟩
  · by_cases h2 : (9223372036854775808 : Int) ≤ (a : Int)
    · have hk : bits .xor .u64 IntKind.u64.max (a : Int) = (keyb a : Int) := by
        have h3 := HA.out.1
        have h4 := HA.out.2.1
        have hI : INF = 9218868437227405312 := rfl
        unfold keyb; rw [if_neg (by omega), if_pos (by omega)]
        have := u64_xor_nat 18446744073709551615 a (by decide) h3
        rw [show IntKind.u64.max = ((18446744073709551615 : Nat) : Int) from rfl, this]
        congr 1
        have hx := Nat.testBit_two_pow_sub_succ (n := 64) h3
        apply Nat.eq_of_testBit_eq
        intro i
        rw [Nat.testBit_xor, show (18446744073709551615 : Nat) = 2 ^ 64 - 1 from rfl, Nat.testBit_two_pow_sub_one]
        rw [show 2 ^ 64 - 1 - a = 2 ^ 64 - (a + 1) from by omega, hx]
        by_cases hi : i < 64
        · simp [hi]
        · have : a.testBit i = false := Nat.testBit_lt_two_pow (Nat.lt_of_lt_of_le h3 (Nat.pow_le_pow_right (n := 2) (by decide) (show 64 ≤ i by omega)))
          simp [hi, this]
      have HK := Aside0.mk hk
      clear hk
      go_enter Try.func27, Try.ntmps27
      go_wp2_with fail
      go_ret
      exact ⟨HV.out _ HK.out, rfl⟩
    · have hk : (a : Int) + 9223372036854775808 = (keyb a : Int) := by
        have h3 := HA.out.1
        have h4 := HA.out.2.1
        have hI : INF = 9218868437227405312 := rfl
        unfold keyb; rw [if_neg (by omega), if_neg (by omega)]; omega
      have HK := Aside0.mk hk
      clear hk
      go_enter Try.func27, Try.ntmps27
      go_wp2_with fail
      go_ret
      exact ⟨HV.out _ HK.out, rfl⟩
set_option maxHeartbeats 800000 in
theorem rorder_any (a b : Nat) (ha : a < 18446744073709551616) (hb : b < 18446744073709551616) (w : World) : Calls Try.prog 24 #[F a, F b] w fun e w' => e = .returned (.int .i64 (ord a b)) ∧ w = w' := by
  have HO := Aside0.mk (ord_keyb ha hb)
  have HA := Aside0.mk ha
  have HB := Aside0.mk hb
  clear ha hb
  obtain ⟨x, hx⟩ : ∃ x : Int, x = (keyb a : Int) := ⟨_, rfl⟩
  obtain ⟨y, hy⟩ : ∃ y : Int, y = (keyb b : Int) := ⟨_, rfl⟩
  have hv : ord a b = if x < y then -1 else if y < x then 1 else 0 := by rw [HO.out, hx, hy]; simp only [Int.ofNat_lt]
  have KA : ∀ w, Calls Try.prog 27 #[F a] w fun e w' => e = .returned (.int .u64 x) ∧ w = w' := fun w => by rw [hx]; exact key_any a HA.out w
  have KB : ∀ w, Calls Try.prog 27 #[F b] w fun e w' => e = .returned (.int .u64 y) ∧ w = w' := fun w => by rw [hy]; exact key_any b HB.out w
  have HKA := Aside0.mk KA
  have HKB := Aside0.mk KB
  clear KA KB hx hy HO
  rcases Int.lt_trichotomy x y with h | h | h
  · rw [hv, if_pos h]
    clear hv
    go_enter Try.func24, Try.ntmps24
    go_wp2_with fail
    refine (HKA.out _).mono ?_
    rintro e w' ⟨rfl, rfl⟩
    go_wp2_with fail
    refine (HKB.out _).mono ?_
    rintro e w' ⟨rfl, rfl⟩
    go_wp2_with fail
    go_ret
    exact ⟨rfl, rfl⟩
  · rw [hv, if_neg (by omega), if_neg (by omega)]
    clear hv
    subst h
    go_enter Try.func24, Try.ntmps24
    go_wp2_with fail
    refine (HKA.out _).mono ?_
    rintro e w' ⟨rfl, rfl⟩
    go_wp2_with fail
    refine (HKB.out _).mono ?_
    rintro e w' ⟨rfl, rfl⟩
    go_wp2_with fail
    go_ret
    exact ⟨rfl, rfl⟩
  · rw [hv, if_neg (by omega), if_pos h]
    clear hv
    have h' : ¬ x < y := by omega
    go_enter Try.func24, Try.ntmps24
    go_wp2_with fail
    refine (HKA.out _).mono ?_
    rintro e w' ⟨rfl, rfl⟩
    go_wp2_with fail
    refine (HKB.out _).mono ?_
    rintro e w' ⟨rfl, rfl⟩
    go_wp2_with fail
    go_ret
    exact ⟨rfl, rfl⟩
end Go.Proofs.Ytcbobfnfglboeaa.G
