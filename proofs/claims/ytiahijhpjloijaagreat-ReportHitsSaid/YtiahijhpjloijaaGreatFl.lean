/- The order of floats (double) by a key: what comparing two bits says; sums, quotients, differences and what is no number. Plain facts; no program in sight. -/
import GoSem.Core.Float
namespace Go.Proofs.YtiahijhpjloijaaGreat.Fl
open Go Ieee

abbrev D : Format := FloatKind.f64.format
/-- the rung and sign -/
def rung (a : Nat) : Nat := a % 9223372036854775808
def sgn (a : Nat) : Bool := a / 9223372036854775808 % 2 == 1
def INF : Nat := 9218868437227405312
def isN (a : Nat) : Bool := INF < rung a
/-- magnitude in units of the least place -/
def M (r : Nat) : Nat := if r < 4503599627370496 then r else (4503599627370496 + r % 4503599627370496) * 2 ^ (r / 4503599627370496 - 1)
theorem M_succ (r : Nat) : M r < M (r + 1) := by
  unfold M
  by_cases h1 : r + 1 < 4503599627370496
  · rw [if_pos h1, if_pos (by omega)]; omega
  · rw [if_neg h1]
    by_cases h2 : r < 4503599627370496
    · have : r + 1 = 4503599627370496 := by omega
      rw [if_pos h2, this]; simp; omega
    · rw [if_neg h2]
      by_cases h3 : r % 4503599627370496 + 1 < 4503599627370496
      · have e1 : (r + 1) % 4503599627370496 = r % 4503599627370496 + 1 := by omega
        have e2 : (r + 1) / 4503599627370496 = r / 4503599627370496 := by omega
        rw [e1, e2]
        exact Nat.mul_lt_mul_of_pos_right (by omega) (Nat.two_pow_pos _)
      · have e1 : (r + 1) % 4503599627370496 = 0 := by omega
        have e2 : (r + 1) / 4503599627370496 - 1 = (r / 4503599627370496 - 1) + 1 := by omega
        rw [e1, e2, Nat.pow_succ, Nat.mul_comm _ 2, ← Nat.mul_assoc]
        exact Nat.mul_lt_mul_of_pos_right (by omega) (Nat.two_pow_pos _)
theorem M_mono {r s : Nat} (h : r < s) : M r < M s := by
  induction s with
  | zero => omega
  | succ s ih =>
    have := M_succ s
    by_cases e : r = s
    · subst e; exact this
    · have := ih (by omega); omega
theorem M_lt_iff {r s : Nat} : M r < M s ↔ r < s :=
  ⟨fun h => by
    by_cases c : r < s
    · exact c
    · by_cases e : r = s
      · subst e; omega
      · have := M_mono (r := s) (s := r) (by omega); omega, M_mono⟩
theorem M_zero : M 0 = 0 := rfl
/-- value -/
def val (a : Nat) : Int := if sgn a then -(M (rung a) : Int) else (M (rung a) : Int)
/-- the place of a rung's last digit above the least place -/
def plc (r : Nat) : Nat := if r < 4503599627370496 then 0 else r / 4503599627370496 - 1
def man (r : Nat) : Nat := if r < 4503599627370496 then r else 4503599627370496 + r % 4503599627370496
theorem M_eq (r : Nat) : M r = man r * 2 ^ plc r := by
  unfold M man plc; split <;> simp
theorem sw : D.signWeight = 9223372036854775808 := by decide
theorem bn : D.binade = 4503599627370496 := by decide
theorem ir : D.infRung = INF := by decide
theorem read_num (a : Nat) (h : rung a < INF) : D.read a = .number (sgn a) (man (rung a)) (D.leastPlace + (plc (rung a) : Nat)) := by
  unfold Format.read
  rw [sw, bn, ir]
  show (if rung a < 4503599627370496 then _ else _) = _
  unfold man plc
  by_cases h1 : rung a < 4503599627370496
  · rw [if_pos h1, if_pos h1, if_pos h1]; simp [sgn, rung]
  · rw [if_neg h1, if_neg h1, if_neg h1, show (a % 9223372036854775808) = rung a from rfl, if_pos h]; simp [sgn]
theorem read_inf (a : Nat) (h : rung a = INF) : D.read a = .infinity (sgn a) := by
  unfold Format.read
  rw [sw, bn, ir]
  show (if rung a < 4503599627370496 then _ else if rung a < INF then _ else if rung a = INF then _ else _) = _
  rw [if_neg (by rw [h]; decide), if_neg (by omega), if_pos h]; rfl
theorem read_nan (a : Nat) (h : isN a = true) : D.read a = .nan (sgn a) (rung a - INF) := by
  have h : INF < rung a := by simpa [isN] using h
  have hI : INF = 9218868437227405312 := rfl
  unfold Format.read
  rw [sw, bn, ir]
  show (if rung a < 4503599627370496 then _ else if rung a < INF then _ else if rung a = INF then _ else _) = _
  rw [if_neg (by omega), if_neg (by omega), if_neg (by omega)]; rfl

theorem cmp_scale (x y : Int) (c : Nat) : compare (x * (2 ^ c : Nat)) (y * (2 ^ c : Nat)) = compare x y := by
  have hc : (0 : Int) < ((2 ^ c : Nat) : Int) := by exact_mod_cast Nat.two_pow_pos c
  have h : x * (2 ^ c : Nat) < y * (2 ^ c : Nat) ↔ x < y := ⟨fun h => Int.lt_of_mul_lt_mul_right h (Int.le_of_lt hc), fun h => Int.mul_lt_mul_of_pos_right h hc⟩
  have h2 : x * (2 ^ c : Nat) = y * (2 ^ c : Nat) ↔ x = y := ⟨fun h => Int.eq_of_mul_eq_mul_right (by omega) h, fun h => by rw [h]⟩
  show compareOfLessAndEq _ _ = compareOfLessAndEq _ _
  unfold compareOfLessAndEq
  by_cases a : x < y
  · rw [if_pos a, if_pos (h.2 a)]
  · rw [if_neg a, if_neg (fun t => a (h.1 t))]
    by_cases b : x = y
    · rw [if_pos b, if_pos (h2.2 b)]
    · rw [if_neg b, if_neg (fun t => b (h2.1 t))]
theorem signed_scale (s : Bool) (m p c : Nat) : signed s m p * (2 ^ c : Nat) = signed s m (p + c) := by
  unfold signed
  cases s
  · simp only [Bool.false_eq_true, if_false]
    rw [Nat.shiftLeft_eq, Nat.shiftLeft_eq, Nat.pow_add, ← Nat.mul_assoc]; simp
  · simp only [if_true]
    rw [Nat.shiftLeft_eq, Nat.shiftLeft_eq, Nat.pow_add, ← Nat.mul_assoc]; simp [Int.neg_mul]
theorem signed_val (a : Nat) : signed (sgn a) (man (rung a)) (plc (rung a)) = val a := by
  unfold signed val
  rw [Nat.shiftLeft_eq, M_eq]
theorem order_num (a b : Nat) (ha : rung a < INF) (hb : rung b < INF) : D.order a b = some (compare (val a) (val b)) := by
  unfold Format.order
  rw [read_num a ha, read_num b hb]
  show some (compare (signed _ _ _) (signed _ _ _)) = _
  congr 1
  have e1 : (D.leastPlace + (plc (rung a) : Nat) - min (D.leastPlace + (plc (rung a) : Nat)) (D.leastPlace + (plc (rung b) : Nat))).toNat + min (plc (rung a)) (plc (rung b)) = plc (rung a) := by omega
  have e2 : (D.leastPlace + (plc (rung b) : Nat) - min (D.leastPlace + (plc (rung a) : Nat)) (D.leastPlace + (plc (rung b) : Nat))).toNat + min (plc (rung a)) (plc (rung b)) = plc (rung b) := by omega
  rw [← cmp_scale _ _ (min (plc (rung a)) (plc (rung b))), signed_scale, signed_scale, e1, e2, signed_val, signed_val]
theorem cmp_lt {x y : Int} (h : x < y) : compare x y = .lt := by
  show compareOfLessAndEq x y = _; unfold compareOfLessAndEq; rw [if_pos h]
theorem cmp_gt {x y : Int} (h : y < x) : compare x y = .gt := by
  show compareOfLessAndEq x y = _; unfold compareOfLessAndEq; rw [if_neg (by omega), if_neg (by omega)]
theorem cmp_eq {x y : Int} (h : x = y) : compare x y = .eq := by
  show compareOfLessAndEq x y = _; unfold compareOfLessAndEq; rw [if_neg (by omega), if_pos h]
theorem order_val (a b : Nat) (ha : isN a = false) (hb : isN b = false) : D.order a b = some (compare (val a) (val b)) := by
  have ha : rung a ≤ INF := by simpa [isN] using ha
  have hb : rung b ≤ INF := by simpa [isN] using hb
  by_cases h1 : rung a < INF
  · by_cases h2 : rung b < INF
    · exact order_num a b h1 h2
    · have hb : rung b = INF := by omega
      have hm := M_mono h1
      have hz := @M_lt_iff 0 INF
      unfold Format.order
      rw [read_num a h1, read_inf b hb]
      show some (if sgn b then Ordering.gt else Ordering.lt) = _
      congr 1
      unfold val
      rw [hb]
      cases hs : sgn b
      · rw [cmp_lt]; rfl
        cases sgn a <;> simp <;> omega
      · rw [cmp_gt]; rfl
        cases sgn a <;> simp <;> omega
  · have ha : rung a = INF := by omega
    have hp : 0 < M INF := by have := @M_mono 0 INF (by decide); omega
    by_cases h2 : rung b < INF
    · have hm := M_mono h2
      unfold Format.order
      rw [read_num b h2, read_inf a ha]
      show some (if sgn a then Ordering.lt else Ordering.gt) = _
      congr 1
      unfold val
      rw [ha]
      cases hs : sgn a
      · rw [cmp_gt]; rfl
        cases sgn b <;> simp <;> omega
      · rw [cmp_lt]; rfl
        cases sgn b <;> simp <;> omega
    · have hb : rung b = INF := by omega
      unfold Format.order
      rw [read_inf a ha, read_inf b hb]
      show some (compare (sgn b).toNat (sgn a).toNat) = _
      congr 1
      unfold val
      rw [ha, hb]
      cases sgn a <;> cases sgn b <;> simp only [Bool.toNat, cond_true, cond_false, if_true, Bool.false_eq_true, if_false]
      · rw [cmp_eq rfl]; rfl
      · rw [cmp_gt (by omega)]; rfl
      · rw [cmp_lt (by omega)]; rfl
      · rw [cmp_eq rfl]; rfl
theorem order_nan_l (a b : Nat) (ha : isN a = true) : D.order a b = none := by
  unfold Format.order; rw [read_nan a ha]; rfl
theorem order_nan_r (a b : Nat) (hb : isN b = true) : D.order a b = none := by
  unfold Format.order; rw [read_nan b hb]; cases D.read a <;> rfl

/-- a number that rises as floats do -/
def key (a : Nat) : Int := if isN a then 9223372036854775808 else if sgn a then -1 - (rung a : Int) else rung a
theorem val_key {a b : Nat} (ha : isN a = false) (hb : isN b = false) : val a < val b → key a < key b := by
  unfold val key
  rw [ha, hb]
  have h1 := @M_lt_iff (rung a) (rung b)
  have h2 := @M_lt_iff (rung b) (rung a)
  cases sgn a <;> cases sgn b <;> simp <;> omega
theorem val_eq_key {a b : Nat} (ha : isN a = false) (hb : isN b = false) (h : val a = val b) : (sgn a = sgn b → key a = key b) ∧ (sgn a = true → sgn b = false → key a < key b) := by
  revert h
  unfold val key
  rw [ha, hb]
  have h1 := @M_lt_iff (rung a) (rung b)
  have h2 := @M_lt_iff (rung b) (rung a)
  cases sgn a <;> cases sgn b <;> simp <;> omega
theorem key_lt {a : Nat} (ha : isN a = false) : key a < 9223372036854775808 := by
  unfold key; rw [ha]
  have : rung a < 9223372036854775808 := Nat.mod_lt _ (by decide)
  cases sgn a <;> simp <;> omega

def noneB (a : Nat) : Bool := D.order a a != some .eq
theorem noneB_eq (a : Nat) : noneB a = isN a := by
  unfold noneB
  cases h : isN a
  · rw [order_val a a h h, cmp_eq rfl]; rfl
  · rw [order_nan_l a a h]; rfl
/-- gauge.Order on bits -/
def ord (a b : Nat) : Int :=
  if key a < key b then -1 else if key b < key a then 1 else 0
theorem ord_go (a b : Nat) : ord a b = if (noneB a && noneB b) = true then 0 else if (noneB a || (D.order a b == some .gt)) = true then 1 else if (noneB b || (D.order a b == some .lt)) = true then -1 else if (sgn a && !sgn b) = true then -1 else if (!sgn a && sgn b) = true then 1 else 0 := by
  rw [noneB_eq, noneB_eq]
  cases ha : isN a
  · cases hb : isN b
    · rw [order_val a b ha hb]
      unfold ord
      rcases Int.lt_trichotomy (val a) (val b) with h | h | h
      · have := val_key ha hb h
        rw [cmp_lt h, if_pos this]; simp
      · obtain ⟨e1, e2⟩ := val_eq_key ha hb h
        obtain ⟨_, e4⟩ := val_eq_key hb ha h.symm
        rw [cmp_eq h]
        cases h1 : sgn a <;> cases h2 : sgn b <;> simp [h1, h2] at e1 e2 e4 ⊢
        · simp [e1]
        · rw [if_neg (by omega), if_pos e4]
        · intro; omega
        · simp [e1]
      · have := val_key hb ha h
        rw [cmp_gt h, if_neg (by omega), if_pos this]; simp
    · rw [order_nan_r a b hb]
      have := key_lt ha
      unfold ord; rw [show key b = 9223372036854775808 from by unfold key; rw [hb]; rfl, if_pos this]; simp
  · have e : key a = 9223372036854775808 := by unfold key; rw [ha]; rfl
    cases hb : isN b
    · have := key_lt hb
      rw [order_nan_l a b ha]; unfold ord; rw [e, if_neg (by omega), if_pos (by omega)]; simp
    · unfold ord; rw [e, show key b = 9223372036854775808 from by unfold key; rw [hb]; rfl]; simp
end Go.Proofs.YtiahijhpjloijaaGreat.Fl
namespace Go.Proofs.YtiahijhpjloijaaGreat.Fl
open Go Ieee
theorem read_isN {a : Nat} (h : isN a = false) : (∃ s m e, D.read a = .number s m e) ∨ ∃ s, D.read a = .infinity s := by
  have h' : rung a ≤ INF := by simpa [isN] using h
  by_cases e : rung a = INF
  · exact .inr ⟨_, read_inf a e⟩
  · exact .inl ⟨_, _, _, read_num a (by omega)⟩
def fin (a : Nat) : Bool := rung a < INF
theorem fin_isN {a : Nat} (h : fin a = true) : isN a = false := by
  have : rung a < INF := by simpa [fin] using h
  simp [isN]; omega
/-- alike: the same, or both no number -/
def like (a b : Nat) : Prop := a = b ∨ (isN a = true ∧ isN b = true)
theorem like_refl (a : Nat) : like a a := .inl rfl
theorem like_isN {a b : Nat} (h : like a b) : isN a = isN b := by
  rcases h with rfl | ⟨h1, h2⟩
  · rfl
  · rw [h1, h2]
theorem like_key {a b : Nat} (h : like a b) : key a = key b := by
  rcases h with rfl | ⟨h1, h2⟩
  · rfl
  · unfold key; rw [h1, h2]; rfl
theorem like_ord {a b : Nat} (h : like a b) : ord a b = 0 := by
  unfold ord; rw [like_key h, if_neg (by omega), if_neg (by omega)]
theorem ord_self (a : Nat) : ord a a = 0 := like_ord (like_refl a)
theorem add_nan_l {a : Nat} (b : Nat) (h : isN a = true) : D.add a b = none := by
  unfold Format.add; rw [read_nan a h]; cases D.read b <;> rfl
theorem add_nan_r (a : Nat) {b : Nat} (h : isN b = true) : D.add a b = none := by
  unfold Format.add; rw [read_nan b h]; cases D.read a <;> rfl
theorem div_nan_l {a : Nat} (b : Nat) (h : isN a = true) : D.div a b = none := by
  unfold Format.div; rw [read_nan a h]; cases D.read b <;> rfl
theorem div_nan_r (a : Nat) {b : Nat} (h : isN b = true) : D.div a b = none := by
  unfold Format.div; rw [read_nan b h]; cases D.read a <;> rfl
/-- what an operation may give: the valid result, or any that is no number -/
def Gives (o : Option Nat) (r : Nat) : Prop := match o with | some v => r = v | none => isN r = true
theorem Gives.like {o : Option Nat} {r r' : Nat} (h : Gives o r) (h' : Gives o r') : like r r' := by
  cases o with
  | none => exact .inr ⟨h, h'⟩
  | some v => exact .inl (Eq.trans h h'.symm)
theorem add_like {a a' b b' r r' : Nat} (ha : like a a') (hb : like b b') (h : Gives (D.add a b) r) (h' : Gives (D.add a' b') r') : like r r' := by
  rcases ha with rfl | ⟨h1, h2⟩
  · rcases hb with rfl | ⟨h3, h4⟩
    · exact h.like h'
    · rw [add_nan_r _ h3] at h; rw [add_nan_r _ h4] at h'; exact .inr ⟨h, h'⟩
  · rw [add_nan_l _ h1] at h; rw [add_nan_l _ h2] at h'; exact .inr ⟨h, h'⟩
theorem div_like {a a' b b' r r' : Nat} (ha : like a a') (hb : like b b') (h : Gives (D.div a b) r) (h' : Gives (D.div a' b') r') : like r r' := by
  rcases ha with rfl | ⟨h1, h2⟩
  · rcases hb with rfl | ⟨h3, h4⟩
    · exact h.like h'
    · rw [div_nan_r _ h3] at h; rw [div_nan_r _ h4] at h'; exact .inr ⟨h, h'⟩
  · rw [div_nan_l _ h1] at h; rw [div_nan_l _ h2] at h'; exact .inr ⟨h, h'⟩
theorem add_isN {a b r : Nat} (ha : isN a = true) (h : Gives (D.add a b) r) : isN r = true := by
  rw [add_nan_l _ ha] at h; exact h
/-- x - x -/
theorem sub_self_fin {a : Nat} (h : fin a = true) : D.sub a a = some 0 := by
  have h : rung a < INF := by simpa [fin] using h
  unfold Format.sub
  rw [read_num a h]
  show ((Datum.sum (.number _ _ _) (.number _ _ _)).map D.write) = _
  have e : ∀ (s : Bool) (m : Nat), signed s m 0 + signed (!s) m 0 = 0 := by
    intro s m; cases s <;> simp [signed] <;> omega
  simp only [Datum.sum, Int.min_self, Int.sub_self, Int.toNat_zero, e, if_pos, Int.natAbs_zero, Option.map_some]
  cases sgn a <;> rfl
theorem sub_self_none {a : Nat} (h : fin a = false) : D.sub a a = none := by
  have h : INF ≤ rung a := by simpa [fin] using h
  unfold Format.sub
  by_cases e : rung a = INF
  · rw [read_inf a e]; cases sgn a <;> rfl
  · rw [read_nan a (by simp [isN]; omega)]; rfl
/-- what is whole -/
def absb (a : Nat) : Nat := rung a
theorem order_zero {r : Nat} : D.order 0 r = D.order 0 r := rfl
theorem isInf_go (a : Nat) : (D.order (rung a) 9218868437227405311 == some .gt) = (rung a == INF) := by
  have hlt : rung a < 9223372036854775808 := Nat.mod_lt _ (by decide)
  have hr : rung (rung a) = rung a := Nat.mod_eq_of_lt hlt
  have hs : sgn (rung a) = false := by unfold sgn; rw [Nat.div_eq_of_lt hlt]; rfl
  have hb : isN 9218868437227405311 = false := by decide
  have hm : val 9218868437227405311 = (M 9218868437227405311 : Int) := by unfold val; rfl
  by_cases h : isN (rung a) = true
  · rw [order_nan_l _ _ h]
    have : INF < rung (rung a) := by simpa [isN] using h
    rw [hr] at this
    have : (rung a == INF) = false := by simp; omega
    rw [this]; rfl
  · have h : isN (rung a) = false := by simpa using h
    have hle : rung (rung a) ≤ INF := by simpa [isN] using h
    rw [hr] at hle
    rw [order_val _ _ h hb]
    have hv : val (rung a) = (M (rung a) : Int) := by unfold val; rw [hs, hr]; rfl
    rw [hv, hm]
    by_cases e : rung a = INF
    · rw [cmp_gt]
      · simp [e]
      · have := @M_mono 9218868437227405311 (rung a) (by rw [e]; decide); omega
    · have e2 : (rung a == INF) = false := by simpa using e
      rw [e2]
      have h3 : ¬ M 9218868437227405311 < M (rung a) := by
        rw [M_lt_iff]; have : INF = 9218868437227405312 := rfl; omega
      by_cases h4 : (M (rung a) : Int) < M 9218868437227405311
      · rw [cmp_lt h4]; rfl
      · rw [cmp_eq (by omega)]; rfl
theorem whole_go (a : Nat) : (!isN a && !(rung a == INF)) = fin a := by
  unfold isN fin
  rcases Nat.lt_trichotomy (rung a) INF with h | h | h
  · have e : ¬ INF < rung a := by omega
    have e2 : ¬ rung a = INF := by omega
    simp [h, e, e2]
  · simp [h]
  · have e : ¬ rung a < INF := by omega
    simp [h, e]
end Go.Proofs.YtiahijhpjloijaaGreat.Fl
