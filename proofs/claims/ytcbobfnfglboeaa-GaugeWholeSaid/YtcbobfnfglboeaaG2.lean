/- Slices of floats: sums, the first that is least or greatest, what is whole. -/
import Derived.Test.YtcbobfnfglboeaaG1
import Derived.Test.YtcbobfnfglboeaaWMore
import Derived.Test.YtcbobfnfglboeaaWN
import Derived.Test.YtcbobfnfglboeaaWLast
import Derived.OwnWalk
import Derived.LoopTactic
import Derived.Deep.LoopGhost
set_option linter.unusedVariables false
set_option linter.unusedSimpArgs false
namespace Go.Proofs.Ytcbobfnfglboeaa.G
open Go.RowKit Go.Proofs.YtcbobfnfglboeaaW.PrintWords Go.Proofs.YtcbobfnfglboeaaW.PrintLast
open Fl
/-- floats as elements -/
def FK : Kd Nat := Kd.scalar F (fun _ => rfl)
/-- 64 bits -/
def W64 (b : Nat) : Prop := b < 18446744073709551616
def AllW (l : List Nat) : Prop := ∀ x, x ∈ l → x < 18446744073709551616
/-- an operation on floats, valid or not: what it gives, and that it draws at most -/
theorem run_farith (op : BinOp) (hop : op = .add ∨ op = .sub ∨ op = .quo) (t : TypeId) (x y : Nat) (w : World) :
    ∃ r n, (binOp op t (F x) (F y)).run Try.prog w = .ok (F r) (w.drewN n) ∧ Gives (floatBits op .f64 x y) r ∧ r < 18446744073709551616 := by
  cases h : floatBits op .f64 x y with
  | some r =>
    have hw := floatBits_wf h
    refine ⟨r, 0, run_float_arith w op t .f64 x y r h, rfl, by simpa [Lit.wf] using hw⟩
  | none =>
    refine ⟨(Question.nanBits .f64 x y).cut (w.tape w.drawn (.nanBits .f64 x y)), 1, ?_, ?_, ?_⟩
    · unfold floatBits at h
      rcases hop with rfl | rfl | rfl <;> simp only at h <;> simp [binOp, Op.floatArith, h, Question.forced] <;> rfl
    · show isN _ = true
      generalize w.tape w.drawn (.nanBits .f64 x y) = t
      show decide (INF < (t % 2 * 9223372036854775808 + 9218868437227405312 + 1 + t / 2 % 4503599627370495) % 9223372036854775808) = true
      have : INF = 9218868437227405312 := rfl
      rw [decide_eq_true_iff]
      have h2 : t / 2 % 4503599627370495 < 4503599627370495 := Nat.mod_lt _ (by decide)
      rcases Nat.mod_two_eq_zero_or_one t with e | e <;> rw [e] <;> omega
    · generalize w.tape w.drawn (.nanBits .f64 x y) = t
      show t % 2 * 9223372036854775808 + 9218868437227405312 + 1 + t / 2 % 4503599627370495 < 18446744073709551616
      omega
/-- what all together may come to -/
inductive Sums : List Nat → Nat → Prop
  | nil : Sums [] 0
  | snoc {l : List Nat} {s x r : Nat} : Sums l s → Gives (D.add s x) r → r < 18446744073709551616 → Sums (l ++ [x]) r
theorem Sums.lt {l : List Nat} {s : Nat} (h : Sums l s) : s < 18446744073709551616 := by
  cases h with
  | nil => decide
  | snoc _ _ h => exact h
theorem fk_at {w : World} {A : Option Addr} {n : Nat} {l : List Nat} (h : FK.C w A n l) {k : Nat} (hk : k < l.length) : ∃ ad, A = some ad ∧ w.cell? (ad.add k) = some (F l[k]) := by
  obtain ⟨ad, e, hc⟩ := h.2.2 (by have := h.1; omega)
  obtain ⟨c, hs, hr, hcell⟩ := hc k _ (List.getElem?_eq_getElem hk)
  refine ⟨ad, e, ?_⟩
  have hc1 : c = [F l[k]] := hr
  subst hc1
  have := hcell 0 _ rfl
  simpa [FK, Kd.scalar] using this
theorem take_snoc (l : List Nat) (k : Nat) (h : k < l.length) : l.take (k + 1) = l.take k ++ [l[k]] := by
  rw [List.take_succ_eq_append_getElem h]
set_option maxHeartbeats 800000 in
theorem sum_any (A : Option Addr) (c : Nat) (l : List Nat) (w : World) (hr : FK.C w A l.length l) (hc : l.length ≤ c) :
    Calls Try.prog 12 #[.slice A l.length c] w fun e w' => ∃ s, e = .returned (F s) ∧ Sums l s ∧ ∃ n, w' = w.drewN n := by
  have HR := Aside0.mk hr
  have hmax := hr.2.1
  clear hr
  go_enter Try.func12, Try.ntmps12
  go_wp2_with fail
  go_loopw [2, 7] (fun s i wr => ∃ k v n : Nat, k ≤ l.length ∧ i = .int .i64 (k : Int) ∧ s = F v ∧ Aside0 (Sums (l.take k) v) ∧ wr = w.drewN n)
    (fun _ i _ => l.length - (intOf i).toNat)
  case atStart => exact ⟨0, 0, 0, by omega, rfl, rfl, Aside0.mk Sums.nil, rfl⟩
  case round =>
    obtain ⟨k, v, n, hk, rfl, rfl, hS, rfl⟩ := hrel
    by_cases hlt : k < l.length
    · obtain ⟨ad, rfl, hcell⟩ := fk_at HR.out hlt
      obtain ⟨r, m, hrun, hg, hrw⟩ := run_farith .add (.inl rfl) 22 v l[k] (w.drewN n)
      have HG := Aside0.mk (And.intro hg hrw)
      clear hg hrw
      have hb : decide ((k : Int) < (l.length : Int)) = true := by simp; omega
      go_wp2
      go_roundw
      case rel =>
        exact ⟨k + 1, r, n + m, by omega, by go_num, rfl, Aside0.mk (by rw [take_snoc l k hlt]; exact Sums.snoc hS.out HG.out.1 HG.out.2), rfl⟩
      case measure => simp [intOf]; omega
    · obtain rfl : k = l.length := by omega
      go_wp2
      go_ret
      exact ⟨v, rfl, by have := hS.out; rwa [List.take_length] at this, n, rfl⟩
set_option maxHeartbeats 800000 in
theorem mean_any (A : Option Addr) (c : Nat) (l : List Nat) (w : World) (hr : FK.C w A l.length l) (hc : l.length ≤ c) (hl : 0 < l.length) :
    Calls Try.prog 13 #[.slice A l.length c] w fun e w' => ∃ s q, e = .returned (F q) ∧ Sums l s ∧ Gives (D.div s (floatOfInt .f64 l.length)) q ∧ q < 18446744073709551616 ∧ ∃ n, w' = w.drewN n := by
  have hb : ((l.length : Int) == 0) = false := by rw [beq_eq_false_iff_ne]; omega
  have HR := Aside0.mk hr
  clear hr
  go_enter Try.func13, Try.ntmps13
  go_wp2_with fail
  refine (sum_any A c l _ HR.out hc).mono ?_
  rintro e w' ⟨s, rfl, hS, n, rfl⟩
  obtain ⟨q, m, hrun, hg, hq⟩ := run_farith .quo (.inr (.inr rfl)) 22 s (floatOfInt .f64 (l.length : Int)) (w.drewN n)
  have HG := Aside0.mk (And.intro hS (And.intro hg hq))
  clear hS hg hq
  go_wp2_with fail
  go_ret
  exact ⟨s, q, rfl, HG.out.1, HG.out.2.1, HG.out.2.2, n + m, rfl⟩
theorem mean_nil (w : World) : Calls Try.prog 13 #[.slice none 0 0] w fun e w' => e = .returned (F 9221120237041090561) ∧ w' = w := by
  go_enter Try.func13, Try.ntmps13
  go_wp2_with fail
  refine (nan_any _).mono ?_
  rintro e w' ⟨rfl, rfl⟩
  go_wp2_with fail
  go_ret
  exact ⟨rfl, rfl⟩
theorem ord_cases (a b : Nat) : ord a b = -1 ∨ ord a b = 0 ∨ ord a b = 1 := by
  unfold ord
  split
  · exact .inl rfl
  · split
    · exact .inr (.inr rfl)
    · exact .inr (.inl rfl)
/-- which is the first of a walk: the first that is more by a sign -/
def best (sign : Int) (l : List Nat) (b : Nat) : Nat := l.foldl (fun b x => if 0 < ord x b * sign then x else b) b
set_option maxHeartbeats 1600000 in
theorem first_any (A : Option Addr) (c : Nat) (x : Nat) (l : List Nat) (sign : Int) (em : Nat) (w : World) (hs : sign = 1 ∨ sign = -1) (hr : FK.C w A (x :: l).length (x :: l)) (hc : (x :: l).length ≤ c) (hw : AllW (x :: l)) :
    Calls Try.prog 20 #[.slice A (x :: l).length c, .int .i64 sign, F em] w fun e w' => e = .returned (F (best sign l x)) ∧ w' = w := by
  have HR := Aside0.mk hr
  have hmax : l.length + 1 ≤ 9223372036854775807 := hr.2.1
  have HW := Aside0.mk hw
  clear hr hw
  obtain ⟨ad, rfl, hcell0⟩ := fk_at HR.out (show 0 < (x :: l).length by simp)
  have hcell0 : w.cell? ad = some (F x) := by simpa [Addr.add] using hcell0
  have hz : (((l.length : Nat) : Int) + 1 == 0) = false := by rw [beq_eq_false_iff_ne]; omega
  have hc : l.length + 1 ≤ c := hc
  by_cases h1 : c = 1
  · subst h1
    obtain rfl : l = [] := List.eq_nil_of_length_eq_zero (by omega)
    go_enter Try.func20, Try.ntmps20
    go_wp2_with fail
    refine wp_loop_rounds 1 ?_
    rw [rounds_succ]
    go_wp2
    go_ret
    exact ⟨rfl, rfl⟩
  · go_enter Try.func20, Try.ntmps20
    go_wp2_with fail
    go_loop [7, 20] (fun b i => ∃ k v : Nat, k ≤ l.length ∧ i = .int .i64 (k : Int) ∧ b = F v ∧ v < 18446744073709551616 ∧ Aside0 (best sign l x = best sign (l.drop k) v))
      (fun _ i => l.length - (intOf i).toNat)
    case atStart => exact ⟨0, x, by omega, rfl, rfl, HW.out x (by simp), Aside0.mk rfl⟩
    case round =>
      obtain ⟨k, v, hk, rfl, rfl, hv, hB⟩ := hrel
      by_cases hlt : k < l.length
      · have hcell : w.cell? ⟨ad.block, ad.off + 1 + k, none⟩ = some (F l[k]) := by
          obtain ⟨ad', e, h⟩ := fk_at HR.out (show k + 1 < (x :: l).length by simp; omega)
          cases e
          unfold Addr.add at h
          rw [if_neg (by omega)] at h
          rw [show ad.off + 1 + k = ad.off + (k + 1) from by omega]
          simpa using h
        have hy : l[k] < 18446744073709551616 := HW.out _ (by simp)
        have hb : decide ((k : Int) < (l.length : Int)) = true := by simp; omega
        have hd : l.drop k = l[k] :: l.drop (k + 1) := List.drop_eq_getElem_cons hlt
        have HD := Aside0.mk hd
        clear hd
        go_wp2_with fail
        refine (order_any _ v hy hv w).mono ?_
        rintro e w' ⟨rfl, rfl⟩
        obtain ⟨o, ho⟩ : ∃ o, o = ord l[k] v := ⟨_, rfl⟩
        have hor : o = -1 ∨ o = 0 ∨ o = 1 := by rw [ho]; exact ord_cases _ _
        rw [← ho]
        have HO := Aside0.mk ho
        clear ho
        rcases hor with rfl | rfl | rfl <;> rcases hs with rfl | rfl
        all_goals
          go_wp2_with fail
          go_round
          case rel => exact ⟨k + 1, _, by omega, by go_num, rfl, by assumption, Aside0.mk (by rw [hB.out, HD.out]; show best _ _ (if _ then _ else _) = _; rw [← HO.out]; rfl)⟩
          case measure => simp [intOf]; omega
      · obtain rfl : k = l.length := by omega
        go_wp2_with fail
        go_ret
        exact ⟨by rw [hB.out, List.drop_length]; rfl, rfl⟩
end Go.Proofs.Ytcbobfnfglboeaa.G
