/- GaugeOrder: the walk: Order is an order of all. No condition. -/
import Derived.Test.YtcbobfnfglboeaaG6
import Derived.Deep.CutRange
import Derived.Deep.DeepCutAuto
set_option linter.unusedVariables false
set_option linter.unusedSimpArgs false
namespace Go.Proofs.Ytcbobfnfglboeaa.G
open Go.RowKit Go.Proofs.YtcbobfnfglboeaaW.PrintWords Go.Proofs.YtcbobfnfglboeaaW.PrintLast
open Fl
theorem ord_anti (a b : Nat) : ord b a = -ord a b := by
  unfold ord
  repeat' split
  all_goals omega
theorem ord_trans {a b c : Nat} (h : ord a b ≤ 0) (h' : ord b c ≤ 0) : ord a c ≤ 0 := by
  revert h h'
  unfold ord
  repeat' split
  all_goals omega
theorem ord_of_lt {a b : Nat} (h : (FloatKind.f64.format.order a b == some .lt) = true) : ord a b = -1 := by
  have h : D.order a b = some .lt := by simpa using h
  cases na : isN a
  · cases nb : isN b
    · rw [order_val a b na nb] at h
      have h := Option.some.inj h
      have hl : val a < val b := by
        rcases Int.lt_trichotomy (val a) (val b) with q | q | q
        · exact q
        · rw [cmp_eq q] at h; cases h
        · rw [cmp_gt q] at h; cases h
      unfold ord; rw [if_pos (val_key na nb hl)]
    · rw [order_nan_r a b nb] at h; cases h
  · rw [order_nan_l a b na] at h; cases h
/-- bytes as elements -/
abbrev KI : Kd Int := Kd.int .u8
/-- the values that are asked -/
def vals (l : List Int) (m : List Nat) : List Nat := l.map made ++ m
theorem vals_lt {l : List Int} {m : List Nat} (hb : ∀ x, x ∈ l → 0 ≤ x ∧ x ≤ 255) (hm : AllW m) : AllW (vals l m) := by
  intro x hx
  rcases List.mem_append.1 hx with h | h
  · obtain ⟨y, hy, rfl⟩ := List.mem_map.1 h
    exact made_lt (hb y hy).1 (hb y hy).2
  · exact hm x h
set_option maxHeartbeats 6400000 in
set_option maxRecDepth 100000 in
theorem gaugeOrder_walk (a b c : Nat) (ha : a < 18446744073709551616) (hb : b < 18446744073709551616) (hc : c < 18446744073709551616) (A : Option Addr) (cp : Nat) (l : List Int) (w : World) (hr : Kd.C (Kd.int .u8) w A l.length l) (hcp : l.length ≤ cp) (hbl : ∀ x, x ∈ l → 0 ≤ x ∧ x ≤ 255) :
    Calls Try.prog 3 #[F a, F b, F c, .slice A l.length cp] w fun e w' => e = .returned (.bool true) ∧ Below w.heap.size w w' := by
  have HR := Aside0.mk hr
  have HBL := Aside0.mk hbl
  have HW : Aside0 (AllW (vals l [a, b, c])) := Aside0.mk (vals_lt hbl (by intro x hx; simp at hx; rcases hx with rfl | rfl | rfl <;> assumption))
  clear hr hbl ha hb hc
  obtain ⟨i0, hi, hz0, hz1, hz2⟩ := info_parts info22
  by_cases hl : 3 < l.length
  · have hl' : (3 : Int) < (l.length : Int) := by omega
    go_enter Try.func3, Try.ntmps3
    go_wp2_with fail
    refine (begun_any _).mono ?_
    rintro e w1 ⟨rfl, hb1⟩
    go_wp2_with fail
    go_ret
    exact ⟨rfl, hb1⟩
  · have hl' : ¬ (3 : Int) < (l.length : Int) := by omega
    have hd18 : decide ((3 : Int) < (l.length : Int)) = false := by simp; omega
    go_enter Try.func3, Try.ntmps3
    go_wp2_with fail
    refine (begun_any _).mono ?_
    rintro e w1 ⟨rfl, hb1⟩
    go_wp2_with fail
    refine (floats_any A cp l _ (Kd.C_below HR.out hb1) hcp HBL.out (by omega)).mono ?_
    rintro e w2 ⟨v, rfl, ho, hb2⟩
    have HO := Aside0.mk ho
    have HB2 := Aside0.mk (hb1.trans (hb2.mono hb1.size))
    have hsz1 := hb1.size
    have hsz2 := hb2.size
    clear ho hb1 hb2
    go_wp2_with (at_builtin; refine wpList_append_own _ rfl _ _ 25 rfl w1.heap.size 22 i0 (.float .f64 0) 1 8 Try.underlying25 hi hz0 hz1 hz2 rfl (by decide) _ _ _ rfl (HO.out.alloc _) ⟨w2.heap.size, 0, none⟩ 3 3 [F a, F b, F c] rfl rfl ?c1 ?c2 ?c3 ?c4 ?c5 ?_)
    case c1 =>
      intro j u hj
      match j, hj with
      | 0, hj => simp at hj; subst hj; simp [Addr.add]
      | 1, hj => simp at hj; subst hj; simp [Addr.add]
      | 2, hj => simp at hj; subst hj; simp [Addr.add]
    case c2 => intro u hu; simp at hu; rcases hu with rfl | rfl | rfl <;> rfl
    case c3 => unfold maxLen; omega
    case c4 => omega
    case c5 => simp; omega
    intro v' w3 hown' hgrow _
    have ho3 : w3.ownsRow w1.heap.size 22 1 v' (vals l [a, b, c]).length ((vals l [a, b, c]).map F) := by
      have : (vals l [a, b, c]).map F = (l.map fun x => F (made x)) ++ [F a, F b, F c] := by unfold vals; rw [List.map_append, List.map_map]; rfl
      rw [this]
      have e : (vals l [a, b, c]).length = l.length + 3 := by simp [vals]
      rw [e]
      exact hown'
    have hn : (vals l [a, b, c]).length ≤ 6 := by simp [vals]; omega
    have hB3 : Below w.heap.size w w3 := (HB2.out.alloc HB2.out.size _).grown hgrow (by simp; omega) (fun j hj => by have := (HO.out.lt j hj).1; omega)
    obtain ⟨A3, c3, rfl, hc3, hR3⟩ := own_reads ho3 (by omega)
    obtain ⟨xs, hxs⟩ : ∃ xs, xs = vals l [a, b, c] := ⟨_, rfl⟩
    rw [← hxs] at hn hR3 HW hc3
    rw [← hxs]
    have H3 := Aside0.mk hR3
    have HB3 := Aside0.mk hB3
    clear hxs hown' hgrow ho3 hB3 hR3 HO HB2 HR HBL
    have HC : Aside0 (∀ (x y : Nat) (o : Int) (m m' : Nat), x < 18446744073709551616 → y < 18446744073709551616 → ord x y = o → Calls Try.prog 9 #[F x, F y] (w3.drewN (m + m')) fun e w'' => e = .returned (.int .i64 o) ∧ ∃ q, w'' = w3.drewN (m + q)) :=
      Aside0.mk fun x y o m m' hx hy ho => by rw [← ho]; exact (order_any x y hx hy _).mono fun _ _ h => ⟨h.1, m', h.2⟩
    go_wp2_with fail
    go_loopw [10] (fun i wr => ∃ k m : Nat, k ≤ xs.length ∧ i = .int .i64 (k : Int) ∧ wr = w3.drewN m)
      (fun i _ => xs.length - (intOf i).toNat)
    case atStart => exact ⟨0, 0, by omega, rfl, rfl⟩
    case round =>
      obtain ⟨i, m0, hi0, rfl, rfl⟩ := hrel
      by_cases hil : i < xs.length
      · obtain ⟨ad, rfl, celli⟩ := fk_at H3.out hil
        have hxi : xs[i] < 18446744073709551616 := HW.out _ (by simp)
        have HXI := Aside0.mk hxi
        clear hxi
        have hdi : decide ((i : Int) < (xs.length : Int)) = true := by simp; omega
        have q1 : (0 : Int) ≤ (i : Int) := by omega
        have q2 : (i : Int) < (xs.length : Int) := by omega
        go_wp2_with fail
        go_loopw [11] (fun i wr => ∃ k m : Nat, k ≤ xs.length ∧ i = .int .i64 (k : Int) ∧ wr = w3.drewN m)
          (fun i _ => xs.length - (intOf i).toNat)
        case atStart => exact ⟨0, m0, by omega, rfl, rfl⟩
        case round =>
          obtain ⟨j, m1, hj0, rfl, rfl⟩ := hrel
          by_cases hjl : j < xs.length
          · obtain ⟨ad', e, cellj⟩ := fk_at H3.out hjl
            cases e
            have hxj : xs[j] < 18446744073709551616 := HW.out _ (by simp)
            have HXJ := Aside0.mk hxj
            clear hxj
            have hdj : decide ((j : Int) < (xs.length : Int)) = true := by simp; omega
            have q3 : (0 : Int) ≤ (j : Int) := by omega
            have q4 : (j : Int) < (xs.length : Int) := by omega
            obtain ⟨o, ho⟩ : ∃ o, ord xs[i] xs[j] = o := ⟨_, rfl⟩
            have HOO := Aside0.mk ho
            have hoc : o = -1 ∨ o = 0 ∨ o = 1 := by rw [← ho]; exact ord_cases _ _
            obtain ⟨lt, hlt⟩ : ∃ lt, (FloatKind.f64.format.order xs[i] xs[j] == some .lt) = lt := ⟨_, rfl⟩
            have hlo : lt = true → o = -1 := fun e => by rw [← ho]; exact ord_of_lt (by rw [hlt, e])
            obtain ⟨eq, heq⟩ : ∃ eq, ((i : Int) == (j : Int)) = eq := ⟨_, rfl⟩
            have heo : eq = true → o = 0 := fun e => by
              have : (i : Int) = (j : Int) := beq_iff_eq.1 (by rw [heq, e])
              have : i = j := by omega
              subst this
              rw [← ho]; exact ord_self _
            clear ho
            have hcases : (o = -1 ∧ lt = false ∧ eq = false) ∨ (o = -1 ∧ lt = true ∧ eq = false) ∨ (o = 0 ∧ lt = false ∧ eq = false) ∨ (o = 0 ∧ lt = false ∧ eq = true) ∨ (o = 1 ∧ lt = false ∧ eq = false) := by
              revert hlo heo
              rcases hoc with rfl | rfl | rfl <;> cases lt <;> cases eq <;> simp
            have HCA := Aside0.mk hcases
            have HOC := Aside0.mk hoc
            clear hlo heo hoc hcases
            go_wp2_with fail
            go_quiet (with_reducible exact HC.out _ _ o _ _ HXI.out HXJ.out HOO.out)
            go_wp2_with fail
            go_cut [90] from 32 to 122 (fun s90 wx => s90 = .bool false ∧ ∃ m : Nat, wx = w3.drewN m)
            case first =>
              rcases HCA.out with ⟨rfl, rfl, rfl⟩ | ⟨rfl, rfl, rfl⟩ | ⟨rfl, rfl, rfl⟩ | ⟨rfl, rfl, rfl⟩ | ⟨rfl, rfl, rfl⟩
              · have HO2 : Aside0 (ord xs[j] xs[i] = 1) := Aside0.mk (by have := ord_anti xs[i] xs[j]; rw [HOO.out] at this; simpa using this)
                go_quiet (with_reducible exact HC.out _ _ 1 _ _ HXJ.out HXI.out HO2.out)
                go_wp2_with fail
                go_meet
                exact ⟨rfl, _, by first | rfl | exact World.drewN_drewN _ _ _⟩
              · have HO2 : Aside0 (ord xs[j] xs[i] = 1) := Aside0.mk (by have := ord_anti xs[i] xs[j]; rw [HOO.out] at this; simpa using this)
                go_quiet (with_reducible exact HC.out _ _ 1 _ _ HXJ.out HXI.out HO2.out)
                go_wp2_with fail
                go_meet
                exact ⟨rfl, _, by first | rfl | exact World.drewN_drewN _ _ _⟩
              · have HO2 : Aside0 (ord xs[j] xs[i] = 0) := Aside0.mk (by have := ord_anti xs[i] xs[j]; rw [HOO.out] at this; simpa using this)
                go_quiet (with_reducible exact HC.out _ _ 0 _ _ HXJ.out HXI.out HO2.out)
                go_wp2_with fail
                go_meet
                exact ⟨rfl, _, by first | rfl | exact World.drewN_drewN _ _ _⟩
              · have HO2 : Aside0 (ord xs[j] xs[i] = 0) := Aside0.mk (by have := ord_anti xs[i] xs[j]; rw [HOO.out] at this; simpa using this)
                go_quiet (with_reducible exact HC.out _ _ 0 _ _ HXJ.out HXI.out HO2.out)
                go_wp2_with fail
                go_meet
                exact ⟨rfl, _, by first | rfl | exact World.drewN_drewN _ _ _⟩
              · have HO2 : Aside0 (ord xs[j] xs[i] = (-1)) := Aside0.mk (by have := ord_anti xs[i] xs[j]; rw [HOO.out] at this; simpa using this)
                go_quiet (with_reducible exact HC.out _ _ (-1) _ _ HXJ.out HXI.out HO2.out)
                go_wp2_with fail
                go_meet
                exact ⟨rfl, _, by first | rfl | exact World.drewN_drewN _ _ _⟩
            case rest =>
              obtain ⟨rfl, mc, rfl⟩ := hcut
              go_wp2_with fail
              go_loopw [13] (fun i wr => ∃ k m : Nat, k ≤ xs.length ∧ i = .int .i64 (k : Int) ∧ wr = w3.drewN m)
                (fun i _ => xs.length - (intOf i).toNat)
              case atStart => exact ⟨0, _, by omega, rfl, rfl⟩
              case round =>
                obtain ⟨k, m2, hk0, rfl, rfl⟩ := hrel
                by_cases hkl : k < xs.length
                · obtain ⟨ad', e, cellk⟩ := fk_at H3.out hkl
                  cases e
                  have hxk : xs[k] < 18446744073709551616 := HW.out _ (by simp)
                  have HXK := Aside0.mk hxk
                  clear hxk
                  have hdk : decide ((k : Int) < (xs.length : Int)) = true := by simp; omega
                  have q5 : (0 : Int) ≤ (k : Int) := by omega
                  have q6 : (k : Int) < (xs.length : Int) := by omega
                  go_wp2_with fail
                  go_cut [122] from 91 to 122 (fun s122 wx => s122 = .bool false ∧ ∃ m : Nat, wx = w3.drewN m)
                  case first =>
                    have hall : (o = 1) ∨ (∃ p q : Int, ord xs[j] xs[k] = p ∧ ord xs[i] xs[k] = q ∧ ((o = -1 ∨ o = 0) ∧ ((p = -1 ∨ p = 0) ∧ (q = -1 ∨ q = 0) ∨ p = 1))) := by
                      rcases HOC.out with h | h | h
                      · refine .inr ⟨_, _, rfl, rfl, .inl h, ?_⟩
                        rcases ord_cases xs[j] xs[k] with hp | hp | hp
                        · have := ord_trans (a := xs[i]) (b := xs[j]) (c := xs[k]) (by rw [HOO.out]; omega) (by rw [hp]; decide)
                          exact .inl ⟨.inl hp, by rcases ord_cases xs[i] xs[k] with h | h | h <;> omega⟩
                        · have := ord_trans (a := xs[i]) (b := xs[j]) (c := xs[k]) (by rw [HOO.out]; omega) (by rw [hp]; decide)
                          exact .inl ⟨.inr hp, by rcases ord_cases xs[i] xs[k] with h | h | h <;> omega⟩
                        · exact .inr hp
                      · refine .inr ⟨_, _, rfl, rfl, .inr h, ?_⟩
                        rcases ord_cases xs[j] xs[k] with hp | hp | hp
                        · have := ord_trans (a := xs[i]) (b := xs[j]) (c := xs[k]) (by rw [HOO.out]; omega) (by rw [hp]; decide)
                          exact .inl ⟨.inl hp, by rcases ord_cases xs[i] xs[k] with h | h | h <;> omega⟩
                        · have := ord_trans (a := xs[i]) (b := xs[j]) (c := xs[k]) (by rw [HOO.out]; omega) (by rw [hp]; decide)
                          exact .inl ⟨.inr hp, by rcases ord_cases xs[i] xs[k] with h | h | h <;> omega⟩
                        · exact .inr hp
                      · exact .inl h
                    rcases hall with h | ⟨p, q, hp, hq, ho, hpq⟩
                    · have ho1 : decide (o ≤ 0) = false := by rw [h]; rfl
                      have ho2 : ¬ o ≤ 0 := by omega
                      clear h
                      go_quiet (fail)
                      go_wp2_with fail
                      go_meet
                      exact ⟨rfl, _, by first | rfl | exact World.drewN_drewN _ _ _⟩
                    · have ho1 : decide (o ≤ 0) = true := by simp; omega
                      have ho2 : o ≤ 0 := by omega
                      have HP := Aside0.mk hp
                      have HQ := Aside0.mk hq
                      clear hp hq ho
                      rcases hpq with ⟨hp, hq⟩ | rfl
                      · have hp1 : decide (p ≤ 0) = true := by simp; omega
                        have hp2 : p ≤ 0 := by omega
                        have hq1 : decide (0 < q) = false := by simp; omega
                        have hq2 : ¬ 0 < q := by omega
                        clear hp hq
                        go_quiet (first | (with_reducible exact HC.out _ _ p _ _ HXJ.out HXK.out HP.out) | (with_reducible exact HC.out _ _ q _ _ HXI.out HXK.out HQ.out))
                        go_wp2_with fail
                        go_meet
                        exact ⟨rfl, _, by first | rfl | exact World.drewN_drewN _ _ _⟩
                      · go_quiet (with_reducible exact HC.out _ _ 1 _ _ HXJ.out HXK.out HP.out)
                        go_wp2_with fail
                        go_meet
                        exact ⟨rfl, _, by first | rfl | exact World.drewN_drewN _ _ _⟩
                  case rest =>
                    obtain ⟨rfl, md, rfl⟩ := hcut
                    go_wp2_with fail
                    go_roundw
                    case rel => first | exact ⟨k + 1, _, by omega, by go_num, rfl⟩ | ((repeat apply Exists.intro); exact ⟨⟨k + 1, _, by omega, by go_num, rfl⟩, rfl⟩)
                    case measure => simp [intOf]; omega
                · obtain rfl : k = xs.length := by omega
                  go_wp2_with fail
                  go_roundw
                  case rel => first | exact ⟨j + 1, _, by omega, by go_num, rfl⟩ | ((repeat apply Exists.intro); exact ⟨⟨j + 1, _, by omega, by go_num, rfl⟩, rfl⟩)
                  case measure => simp [intOf]; omega
          · obtain rfl : j = xs.length := by omega
            go_wp2_with fail
            go_roundw
            case rel => exact ⟨i + 1, _, by omega, by go_num, rfl⟩
            case measure => simp [intOf]; omega
      · obtain rfl : i = xs.length := by omega
        go_wp2_with fail
        go_ret
        exact ⟨rfl, pw_below_drewN HB3.out _⟩
end Go.Proofs.Ytcbobfnfglboeaa.G
