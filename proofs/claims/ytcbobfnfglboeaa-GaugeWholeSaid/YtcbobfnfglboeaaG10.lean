/- GaugeWhole: the walk: what is left is whole, in order, and all that is. No condition. -/
import Derived.Test.YtcbobfnfglboeaaG7
set_option linter.unusedVariables false
set_option linter.unusedSimpArgs false
namespace Go.Proofs.Ytcbobfnfglboeaa.G
open Go.RowKit Go.Proofs.YtcbobfnfglboeaaW.PrintWords Go.Proofs.YtcbobfnfglboeaaW.PrintLast
open Fl
theorem wholes_at {l : List Nat} {k : Nat} (hk : k < l.length) (hf : fin l[k] = true) : wholes l = wholes (l.take k) ++ l[k] :: wholes (l.drop (k + 1)) := by
  have e : l = l.take k ++ l[k] :: l.drop (k + 1) := by rw [← List.drop_eq_getElem_cons hk, List.take_append_drop]
  have e2 : wholes l = wholes (l.take k ++ l[k] :: l.drop (k + 1)) := by rw [← e]
  rw [e2]
  unfold wholes
  rw [List.filter_append, List.filter_cons, if_pos hf]
theorem wholes_self (l : List Nat) : wholes (wholes l) = wholes l := by unfold wholes; simp
/-- x - x where x is no whole number: no number, and one draw -/
def gone (x : Nat) (w : World) : Nat := (Question.nanBits .f64 x x).cut (w.tape w.drawn (.nanBits .f64 x x))
theorem gone_isN (x : Nat) (w : World) : isN (gone x w) = true := by
  unfold gone
  generalize w.tape w.drawn (.nanBits .f64 x x) = t
  show decide (INF < (t % 2 * 9223372036854775808 + 9218868437227405312 + 1 + t / 2 % 4503599627370495) % 9223372036854775808) = true
  have : INF = 9218868437227405312 := rfl
  rw [decide_eq_true_iff]
  have h2 : t / 2 % 4503599627370495 < 4503599627370495 := Nat.mod_lt _ (by decide)
  rcases Nat.mod_two_eq_zero_or_one t with e | e <;> rw [e] <;> omega
theorem run_gone {x : Nat} (h : fin x = false) (w : World) : (binOp .sub 22 (F x) (F x)).run Try.prog w = .ok (F (gone x w)) w.drew := by
  have h' : FloatKind.f64.format.sub x x = none := sub_self_none h
  simp [binOp, Op.floatArith, h', Question.forced, gone]
theorem run_whole {x : Nat} (h : fin x = true) (w : World) : (binOp .sub 22 (F x) (F x)).run Try.prog w = .ok (F 0) w := run_float_arith w .sub 22 .f64 x x 0 (sub_self_fin h)
theorem nan_ne {r : Nat} (h : isN r = true) : (FloatKind.f64.format.order r 0 != some .eq) = true := by
  have : FloatKind.f64.format.order r 0 = none := order_nan_l r 0 h
  rw [this]; rfl
set_option maxHeartbeats 6400000 in
set_option maxRecDepth 100000 in
theorem gaugeWhole_walk (A : Option Addr) (cp : Nat) (l : List Int) (v : Nat) (hv : v < 18446744073709551616) (w : World) (hr : Kd.C (Kd.int .u8) w A l.length l) (hcp : l.length ≤ cp) (hbl : ∀ x, x ∈ l → 0 ≤ x ∧ x ≤ 255) :
    Calls Try.prog 6 #[.slice A l.length cp, F v] w fun e w' => e = .returned (.bool true) ∧ Below w.heap.size w w' := by
  have HR := Aside0.mk hr
  have HBL := Aside0.mk hbl
  have HW : Aside0 (AllW (vals l [v])) := Aside0.mk (vals_lt hbl (by intro x hx; simp at hx; subst hx; assumption))
  clear hr hbl
  obtain ⟨i0, hi, hz0, hz1, hz2⟩ := info_parts info22
  by_cases hl : 12 < l.length
  · have hl' : (12 : Int) < (l.length : Int) := by omega
    go_enter Try.func6, Try.ntmps6
    go_wp2_with fail
    refine (begun_any _).mono ?_
    rintro e w1 ⟨rfl, hb1⟩
    go_wp2_with fail
    go_ret
    exact ⟨rfl, hb1⟩
  · have hl' : ¬ (12 : Int) < (l.length : Int) := by omega
    have hd18 : decide ((12 : Int) < (l.length : Int)) = false := by simp; omega
    go_enter Try.func6, Try.ntmps6
    go_wp2_with fail
    refine (begun_any _).mono ?_
    rintro e w1 ⟨rfl, hb1⟩
    go_wp2_with fail
    refine (floats_any A cp l _ (Kd.C_below HR.out hb1) hcp HBL.out (by omega)).mono ?_
    rintro e w2 ⟨vv, rfl, ho, hb2⟩
    have HO := Aside0.mk ho
    have HB2 := Aside0.mk (hb1.trans (hb2.mono hb1.size))
    have hsz1 := hb1.size
    have hsz2 := hb2.size
    clear ho hb1 hb2
    go_wp2_with (at_builtin; refine wpList_append_own _ rfl _ _ 25 rfl w1.heap.size 22 i0 (.float .f64 0) 1 8 Try.underlying25 hi hz0 hz1 hz2 rfl (by decide) _ _ _ rfl (HO.out.alloc _) ⟨w2.heap.size, 0, none⟩ 1 1 [F v] rfl rfl ?c1 ?c2 ?c3 ?c4 ?c5 ?_)
    case c1 =>
      intro j u hj
      match j, hj with
      | 0, hj => simp at hj; subst hj; simp [Addr.add]
    case c2 => intro u hu; simp at hu; subst hu; rfl
    case c3 => unfold maxLen; omega
    case c4 => omega
    case c5 => simp; omega
    intro v' w3 hown' hgrow _
    have ho3 : w3.ownsRow w1.heap.size 22 1 v' (vals l [v]).length ((vals l [v]).map F) := by
      have : (vals l [v]).map F = (l.map fun x => F (made x)) ++ [F v] := by unfold vals; rw [List.map_append, List.map_map]; rfl
      rw [this]
      have e : (vals l [v]).length = l.length + 1 := by simp [vals]
      rw [e]
      exact hown'
    have hn : (vals l [v]).length ≤ 13 := by simp [vals]; omega
    have hB3 : Below w.heap.size w w3 := (HB2.out.alloc HB2.out.size _).grown hgrow (by simp; omega) (fun j hj => by have := (HO.out.lt j hj).1; omega)
    obtain ⟨A3, c3, rfl, hc3, hR3⟩ := own_reads ho3 (by omega)
    obtain ⟨xs, hxs⟩ : ∃ xs, xs = vals l [v] := ⟨_, rfl⟩
    rw [← hxs] at hn hR3 HW hc3
    rw [← hxs]
    have H3 := Aside0.mk hR3
    have HB3 := Aside0.mk hB3
    have HXS := Aside0.mk hxs
    clear hxs hown' hgrow ho3 hB3 hR3 HO HB2 HR HBL
    have HC : Aside0 (∀ (x y : Nat) (o : Int) (m m' : Nat), x < 18446744073709551616 → y < 18446744073709551616 → ord x y = o → Calls Try.prog 9 #[F x, F y] (w3.drewN (m + m')) fun e w'' => e = .returned (.int .i64 o) ∧ ∃ q, w'' = w3.drewN (m + q)) :=
      Aside0.mk fun x y o m m' hx hy ho => by rw [← ho]; exact (order_any x y hx hy _).mono fun _ _ h => ⟨h.1, m', h.2⟩
    have hx8 : xs.length * 8 ≤ 140737488351232 := by omega
    go_wp2_with fail
    refine (whole_any A3 c3 xs _ H3.out hc3 HW.out hx8).mono ?_
    rintro e w4 ⟨v4, rfl, ho4, hb4⟩
    have hle := wholes_le xs
    obtain ⟨ws, hws⟩ : ∃ ws, ws = wholes xs := ⟨_, rfl⟩
    rw [← hws] at ho4 hle
    obtain ⟨A4, c4, rfl, hc4, hR4⟩ := own_reads ho4 (by omega)
    have HR4 := Aside0.mk hR4
    have H4 := Aside0.mk (Kd.C_below H3.out hb4)
    have HB4 := Aside0.mk (HB3.out.trans (hb4.mono HB3.out.size))
    have HWS := Aside0.mk hws
    have HWW : Aside0 (AllW ws) := Aside0.mk (fun x hx => HW.out x (by rw [hws] at hx; exact (List.mem_filter.1 hx).1))
    have d0 : (FloatKind.f64.format.order 0 0 != some .eq) = false := by decide +kernel
    clear ho4 hR4 hb4 hws hx8
    go_wp2_with fail
    go_loopw [7, 8] (fun n i wr => ∃ (k p m : Nat), k ≤ xs.length ∧ p ≤ ws.length ∧ i = .int .i64 (k : Int) ∧ n = .int .i64 (p : Int) ∧ Aside0 (p = (wholes (xs.take k)).length) ∧ wr = w4.drewN m)
      (fun _ i _ => xs.length - (intOf i).toNat)
    case atStart => exact ⟨0, 0, 0, by omega, by omega, rfl, rfl, Aside0.mk rfl, rfl⟩
    case round =>
      obtain ⟨k, p, m, hk, hp, rfl, rfl, hP, rfl⟩ := hrel
      by_cases hlt : k < xs.length
      · obtain ⟨ad, rfl, cellk⟩ := fk_at H4.out hlt
        have HXK := Aside0.mk (HW.out xs[k] (by simp))
        have hbk : decide ((k : Int) < (xs.length : Int)) = true := by simp; omega
        have q1 : (0 : Int) ≤ (k : Int) := by omega
        have q2 : (k : Int) < (xs.length : Int) := by omega
        have htk := take_snoc xs k hlt
        cases hf : fin xs[k]
        · have hsub := fun W => run_gone hf W
          have hnn := fun W => nan_ne (gone_isN xs[k] W)
          have HT : Aside0 (p = (wholes (xs.take (k + 1))).length) := Aside0.mk (by rw [htk, hP.out]; unfold wholes; rw [List.filter_append]; simp [List.filter_cons, hf])
          clear htk hf
          go_wp2_with fail
          go_region
          go_wp2_with fail
          go_roundw
          case rel => exact ⟨k + 1, p, _, by omega, hp, by go_num, rfl, HT, by first | rfl | exact World.drewN_drewN _ _ _⟩
          case measure => simp [intOf]; omega
        · have hsub := fun W => run_whole hf W
          have hat := wholes_at hlt hf
          have hpl : p < ws.length := by rw [HWS.out, hat, hP.out]; simp
          have hwp : ws[p] = xs[k] := by
            have : ws[p]? = some xs[k] := by rw [HWS.out, hat, hP.out]; simp
            rw [List.getElem?_eq_getElem hpl] at this
            exact Option.some.inj this
          obtain ⟨bd, e, cellp⟩ := fk_at HR4.out hpl
          subst e
          rw [hwp] at cellp
          have HT : Aside0 (p + 1 = (wholes (xs.take (k + 1))).length) := Aside0.mk (by rw [htk, hP.out]; unfold wholes; rw [List.filter_append]; simp [List.filter_cons, hf])
          have CO : Aside0 (∀ W, Calls Try.prog 9 #[F xs[k], F xs[k]] W fun e w' => e = .returned (.int .i64 0) ∧ W = w') := Aside0.mk fun W => by have := order_s xs[k] xs[k] HXK.out HXK.out W; rwa [ord_self] at this
          have CO2 : Aside0 (∀ a, Calls Try.prog 9 #[F xs[k], F xs[k]] (w4.drewN (m + 1 + a)) fun e w'' => e = .returned (.int .i64 0) ∧ ∃ q, w'' = w4.drewN (m + 1 + q)) := Aside0.mk fun a => (CO.out _).mono fun _ _ h => ⟨h.1, a, h.2.symm⟩
          have q3 : decide ((ws.length : Int) ≤ (p : Int)) = false := by simp; omega
          have q4 : (p : Int) < (ws.length : Int) := by omega
          clear htk hf hat hwp
          go_wp2_with fail
          go_region
          go_wp2_with fail
          go_quiet (with_reducible exact CO2.out _)
          go_wp2_with fail
          go_roundw
          case rel => exact ⟨k + 1, p + 1, _, by omega, by omega, by go_num, by go_num, HT, by first | rfl | exact World.drewN_drewN _ _ _⟩
          case measure => simp [intOf]; omega
      · obtain rfl : k = xs.length := by omega
        have hpw : p = ws.length := by rw [hP.out, List.take_length, HWS.out]
        have hpb : ((p : Int) == (ws.length : Int)) = true := by rw [beq_iff_eq]; omega
        have HR5 := Aside0.mk (Kd.C_drewN HR4.out m)
        have hw8 : ws.length * 8 ≤ 140737488351232 := by omega
        have HWSS : Aside0 (wholes ws = ws) := Aside0.mk (by rw [HWS.out, wholes_self])
        clear hpw
        go_wp2_with fail
        refine (whole_any A4 c4 ws _ HR5.out hc4 HWW.out hw8).mono ?_
        rintro e w5 ⟨v5, rfl, ho5, hb5⟩
        rw [HWSS.out] at ho5
        obtain ⟨A5, c5, rfl, hc5, hR6⟩ := own_reads ho5 (by omega)
        have HR6 := Aside0.mk hR6
        have HR7 := Aside0.mk (Kd.C_below HR5.out hb5)
        have HB5 := Aside0.mk ((pw_below_drewN HB4.out m).trans (hb5.mono (pw_below_drewN HB4.out m).size))
        clear ho5 hb5 hR6
        go_wp2_with fail
        refine (same_any A5 A4 c5 c4 ws ws _ HR6.out HR7.out hc5 hc4 HWW.out HWW.out).mono ?_
        rintro e w6 ⟨rfl, m6, hw6⟩
        have HB6 := Aside0.mk (show Below w.heap.size w w6 by rw [hw6]; exact pw_below_drewN HB5.out _)
        have hsl := sameL_self ws
        clear hw6
        go_wp2_with fail
        go_ret
        exact ⟨by first | rfl | (rw [hsl]; rfl), HB6.out⟩
end Go.Proofs.Ytcbobfnfglboeaa.G
