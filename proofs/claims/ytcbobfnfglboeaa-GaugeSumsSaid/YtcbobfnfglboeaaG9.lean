/- GaugeSums: the walk: sums go on; what is no number stays so. No condition. -/
import Derived.Test.YtcbobfnfglboeaaG7
set_option linter.unusedVariables false
set_option linter.unusedSimpArgs false
namespace Go.Proofs.Ytcbobfnfglboeaa.G
open Go.RowKit Go.Proofs.YtcbobfnfglboeaaW.PrintWords Go.Proofs.YtcbobfnfglboeaaW.PrintLast
open Fl
theorem Sums.like_ {l : List Nat} {s : Nat} (h : Sums l s) : ∀ {s'}, Sums l s' → like s s' := by
  induction h with
  | nil => intro s' h'; rw [h'.nil_inv]; exact like_refl _
  | snoc h g _ ih =>
    intro s' h'
    obtain ⟨s0, h0, g0⟩ := h'.snoc_inv
    exact add_like (ih h0) (like_refl _) g g0
theorem own_empty (w : World) : (w.alloc (.cells #[] 22)).ownsRow w.heap.size 22 1 (.slice (some ⟨w.heap.size, 0, none⟩) 0 0) ([] : List Nat).length (encs F []) := by
  refine ⟨rfl, .inr ⟨w.heap.size, 0, #[], rfl, Nat.le_refl _, ?_, Nat.le_refl _, by decide, rfl, rfl⟩⟩
  show (w.heap.push _)[w.heap.size]? = _
  simp
theorem fk_reads {w : World} {A : Option Addr} {n : Nat} {l : List Nat} (h : FK.C w A n l) : ReadsOf F 0 w A n l := by
  refine ⟨h.1, h.2.1, fun h0 => ?_⟩
  obtain ⟨ad, e, _⟩ := h.2.2 h0
  refine ⟨ad, e, fun j hj => ?_⟩
  obtain ⟨ad', e', hc⟩ := fk_at h (show j < l.length by rw [h.1]; exact hj)
  rw [e] at e'
  cases e'
  rw [hc, List.getD_eq_getElem?_getD, List.getElem?_eq_getElem (by rw [h.1]; exact hj)]
  rfl
theorem enc_map (l : List Nat) : encs F l = l.map F := by simp [encs]
theorem info22' : (Try.prog.info? 22).map (fun i => (i.zero, i.size, i.bytes)) = some (some (.float .f64 0), 1, 8) := info22
set_option maxHeartbeats 6400000 in
set_option maxRecDepth 100000 in
theorem gaugeSums_walk (A : Option Addr) (cp : Nat) (l : List Int) (v : Nat) (hv : v < 18446744073709551616) (w : World) (hr : Kd.C (Kd.int .u8) w A l.length l) (hcp : l.length ≤ cp) (hbl : ∀ x, x ∈ l → 0 ≤ x ∧ x ≤ 255) :
    Calls Try.prog 5 #[.slice A l.length cp, F v] w fun e w' => e = .returned (.bool true) ∧ Below w.heap.size w w' := by
  have HR := Aside0.mk hr
  have HBL := Aside0.mk hbl
  have HW : Aside0 (AllW (vals l [v])) := Aside0.mk (vals_lt hbl (by intro x hx; simp at hx; subst hx; assumption))
  have HV := Aside0.mk hv
  clear hr hbl hv
  obtain ⟨i0, hi, hz0, hz1, hz2⟩ := info_parts info22
  by_cases hl : 12 < l.length
  · have hl' : (12 : Int) < (l.length : Int) := by omega
    go_enter Try.func5, Try.ntmps5
    go_wp2_with fail
    refine (begun_any _).mono ?_
    rintro e w1 ⟨rfl, hb1⟩
    go_wp2_with fail
    go_ret
    exact ⟨rfl, hb1⟩
  · have hl' : ¬ (12 : Int) < (l.length : Int) := by omega
    have hd18 : decide ((12 : Int) < (l.length : Int)) = false := by simp; omega
    go_enter Try.func5, Try.ntmps5
    go_wp2_with fail
    refine (begun_any _).mono ?_
    rintro e w1 ⟨rfl, hb1⟩
    go_wp2_with fail
    refine (floats_any A cp l _ (Kd.C_below HR.out hb1) hcp HBL.out (by omega)).mono ?_
    rintro e w2 ⟨vv, rfl, ho, hb2⟩
    have HO := Aside0.mk ho
    have HB2 := Aside0.mk (hb1.trans (hb2.mono hb1.size))
    have hsz1 := hb1.size
    have hsz2 := hb2.size
    clear ho hb1 hb2
    obtain ⟨xs, hxs⟩ : ∃ xs, xs = l.map made := ⟨_, rfl⟩
    have ho' : w2.ownsRow w1.heap.size 22 1 vv l.length (xs.map F) := by rw [hxs, List.map_map]; exact HO.out
    obtain ⟨A2, c2, rfl, hc2, hR2⟩ := own_reads ho' (by omega)
    have hxl : xs.length = l.length := by rw [hxs]; simp
    rw [← hxl] at hc2 hR2
    rw [← hxl]
    have H2 := Aside0.mk hR2
    have HXL := Aside0.mk hxl
    clear hxs ho' hR2 hxl HO HR HBL HW
    have hx12 : xs.length ≤ 12 := by rw [HXL.out]; omega
    go_wp2_with fail
    refine (sum_any A2 c2 xs _ H2.out hc2).mono ?_
    rintro e w3 ⟨s, rfl, hs, m3, hw3⟩
    have hb3 : Below w2.heap.size w2 w3 := by rw [hw3]; exact pw_below_drewN (Below.refl _ _) _
    have H3 := Aside0.mk (Kd.C_below H2.out hb3)
    have HB3 := Aside0.mk (HB2.out.trans (hb3.mono HB2.out.size))
    have HS := Aside0.mk hs
    have hsz3 := hb3.size
    clear hw3 hs H2 HB2
    -- the first list
    go_wp2_with (at_builtin; refine print_append_row_of (w0 := w3) F 0 w3.heap.size rfl (.tmp 18) (.tmp 19) 25 22 (.float .f64 0) 8 rfl Try.underlying25 info22 rfl (by decide) (fun _ => rfl) _ [] xs A2 xs.length c2 rfl rfl (own_empty w3) (fk_reads (Kd.C_alloc H3.out _)) ?h1 ?h2 ?h3 ?_)
    case h1 => exact below_alloc (Below.refl _ _) _
    case h2 => simp
    case h3 => simp; omega
    intro v4 w4 ho4 hb4 _ _
    have HO4 := Aside0.mk ho4
    have HB4 := Aside0.mk (HB3.out.trans (hb4.mono HB3.out.size))
    have H4 := Aside0.mk (Kd.C_below H3.out hb4)
    have hsz4 := hb4.size
    have HBB4 := Aside0.mk hb4
    clear ho4 hb4
    go_wp2_with (at_builtin; refine print_append_row_of (w0 := w3) F 0 w3.heap.size rfl (.tmp 20) (.tmp 22) 25 22 (.float .f64 0) 8 rfl Try.underlying25 info22 rfl (by decide) (fun _ => rfl) _ xs [v] (some ⟨w4.heap.size, 0, none⟩) 1 1 rfl rfl (HO4.out.alloc _) (fk_reads (C_floats w4 #[F v] (0, 0) [v] rfl (by simp))) ?g1 ?g2 ?g3 ?_)
    case g1 => exact HBB4.out.alloc hsz4 _
    case g2 => simp; omega
    case g3 => omega
    intro v5 w5 ho5 hb5 _ _
    obtain ⟨ys, hys⟩ : ∃ ys, ys = xs ++ [v] := ⟨_, rfl⟩
    have hyl : ys.length = xs.length + 1 := by rw [hys]; simp
    have ho5' : w5.ownsRow w3.heap.size 22 1 v5 ys.length (ys.map F) := by rw [hyl, hys, ← enc_map]; exact ho5
    have HB5 := Aside0.mk (HB3.out.trans (hb5.mono HB3.out.size))
    have H5 := Aside0.mk (Kd.C_below H3.out hb5)
    obtain ⟨A5, c5, rfl, hc5, hR5⟩ := own_reads ho5' (by omega)
    have HYS := Aside0.mk hys
    have HYL := Aside0.mk hyl
    have HR5 := Aside0.mk hR5
    have hsz5 := hb5.size
    clear ho5 ho5' hb5 hR5 HO4 H4 HBB4 hys hyl
    go_wp2_with fail
    refine (sum_any A5 c5 ys _ HR5.out hc5).mono ?_
    rintro e w6 ⟨t, rfl, ht, m6, hw6⟩
    have hb6 : Below w5.heap.size w5 w6 := by rw [hw6]; exact pw_below_drewN (Below.refl _ _) _
    have H6 := Aside0.mk (Kd.C_below H5.out hb6)
    have HB6 := Aside0.mk (HB5.out.trans (hb6.mono HB5.out.size))
    have htw := ht.lt
    rw [HYS.out] at ht
    have HT := Aside0.mk ht
    have HTW := Aside0.mk htw
    clear hw6 hb6 ht htw HB5 H5 HR5
    obtain ⟨r, m7, hrun, hg, hrw⟩ := run_farith .add (.inl rfl) 22 s v w6
    have hlike : like t r := by
      obtain ⟨s0, h0, g0⟩ := HT.out.snoc_inv
      exact add_like (h0.like_ HS.out) (like_refl _) g0 hg
    have hot : ord t r = 0 := like_ord hlike
    obtain ⟨ns, hns⟩ : ∃ ns, isN s = ns := ⟨_, rfl⟩
    have hn1 : (FloatKind.f64.format.order s s != some .eq) = ns := by rw [← hns]; exact noneB_eq s
    have hn2 : ns = true → (FloatKind.f64.format.order t t == some .eq) = false := by
      intro h
      have : isN t = true := by rw [like_isN hlike]; exact add_isN (hns.trans h) hg
      show (D.order t t == some .eq) = false
      rw [order_nan_l t t this]; rfl
    have HG := Aside0.mk (And.intro hg hrw)
    have HOT := Aside0.mk hot
    have CO : Aside0 (∀ w, Calls Try.prog 9 #[F t, F r] w fun e w' => e = .returned (.int .i64 0) ∧ w = w') := Aside0.mk fun w => by rw [← HOT.out]; exact order_s t r HTW.out HG.out.2 w
    have HN2 := Aside0.mk hn2
    clear hg hrw hlike hot hns hn2
    go_wp2_with fail
    refine (CO.out _).mono ?_
    rintro e w7 ⟨rfl, hw7⟩
    obtain ⟨w7', hw7'⟩ : ∃ x, x = w6.drewN m7 := ⟨_, rfl⟩
    rw [← hw7'] at hw7
    have hb7 : Below w6.heap.size w6 w7 := by rw [← hw7, hw7']; exact pw_below_drewN (Below.refl _ _) _
    have H7 := Aside0.mk (Kd.C_below H6.out hb7)
    have HB7 := Aside0.mk (HB6.out.trans (hb7.mono HB6.out.size))
    clear hw7 hw7' hrun hb7
    have key : ∀ ns', ns' = ns → True := fun _ _ => trivial
    clear key
    cases ns
    · skip
      go_wp2_with (at_builtin; refine print_append_row_of (w0 := w7) F 0 w7.heap.size rfl (.tmp 45) (.tmp 46) 25 22 (.float .f64 0) 8 rfl Try.underlying25 info22 rfl (by decide) (fun _ => rfl) _ [] xs A2 xs.length c2 rfl rfl (own_empty w7) (fk_reads (Kd.C_alloc H7.out _)) ?h1 ?h2 ?h3 ?_)
      case h1 => exact below_alloc (Below.refl _ _) _
      case h2 => simp
      case h3 => simp; omega
      intro v8 w8 ho8 hb8 _ _
      have HO8 := Aside0.mk ho8
      have hsz8 := hb8.size
      have HBB8 := Aside0.mk hb8
      clear ho8 hb8
      go_wp2_with (at_builtin; refine print_append_row_of (w0 := w7) F 0 w7.heap.size rfl (.tmp 47) (.tmp 49) 25 22 (.float .f64 0) 8 rfl Try.underlying25 info22 rfl (by decide) (fun _ => rfl) _ xs [v] (some ⟨w8.heap.size, 0, none⟩) 1 1 rfl rfl (HO8.out.alloc _) (fk_reads (C_floats w8 #[F v] (0, 0) [v] rfl (by simp))) ?g1 ?g2 ?g3 ?_)
      case g1 => exact HBB8.out.alloc hsz8 _
      case g2 => simp; omega
      case g3 => omega
      intro v9 w9 ho9 hb9 _ _
      have ho9' : w9.ownsRow w7.heap.size 22 1 v9 ys.length (ys.map F) := by rw [HYL.out, HYS.out, ← enc_map]; exact ho9
      have HB9 := Aside0.mk (HB7.out.trans (hb9.mono HB7.out.size))
      obtain ⟨A9, c9, rfl, hc9, hR9⟩ := own_reads ho9' (by rw [HYL.out]; omega)
      have HR9 := Aside0.mk hR9
      clear ho9 ho9' hb9 hR9 HO8 HBB8
      go_wp2_with fail
      refine (mean_any A9 c9 ys _ HR9.out hc9 (by rw [HYL.out]; omega)).mono ?_
      rintro e w10 ⟨t2, q, rfl, ht2, hgq, hqw, m10, hw10⟩
      have hb10 : Below w9.heap.size w9 w10 := by rw [hw10]; exact pw_below_drewN (Below.refl _ _) _
      have HB10 := Aside0.mk (HB9.out.trans (hb10.mono HB9.out.size))
      clear hw10 hb10
      obtain ⟨r2, m11, hrun2, hg2, hrw2⟩ := run_farith .add (.inl rfl) 22 s v w10
      obtain ⟨q2, m12, hrun3, hg3, hrw3⟩ := run_farith .quo (.inr (.inr rfl)) 22 r2 (floatOfInt .f64 ((xs.length : Int) + 1)) (w10.drewN m11)
      have hlq : ord q q2 = 0 := by
        refine like_ord (div_like (a := t2) (a' := r2) ?_ (like_refl _) hgq ?_)
        · rw [HYS.out] at ht2
          obtain ⟨s0, h0, g0⟩ := ht2.snoc_inv
          exact add_like (h0.like_ HS.out) (like_refl _) g0 hg2
        · have e : ((ys.length : Nat) : Int) = (xs.length : Int) + 1 := by rw [HYL.out]; rfl
          rw [e]; exact hg3
      have CO2 : Aside0 (∀ w, Calls Try.prog 9 #[F q, F q2] w fun e w' => e = .returned (.int .i64 0) ∧ w' = w) := Aside0.mk fun w => by rw [← hlq]; exact order_any q q2 hqw hrw3 w
      clear hg2 hrw2 hg3 hrw3 hlq ht2 hgq hqw
      have hr3 : (binOp .quo 22 (F r2) (F (floatOfInt .f64 ((xs.length : Int) + 1)))).run Try.prog (w10.drewN m11) = .ok (F q2) (w10.drewN (m11 + m12)) := by rw [hrun3, World.drewN_drewN]
      clear hrun3
      go_wp2_with fail
      refine (CO2.out _).mono ?_
      rintro e w11 ⟨rfl, hw11⟩
      have HB11 := Aside0.mk (show Below w.heap.size w w11 by rw [hw11]; exact pw_below_drewN HB10.out _)
      clear hw11 hrun2 hr3
      go_wp2_with fail
      go_ret
      exact ⟨rfl, HB11.out⟩
    · have hn3 := HN2.out rfl
      go_wp2_with (at_builtin; refine print_append_row_of (w0 := w7) F 0 w7.heap.size rfl (.tmp 45) (.tmp 46) 25 22 (.float .f64 0) 8 rfl Try.underlying25 info22 rfl (by decide) (fun _ => rfl) _ [] xs A2 xs.length c2 rfl rfl (own_empty w7) (fk_reads (Kd.C_alloc H7.out _)) ?h1 ?h2 ?h3 ?_)
      case h1 => exact below_alloc (Below.refl _ _) _
      case h2 => simp
      case h3 => simp; omega
      intro v8 w8 ho8 hb8 _ _
      have HO8 := Aside0.mk ho8
      have hsz8 := hb8.size
      have HBB8 := Aside0.mk hb8
      clear ho8 hb8
      go_wp2_with (at_builtin; refine print_append_row_of (w0 := w7) F 0 w7.heap.size rfl (.tmp 47) (.tmp 49) 25 22 (.float .f64 0) 8 rfl Try.underlying25 info22 rfl (by decide) (fun _ => rfl) _ xs [v] (some ⟨w8.heap.size, 0, none⟩) 1 1 rfl rfl (HO8.out.alloc _) (fk_reads (C_floats w8 #[F v] (0, 0) [v] rfl (by simp))) ?g1 ?g2 ?g3 ?_)
      case g1 => exact HBB8.out.alloc hsz8 _
      case g2 => simp; omega
      case g3 => omega
      intro v9 w9 ho9 hb9 _ _
      have ho9' : w9.ownsRow w7.heap.size 22 1 v9 ys.length (ys.map F) := by rw [HYL.out, HYS.out, ← enc_map]; exact ho9
      have HB9 := Aside0.mk (HB7.out.trans (hb9.mono HB7.out.size))
      obtain ⟨A9, c9, rfl, hc9, hR9⟩ := own_reads ho9' (by rw [HYL.out]; omega)
      have HR9 := Aside0.mk hR9
      clear ho9 ho9' hb9 hR9 HO8 HBB8
      go_wp2_with fail
      refine (mean_any A9 c9 ys _ HR9.out hc9 (by rw [HYL.out]; omega)).mono ?_
      rintro e w10 ⟨t2, q, rfl, ht2, hgq, hqw, m10, hw10⟩
      have hb10 : Below w9.heap.size w9 w10 := by rw [hw10]; exact pw_below_drewN (Below.refl _ _) _
      have HB10 := Aside0.mk (HB9.out.trans (hb10.mono HB9.out.size))
      clear hw10 hb10
      obtain ⟨r2, m11, hrun2, hg2, hrw2⟩ := run_farith .add (.inl rfl) 22 s v w10
      obtain ⟨q2, m12, hrun3, hg3, hrw3⟩ := run_farith .quo (.inr (.inr rfl)) 22 r2 (floatOfInt .f64 ((xs.length : Int) + 1)) (w10.drewN m11)
      have hlq : ord q q2 = 0 := by
        refine like_ord (div_like (a := t2) (a' := r2) ?_ (like_refl _) hgq ?_)
        · rw [HYS.out] at ht2
          obtain ⟨s0, h0, g0⟩ := ht2.snoc_inv
          exact add_like (h0.like_ HS.out) (like_refl _) g0 hg2
        · have e : ((ys.length : Nat) : Int) = (xs.length : Int) + 1 := by rw [HYL.out]; rfl
          rw [e]; exact hg3
      have CO2 : Aside0 (∀ w, Calls Try.prog 9 #[F q, F q2] w fun e w' => e = .returned (.int .i64 0) ∧ w' = w) := Aside0.mk fun w => by rw [← hlq]; exact order_any q q2 hqw hrw3 w
      clear hg2 hrw2 hg3 hrw3 hlq ht2 hgq hqw
      have hr3 : (binOp .quo 22 (F r2) (F (floatOfInt .f64 ((xs.length : Int) + 1)))).run Try.prog (w10.drewN m11) = .ok (F q2) (w10.drewN (m11 + m12)) := by rw [hrun3, World.drewN_drewN]
      clear hrun3
      go_wp2_with fail
      refine (CO2.out _).mono ?_
      rintro e w11 ⟨rfl, hw11⟩
      have HB11 := Aside0.mk (show Below w.heap.size w w11 by rw [hw11]; exact pw_below_drewN HB10.out _)
      clear hw11 hrun2 hr3
      go_wp2_with fail
      go_ret
      exact ⟨rfl, HB11.out⟩
end Go.Proofs.Ytcbobfnfglboeaa.G
