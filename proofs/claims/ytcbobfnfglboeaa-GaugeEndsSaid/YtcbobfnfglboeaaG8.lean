/- GaugeEnds: the walk: the least is not behind any, the greatest not ahead of any; with one more they go no way back. No condition. -/
import Derived.Test.YtcbobfnfglboeaaG7
set_option linter.unusedVariables false
set_option linter.unusedSimpArgs false
namespace Go.Proofs.Ytcbobfnfglboeaa.G
open Go.RowKit Go.Proofs.YtcbobfnfglboeaaW.PrintWords Go.Proofs.YtcbobfnfglboeaaW.PrintLast
open Fl
theorem key_of_ord {a b : Nat} : (ord a b ≤ 0 ↔ key a ≤ key b) ∧ (ord a b = 0 ↔ key a = key b) ∧ (0 < ord a b * -1 ↔ key a < key b) ∧ (0 < ord a b * 1 ↔ key b < key a) := by
  unfold ord
  by_cases h : key a < key b
  · rw [if_pos h]; omega
  · rw [if_neg h]
    by_cases h' : key b < key a
    · rw [if_pos h']; omega
    · rw [if_neg h']; omega
theorem best_min : ∀ (l : List Nat) (x : Nat), best (-1) l x ∈ x :: l ∧ ∀ y, y ∈ x :: l → key (best (-1) l x) ≤ key y
  | [], x => ⟨by simp [best], fun y hy => by simp at hy; subst hy; simp [best]⟩
  | z :: l, x => by
    obtain ⟨h1, h2⟩ := best_min l (if 0 < ord z x * -1 then z else x)
    have e : best (-1) (z :: l) x = best (-1) l (if 0 < ord z x * -1 then z else x) := rfl
    rw [e]
    have hk := (key_of_ord (a := z) (b := x)).2.2.1
    by_cases hc : 0 < ord z x * -1
    · rw [if_pos hc] at h1 h2 ⊢
      have hc' := hk.1 hc
      refine ⟨by rcases List.mem_cons.1 h1 with h | h <;> simp [h], fun y hy => ?_⟩
      rcases List.mem_cons.1 hy with rfl | hy
      · have := h2 z (by simp); omega
      · exact h2 y hy
    · rw [if_neg hc] at h1 h2 ⊢
      have hc' : ¬ key z < key x := fun t => hc (hk.2 t)
      refine ⟨by rcases List.mem_cons.1 h1 with h | h <;> simp [h], fun y hy => ?_⟩
      rcases List.mem_cons.1 hy with rfl | hy
      · exact h2 _ (by simp)
      · rcases List.mem_cons.1 hy with rfl | hy
        · have := h2 x (by simp); omega
        · exact h2 y (by simp [hy])
theorem best_max : ∀ (l : List Nat) (x : Nat), best 1 l x ∈ x :: l ∧ ∀ y, y ∈ x :: l → key y ≤ key (best 1 l x)
  | [], x => ⟨by simp [best], fun y hy => by simp at hy; subst hy; simp [best]⟩
  | z :: l, x => by
    obtain ⟨h1, h2⟩ := best_max l (if 0 < ord z x * 1 then z else x)
    have e : best 1 (z :: l) x = best 1 l (if 0 < ord z x * 1 then z else x) := rfl
    rw [e]
    have hk := (key_of_ord (a := z) (b := x)).2.2.2
    by_cases hc : 0 < ord z x * 1
    · rw [if_pos hc] at h1 h2 ⊢
      have hc' := hk.1 hc
      refine ⟨by rcases List.mem_cons.1 h1 with h | h <;> simp [h], fun y hy => ?_⟩
      rcases List.mem_cons.1 hy with rfl | hy
      · have := h2 z (by simp); omega
      · exact h2 y hy
    · rw [if_neg hc] at h1 h2 ⊢
      have hc' : ¬ key x < key z := fun t => hc (hk.2 t)
      refine ⟨by rcases List.mem_cons.1 h1 with h | h <;> simp [h], fun y hy => ?_⟩
      rcases List.mem_cons.1 hy with rfl | hy
      · exact h2 _ (by simp)
      · rcases List.mem_cons.1 hy with rfl | hy
        · have := h2 x (by simp); omega
        · exact h2 y (by simp [hy])
theorem least_min {l : List Nat} (h : l ≠ []) : least l ∈ l ∧ ∀ y, y ∈ l → key (least l) ≤ key y := by
  rcases l with _ | ⟨x, l⟩
  · exact absurd rfl h
  · exact best_min l x
theorem most_max {l : List Nat} (h : l ≠ []) : most l ∈ l ∧ ∀ y, y ∈ l → key y ≤ key (most l) := by
  rcases l with _ | ⟨x, l⟩
  · exact absurd rfl h
  · exact best_max l x
def anyz (a : Nat) (l : List Nat) : Bool := l.any fun y => ord a y == 0
theorem anyz_snoc (a : Nat) (l : List Nat) (k : Nat) (h : k < l.length) : anyz a (l.take (k + 1)) = (anyz a (l.take k) || (ord a l[k] == 0)) := by
  unfold anyz; rw [take_snoc l k h, List.any_append]; simp
theorem anyz_mem {a : Nat} {l : List Nat} (h : a ∈ l) : anyz a l = true := by
  unfold anyz; rw [List.any_eq_true]; exact ⟨a, h, by simp [ord_self]⟩
theorem least_s (A : Option Addr) (c : Nat) (l : List Nat) (w : World) (hr : FK.C w A l.length l) (hc : l.length ≤ c) (hw : AllW l) :
    Calls Try.prog 10 #[.slice A l.length c] w fun e w' => e = .returned (F (least l)) ∧ w = w' := (least_any A c l w hr hc hw).mono fun _ _ h => ⟨h.1, h.2.symm⟩
theorem most_s (A : Option Addr) (c : Nat) (l : List Nat) (w : World) (hr : FK.C w A l.length l) (hc : l.length ≤ c) (hw : AllW l) :
    Calls Try.prog 11 #[.slice A l.length c] w fun e w' => e = .returned (F (most l)) ∧ w = w' := (most_any A c l w hr hc hw).mono fun _ _ h => ⟨h.1, h.2.symm⟩
theorem least_lt {l : List Nat} (hw : AllW l) : least l < 18446744073709551616 := by
  rcases l with _ | ⟨x, l⟩
  · decide
  · exact hw _ (least_min (l := x :: l) (by simp)).1
set_option maxHeartbeats 6400000 in
set_option maxRecDepth 100000 in
theorem gaugeEnds_walk (A : Option Addr) (cp : Nat) (l : List Int) (v : Nat) (hv : v < 18446744073709551616) (w : World) (hr : Kd.C (Kd.int .u8) w A l.length l) (hcp : l.length ≤ cp) (hbl : ∀ x, x ∈ l → 0 ≤ x ∧ x ≤ 255) :
    Calls Try.prog 4 #[.slice A l.length cp, F v] w fun e w' => e = .returned (.bool true) ∧ Below w.heap.size w w' := by
  have HR := Aside0.mk hr
  have HBL := Aside0.mk hbl
  have HW : Aside0 (AllW (vals l [v])) := Aside0.mk (vals_lt hbl (by intro x hx; simp at hx; subst hx; assumption))
  clear hr hbl
  obtain ⟨i0, hi, hz0, hz1, hz2⟩ := info_parts info22
  by_cases hl : 12 < l.length
  · have hl' : (12 : Int) < (l.length : Int) := by omega
    go_enter Try.func4, Try.ntmps4
    go_wp2_with fail
    refine (begun_any _).mono ?_
    rintro e w1 ⟨rfl, hb1⟩
    go_wp2_with fail
    go_ret
    exact ⟨rfl, hb1⟩
  · have hl' : ¬ (12 : Int) < (l.length : Int) := by omega
    have hd18 : decide ((12 : Int) < (l.length : Int)) = false := by simp; omega
    go_enter Try.func4, Try.ntmps4
    go_wp2_with fail
    refine (begun_any _).mono ?_
    rintro e w1 ⟨rfl, hb1⟩
    go_wp2_with fail
    refine (floats_any A cp l _ (Kd.C_below HR.out hb1) hcp HBL.out (by omega)).mono ?_
    rintro e w2 ⟨vv, rfl, ho, hb2⟩
    have HO := Aside0.mk ho
    have HB2 := Aside0.mk (hb1.trans (hb2.mono hb1.size))
    have hsz1 := hb1.size
    have hsz2 := hb2.size
    clear ho hb1 hb2
    go_wp2_with (at_builtin; refine wpList_append_own _ rfl _ _ 25 rfl w1.heap.size 22 i0 (.float .f64 0) 1 8 Try.underlying25 hi hz0 hz1 hz2 rfl (by decide) _ _ _ rfl (HO.out.alloc _) ⟨w2.heap.size, 0, none⟩ 1 1 [F v] rfl rfl ?c1 ?c2 ?c3 ?c4 ?c5 ?_)
    case c1 =>
      intro j u hj
      match j, hj with
      | 0, hj => simp at hj; subst hj; simp [Addr.add]
    case c2 => intro u hu; simp at hu; subst hu; rfl
    case c3 => unfold maxLen; omega
    case c4 => omega
    case c5 => simp; omega
    intro v' w3 hown' hgrow _
    have ho3 : w3.ownsRow w1.heap.size 22 1 v' (vals l [v]).length ((vals l [v]).map F) := by
      have : (vals l [v]).map F = (l.map fun x => F (made x)) ++ [F v] := by unfold vals; rw [List.map_append, List.map_map]; rfl
      rw [this]
      have e : (vals l [v]).length = l.length + 1 := by simp [vals]
      rw [e]
      exact hown'
    have hn : (vals l [v]).length ≤ 13 := by simp [vals]; omega
    have hB3 : Below w.heap.size w w3 := (HB2.out.alloc HB2.out.size _).grown hgrow (by simp; omega) (fun j hj => by have := (HO.out.lt j hj).1; omega)
    obtain ⟨A3, c3, rfl, hc3, hR3⟩ := own_reads ho3 (by omega)
    obtain ⟨xs, hxs⟩ : ∃ xs, xs = vals l [v] := ⟨_, rfl⟩
    rw [← hxs] at hn hR3 HW hc3
    rw [← hxs]
    have H3 := Aside0.mk hR3
    have HB3 := Aside0.mk hB3
    have HXS := Aside0.mk hxs
    clear hxs hown' hgrow ho3 hB3 hR3 HO HB2 HR HBL
    have HC : Aside0 (∀ (x y : Nat) (o : Int) (m m' : Nat), x < 18446744073709551616 → y < 18446744073709551616 → ord x y = o → Calls Try.prog 9 #[F x, F y] (w3.drewN (m + m')) fun e w'' => e = .returned (.int .i64 o) ∧ ∃ q, w'' = w3.drewN (m + q)) :=
      Aside0.mk fun x y o m m' hx hy ho => by rw [← ho]; exact (order_any x y hx hy _).mono fun _ _ h => ⟨h.1, m', h.2⟩
    have hne : xs ≠ [] := by rw [HXS.out]; simp [vals]
    obtain ⟨a, hea⟩ : ∃ a, a = least xs := ⟨_, rfl⟩
    obtain ⟨b, heb⟩ : ∃ b, b = most xs := ⟨_, rfl⟩
    have hma := least_min hne
    have hmb := most_max hne
    rw [← hea] at hma
    rw [← heb] at hmb
    have CL : Aside0 (Calls Try.prog 10 #[.slice A3 xs.length c3] w3 fun e w' => e = .returned (F a) ∧ w3 = w') := Aside0.mk (by rw [hea]; exact least_s A3 c3 xs _ H3.out hc3 HW.out)
    have CM : Aside0 (Calls Try.prog 11 #[.slice A3 xs.length c3] w3 fun e w' => e = .returned (F b) ∧ w3 = w') := Aside0.mk (by rw [heb]; exact most_s A3 c3 xs _ H3.out hc3 HW.out)
    have haw := HW.out a hma.1
    have hbw := HW.out b hmb.1
    have CO : Aside0 (∀ (x y : Nat) (o : Int), x < 18446744073709551616 → y < 18446744073709551616 → ord x y = o → Calls Try.prog 9 #[F x, F y] w3 fun e w' => e = .returned (.int .i64 o) ∧ w3 = w') :=
      Aside0.mk fun x y o hx hy ho => by rw [← ho]; exact order_s x y hx hy _
    have HMA := Aside0.mk hma
    have HMB := Aside0.mk hmb
    have HAW := Aside0.mk haw
    have HBW := Aside0.mk hbw
    clear hea heb hma hmb haw hbw hne
    go_wp2_with fail
    refine CL.out.mono ?_
    rintro e w' ⟨rfl, rfl⟩
    go_wp2_with fail
    refine CM.out.mono ?_
    rintro e w' ⟨rfl, rfl⟩
    go_wp2_with fail
    go_loop [8, 9, 10] (fun la lb i => ∃ (k : Nat) (p q : Bool), k ≤ xs.length ∧ i = .int .i64 (k : Int) ∧ la = .bool p ∧ lb = .bool q ∧ Aside0 (p = anyz a (xs.take k) ∧ q = anyz b (xs.take k)))
      (fun _ _ i => xs.length - (intOf i).toNat)
    case atStart => exact ⟨0, false, false, by omega, rfl, rfl, rfl, Aside0.mk ⟨rfl, rfl⟩⟩
    case round =>
      obtain ⟨k, p, q, hk, rfl, rfl, rfl, hPQ⟩ := hrel
      by_cases hlt : k < xs.length
      · obtain ⟨ad, rfl, cellk⟩ := fk_at H3.out hlt
        have HXK := Aside0.mk (HW.out xs[k] (by simp))
        obtain ⟨o, ho⟩ : ∃ o, ord a xs[k] = o := ⟨_, rfl⟩
        obtain ⟨r, hr⟩ : ∃ r, ord b xs[k] = r := ⟨_, rfl⟩
        have ho1 : o ≤ 0 := by rw [← ho]; exact key_of_ord.1.2 (HMA.out.2 _ (by simp))
        have hr1 : 0 ≤ r := by
          have h1 := HMB.out.2 xs[k] (by simp)
          rw [← hr]; unfold ord; rw [if_neg (by omega)]; split <;> omega
        have HO1 := Aside0.mk ho
        have HR1 := Aside0.mk hr
        have hb1 : decide (0 < o) = false := by simp; omega
        have hb2 : decide (r < 0) = false := by simp; omega
        have hbk : decide ((k : Int) < (xs.length : Int)) = true := by simp; omega
        obtain ⟨eo, heo⟩ : ∃ eo, (o == 0) = eo := ⟨_, rfl⟩
        obtain ⟨er, her⟩ : ∃ er, (r == 0) = er := ⟨_, rfl⟩
        have HN : Aside0 ((p || eo) = anyz a (xs.take (k + 1)) ∧ (q || er) = anyz b (xs.take (k + 1))) := Aside0.mk ⟨by rw [anyz_snoc a xs k hlt, ← hPQ.out.1, ho, heo], by rw [anyz_snoc b xs k hlt, ← hPQ.out.2, hr, her]⟩
        clear ho hr ho1 hr1
        go_wp2_with fail
        refine (CO.out a xs[k] o HAW.out HXK.out HO1.out).mono ?_
        rintro e w' ⟨rfl, rfl⟩
        go_wp2_with fail
        refine (CO.out b xs[k] r HBW.out HXK.out HR1.out).mono ?_
        rintro e w' ⟨rfl, rfl⟩
        cases p <;> cases q
        · go_wp2_with fail
          refine (CO.out a xs[k] o HAW.out HXK.out HO1.out).mono ?_
          rintro e w' ⟨rfl, rfl⟩
          go_wp2_with fail
          refine (CO.out b xs[k] r HBW.out HXK.out HR1.out).mono ?_
          rintro e w' ⟨rfl, rfl⟩
          go_wp2_with fail
          go_round
          case rel => exact ⟨k + 1, _, _, by omega, by go_num, rfl, rfl, HN⟩
          case measure => simp [intOf]; omega
        · go_wp2_with fail
          refine (CO.out a xs[k] o HAW.out HXK.out HO1.out).mono ?_
          rintro e w' ⟨rfl, rfl⟩
          go_wp2_with fail
          go_round
          case rel => exact ⟨k + 1, _, _, by omega, by go_num, rfl, rfl, HN⟩
          case measure => simp [intOf]; omega
        · go_wp2_with fail
          refine (CO.out b xs[k] r HBW.out HXK.out HR1.out).mono ?_
          rintro e w' ⟨rfl, rfl⟩
          go_wp2_with fail
          go_round
          case rel => exact ⟨k + 1, _, _, by omega, by go_num, rfl, rfl, HN⟩
          case measure => simp [intOf]; omega
        · go_wp2_with fail
          go_round
          case rel => exact ⟨k + 1, _, _, by omega, by go_num, rfl, rfl, HN⟩
          case measure => simp [intOf]; omega
      · obtain rfl : k = xs.length := by omega
        have hp : p = true := by rw [hPQ.out.1, List.take_length]; exact anyz_mem HMA.out.1
        have hq : q = true := by rw [hPQ.out.2, List.take_length]; exact anyz_mem HMB.out.1
        subst hp hq
        have hxl : xs.length = l.length + 1 := by rw [HXS.out]; simp [vals]
        have hw1 : wrap64 ((xs.length : Int) - 1) = (l.length : Int) := by unfold wrap64; omega
        have hnn : (0 : Int) ≤ (l.length : Int) := by omega
        have ht : xs.take l.length = l.map made := by rw [HXS.out]; unfold vals; rw [List.take_append_of_le_length (by simp), List.take_of_length_le (by simp)]
        have hR0 : FK.C w3 A3 l.length (l.map made) := by
          have := Kd.C_take H3.out (m := l.length) (by omega)
          rw [ht] at this
          simpa using this
        have HR0 := Aside0.mk hR0
        have hwl : AllW (l.map made) := fun x hx => HW.out x (by rw [HXS.out]; simp [vals]; exact .inl (by simpa using hx))
        have CL2 : Aside0 (Calls Try.prog 10 #[.slice A3 l.length c3] w3 fun e w' => e = .returned (F (least (l.map made))) ∧ w3 = w') := Aside0.mk (by
          have := least_s A3 c3 (l.map made) w3 (by simpa using HR0.out) (by simp; omega) hwl
          simpa using this)
        have hl2 := least_lt hwl
        obtain ⟨z, hz⟩ : ∃ z, z = least (l.map made) := ⟨_, rfl⟩
        rw [← hz] at CL2 hl2
        have HL2 := Aside0.mk hl2
        obtain ⟨o, ho⟩ : ∃ o, ord a z = o := ⟨_, rfl⟩
        have hor : (o ≤ 0) ∨ l.length = 0 := by
          rcases Nat.eq_zero_or_pos l.length with h | h
          · exact .inr h
          · refine .inl ?_
            rw [← ho]
            refine key_of_ord.1.2 (HMA.out.2 _ ?_)
            rw [hz, HXS.out]
            unfold vals
            exact List.mem_append_left _ (least_min (by intro h0; have := congrArg List.length h0; simp at this; simp [this] at h)).1
        have HOZ := Aside0.mk ho
        clear ho hz hl2 hR0 hwl ht
        by_cases hoz : o ≤ 0
        · clear hor
          go_wp2_with fail
          refine CL2.out.mono ?_
          rintro e w' ⟨rfl, rfl⟩
          go_wp2_with fail
          refine (CO.out a z o HAW.out HL2.out HOZ.out).mono ?_
          rintro e w' ⟨rfl, rfl⟩
          go_wp2_with fail
          go_ret
          exact ⟨rfl, HB3.out⟩
        · have HL0 : Aside0 (((l.length : Int) == 0) = true) := Aside0.mk (by rw [beq_iff_eq]; omega)
          clear hor
          go_wp2_with fail
          refine CL2.out.mono ?_
          rintro e w' ⟨rfl, rfl⟩
          go_wp2_with fail
          refine (CO.out a z o HAW.out HL2.out HOZ.out).mono ?_
          rintro e w' ⟨rfl, rfl⟩
          have hl0 := HL0.out
          go_wp2_with fail
          go_ret
          exact ⟨rfl, HB3.out⟩
end Go.Proofs.Ytcbobfnfglboeaa.G
