/- Least, Most, Ratio, Whole, SameFloats, the document's Order, and the floats that are made of bytes: what each comes to. -/
import Derived.Test.YtcbobfnfglboeaaG2
set_option linter.unusedVariables false
set_option linter.unusedSimpArgs false
namespace Go.Proofs.Ytcbobfnfglboeaa.G
open Go.RowKit Go.Proofs.YtcbobfnfglboeaaW.PrintWords Go.Proofs.YtcbobfnfglboeaaW.PrintLast
open Fl
def least : List Nat → Nat
  | [] => 9218868437227405312
  | x :: l => best (-1) l x
def most : List Nat → Nat
  | [] => 18442240474082181120
  | x :: l => best 1 l x
theorem first_nil (A : Option Addr) (c : Nat) (sign : Int) (em : Nat) (w : World) : Calls Try.prog 20 #[.slice A 0 c, .int .i64 sign, F em] w fun e w' => e = .returned (F em) ∧ w' = w := by
  go_enter Try.func20, Try.ntmps20
  go_wp2_with fail
  go_ret
  exact ⟨rfl, rfl⟩
theorem least_any (A : Option Addr) (c : Nat) (l : List Nat) (w : World) (hr : FK.C w A l.length l) (hc : l.length ≤ c) (hw : AllW l) :
    Calls Try.prog 10 #[.slice A l.length c] w fun e w' => e = .returned (F (least l)) ∧ w' = w := by
  have HR := Aside0.mk hr
  have HW := Aside0.mk hw
  clear hr hw
  go_enter Try.func10, Try.ntmps10
  go_wp2_with fail
  refine (inf_pos _).mono ?_
  rintro e w' ⟨rfl, rfl⟩
  go_wp2_with fail
  rcases l with _ | ⟨x, l⟩
  · refine (first_nil A c (-1) _ _).mono ?_
    rintro e w' ⟨rfl, rfl⟩
    go_wp2_with fail
    go_ret
    exact ⟨rfl, rfl⟩
  · refine (first_any A c x l (-1) _ _ (.inr rfl) HR.out hc HW.out).mono ?_
    rintro e w' ⟨rfl, rfl⟩
    go_wp2_with fail
    go_ret
    exact ⟨rfl, rfl⟩
theorem most_any (A : Option Addr) (c : Nat) (l : List Nat) (w : World) (hr : FK.C w A l.length l) (hc : l.length ≤ c) (hw : AllW l) :
    Calls Try.prog 11 #[.slice A l.length c] w fun e w' => e = .returned (F (most l)) ∧ w' = w := by
  have HR := Aside0.mk hr
  have HW := Aside0.mk hw
  clear hr hw
  go_enter Try.func11, Try.ntmps11
  go_wp2_with fail
  refine (inf_neg _).mono ?_
  rintro e w' ⟨rfl, rfl⟩
  go_wp2_with fail
  rcases l with _ | ⟨x, l⟩
  · refine (first_nil A c 1 _ _).mono ?_
    rintro e w' ⟨rfl, rfl⟩
    go_wp2_with fail
    go_ret
    exact ⟨rfl, rfl⟩
  · refine (first_any A c x l 1 _ _ (.inl rfl) HR.out hc HW.out).mono ?_
    rintro e w' ⟨rfl, rfl⟩
    go_wp2_with fail
    go_ret
    exact ⟨rfl, rfl⟩
theorem ratio_any (a b : Int) (w : World) : Calls Try.prog 16 #[.int .i64 a, .int .i64 b] w fun e w' => ∃ q, e = .returned (F q) ∧ Gives (D.div (floatOfInt .f64 a) (floatOfInt .f64 b)) q ∧ q < 18446744073709551616 ∧ ∃ n, w' = w.drewN n := by
  obtain ⟨q, m, hrun, hg, hq⟩ := run_farith .quo (.inr (.inr rfl)) 22 (floatOfInt .f64 a) (floatOfInt .f64 b) w
  have HG := Aside0.mk (And.intro hg hq)
  clear hg hq
  go_enter Try.func16, Try.ntmps16
  go_wp2_with fail
  go_ret
  exact ⟨q, rfl, HG.out.1, HG.out.2, m, rfl⟩
theorem none_s (a : Nat) (w : World) : Calls Try.prog 18 #[F a] w fun e w' => e = .returned (.bool (isN a)) ∧ w = w' := (none_any a w).mono fun _ _ h => ⟨h.1, h.2.symm⟩
theorem isInf_s (a : Nat) (ha : a < 18446744073709551616) (w : World) : Calls Try.prog 23 #[F a, .int .i64 0] w fun e w' => e = .returned (.bool (rung a == INF)) ∧ w = w' := (isInf_any a ha w).mono fun _ _ h => ⟨h.1, h.2.symm⟩
theorem order_s (a b : Nat) (ha : a < 18446744073709551616) (hb : b < 18446744073709551616) (w : World) : Calls Try.prog 9 #[F a, F b] w fun e w' => e = .returned (.int .i64 (ord a b)) ∧ w = w' := (order_any a b ha hb w).mono fun _ _ h => ⟨h.1, h.2.symm⟩
theorem info22 : (Try.prog.info? 22).map (fun i => (i.zero, i.size, i.bytes)) = some (some (.float .f64 0), 1, 8) := by kernel_rfl
/-- a row of floats of the call's own reads as floats -/
theorem fk_own {w : World} {base : Nat} {A : Option Addr} {n c : Nat} {l : List Nat} (h : w.ownsRow base 22 1 (.slice A n c) n (l.map F)) (hn : n ≤ 9223372036854775807) : FK.C w A n l := by
  have hl : l.length = n := by have := h.1; simpa using this
  refine ⟨hl, hn, fun h0 => ?_⟩
  obtain ⟨g, cap, hv, _, hlt⟩ := h.form h0
  have hA : A = some ⟨g, 0, none⟩ := by injection hv
  subst hA
  refine ⟨_, rfl, fun j p hp => ⟨[F p], rfl, rfl, fun i u hu => ?_⟩⟩
  have hi : i = 0 := by
    rcases i with _ | i
    · rfl
    · simp at hu
  subst hi
  simp at hu
  subst hu
  have := h.cells (g := g) rfl j (F p) (by rw [List.getElem?_map, hp]; rfl)
  simpa [FK, Kd.scalar] using this
theorem lt_cell {w : World} {a : Addr} {v : Value} (h : w.cell? a = some v) : a.block < w.heap.size := by
  rcases Nat.lt_or_ge a.block w.heap.size with h1 | h1
  · exact h1
  · unfold World.cell? at h
    rw [Array.getElem?_eq_none h1] at h
    cases h
def wholes (l : List Nat) : List Nat := l.filter fin
theorem wholes_le (l : List Nat) : (wholes l).length ≤ l.length := List.length_filter_le _ _
theorem wholes_take_le (l : List Nat) (k : Nat) : (wholes (l.take k)).length ≤ l.length := Nat.le_trans (wholes_le _) (by simp; omega)
set_option maxHeartbeats 1600000 in
theorem whole_any (A : Option Addr) (c : Nat) (l : List Nat) (w : World) (hr : FK.C w A l.length l) (hc : l.length ≤ c) (hw : AllW l) (hreach : l.length * 8 ≤ 140737488351232) :
    Calls Try.prog 14 #[.slice A l.length c] w fun e w' => ∃ v, e = .returned v ∧ w'.ownsRow w.heap.size 22 1 v (wholes l).length ((wholes l).map F) ∧ Below w.heap.size w w' := by
  have HR := Aside0.mk hr
  have HW := Aside0.mk hw
  clear hr hw
  obtain ⟨i0, hi, hz0, hz1, hz2⟩ := info_parts info22
  go_enter Try.func14, Try.ntmps14
  go_wp2_with fail
  go_loopw [2, 7] (fun v i wr => ∃ k : Nat, k ≤ l.length ∧ i = .int .i64 (k : Int) ∧ Aside0 (wr.ownsRow w.heap.size 22 1 v (wholes (l.take k)).length ((wholes (l.take k)).map F)) ∧ Aside0 (Below w.heap.size w wr))
    (fun _ i _ => l.length - (intOf i).toNat)
  case atStart => exact ⟨0, by omega, rfl, Aside0.mk (World.ownsRow_nil _ _ _ _), Aside0.mk (Below.refl _ _)⟩
  case round =>
    obtain ⟨k, hk, rfl, hO, hB⟩ := hrel
    by_cases hlt : k < l.length
    · obtain ⟨ad, rfl, hcell0⟩ := fk_at HR.out hlt
      have hcell : wr.cell? (ad.add k) = some (F l[k]) := (hB.out.cell (lt_cell hcell0)).trans hcell0
      have hy : l[k] < 18446744073709551616 := HW.out _ (by simp)
      have hb : decide ((k : Int) < (l.length : Int)) = true := by simp; omega
      have ht := take_snoc l k hlt
      have hle := wholes_take_le l k
      have hsz := hB.out.size
      cases hn : isN l[k]
      · cases hI : (rung l[k] == INF)
        · have hf : fin l[k] = true := by rw [← whole_go, hn, hI]; rfl
          have HT : Aside0 (wholes (l.take (k + 1)) = wholes (l.take k) ++ [l[k]]) := Aside0.mk (by rw [ht]; unfold wholes; rw [List.filter_append]; simp [List.filter_cons, hf])
          clear ht hf
          go_wp2_with (first | (go_at_call 18; refine (none_s _ _).mono ?_; rintro e w' ⟨rfl, rfl⟩) | (go_at_call 23; refine (isInf_s _ hy _).mono ?_; rintro e w' ⟨rfl, rfl⟩) | (at_builtin; go_loud (refine wpList_append_own _ rfl _ _ 25 rfl w.heap.size 22 i0 (.float .f64 0) 1 8 Try.underlying25 hi hz0 hz1 hz2 rfl (by decide) _ _ _ rfl (hO.out.alloc _) ⟨wr.heap.size, 0, none⟩ 1 1 [F l[k]] rfl rfl ?c1 ?c2 ?c3 ?c4 ?c5 ?_)))
          case c1 =>
            intro j u hj
            match j, hj with
            | 0, hj => simp at hj; subst hj; simp [Addr.add]
          case c2 => intro u hu; simp at hu; subst hu; rfl
          case c3 => unfold maxLen; omega
          case c4 => omega
          case c5 => simp; omega
          intro v' w1 hown' hgrow _
          have H1 := Aside0.mk hown'
          have H2 := Aside0.mk hgrow
          clear hown' hgrow
          go_wp2
          go_roundw
          case rel => exact ⟨k + 1, by omega, by go_num, Aside0.mk (by rw [HT.out, List.length_append, List.map_append]; exact H1.out), Aside0.mk ((hB.out.alloc hB.out.size _).grown H2.out (by simp; omega) (fun j hj => by have := (hO.out.lt j hj).1; omega))⟩
          case measure => simp [intOf]; omega
        · have hf : fin l[k] = false := by rw [← whole_go, hn, hI]; rfl
          have HT : Aside0 (wholes (l.take (k + 1)) = wholes (l.take k)) := Aside0.mk (by rw [ht]; unfold wholes; rw [List.filter_append]; simp [List.filter_cons, hf])
          clear ht hf
          go_wp2_with (first | (go_at_call 18; refine (none_s _ _).mono ?_; rintro e w' ⟨rfl, rfl⟩) | (go_at_call 23; refine (isInf_s _ hy _).mono ?_; rintro e w' ⟨rfl, rfl⟩))
          go_roundw
          case rel => exact ⟨k + 1, by omega, by go_num, Aside0.mk (by rw [HT.out]; exact hO.out), hB⟩
          case measure => simp [intOf]; omega
      · have hf : fin l[k] = false := by rw [← whole_go, hn]; rfl
        have HT : Aside0 (wholes (l.take (k + 1)) = wholes (l.take k)) := Aside0.mk (by rw [ht]; unfold wholes; rw [List.filter_append]; simp [List.filter_cons, hf])
        clear ht hf
        go_wp2_with (first | (go_at_call 18; refine (none_s _ _).mono ?_; rintro e w' ⟨rfl, rfl⟩) | (go_at_call 23; refine (isInf_s _ hy _).mono ?_; rintro e w' ⟨rfl, rfl⟩))
        go_roundw
        case rel => exact ⟨k + 1, by omega, by go_num, Aside0.mk (by rw [HT.out]; exact hO.out), hB⟩
        case measure => simp [intOf]; omega
    · obtain rfl : k = l.length := by omega
      go_wp2_with fail
      go_ret
      exact ⟨_, rfl, by have := hO.out; rwa [List.take_length] at this, hB.out⟩
end Go.Proofs.Ytcbobfnfglboeaa.G
