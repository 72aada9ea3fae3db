/- Gauge does what it should at a few floats: begun returns true. -/
import Derived.Test.YtcbobfnfglboeaaG5
import Derived.Deep.RegionHeld3
set_option linter.unusedVariables false
set_option linter.unusedSimpArgs false
namespace Go.Proofs.Ytcbobfnfglboeaa.G
open Go.RowKit Go.Proofs.YtcbobfnfglboeaaW.PrintWords Go.Proofs.YtcbobfnfglboeaaW.PrintLast
open Fl
theorem own_reads {w : World} {base : Nat} {v : Value} {n : Nat} {l : List Nat} (h : w.ownsRow base 22 1 v n (l.map F)) (hn : n ≤ 9223372036854775807) : ∃ A c, v = .slice A n c ∧ n ≤ c ∧ FK.C w A n l := by
  rcases h.2 with ⟨rfl, hx⟩ | ⟨g, cap, cur, rfl, _, _, hnc, _⟩
  · subst hx
    exact ⟨none, 0, rfl, Nat.le_refl _, fk_own h hn⟩
  · exact ⟨_, cap, rfl, hnc, fk_own h hn⟩
theorem C_bytes (w : World) (cs : Array Value) (m : Nat × Nat) (l : List Int) (h : cs.toList = l.map (Value.int .u8)) (hn : l.length ≤ 9223372036854775807) : Kd.C (Kd.int .u8) (w.alloc (.cells cs 5 m)) (some ⟨w.heap.size, 0, none⟩) l.length l := by
  refine ⟨rfl, hn, fun _ => ⟨_, rfl, fun j p hp => ⟨[.int .u8 p], rfl, rfl, fun i u hu => ?_⟩⟩⟩
  have hi : i = 0 := by
    rcases i with _ | i
    · rfl
    · simp at hu
  subst hi
  simp at hu
  subst hu
  have e1 : (Addr.add ⟨w.heap.size, 0, none⟩ (j * (Kd.int .u8).sz + 0)) = ⟨w.heap.size, j, none⟩ := by
    show (Addr.add ⟨w.heap.size, 0, none⟩ (j * 1 + 0)) = _
    simp only [Nat.mul_one, Nat.add_zero]
    unfold Addr.add
    split <;> simp_all
  rw [e1]
  have e2 : (w.alloc (.cells cs 5 m)).heap[w.heap.size]? = some (.cells cs 5 m) := by
    show (w.heap.push _)[w.heap.size]? = _
    simp
  have e3 : cs[j]? = some (.int .u8 p) := by
    rw [← Array.getElem?_toList, h, List.getElem?_map, hp]; rfl
  unfold World.cell?
  rw [e2]
  simpa using e3
theorem C_floats (w : World) (cs : Array Value) (m : Nat × Nat) (l : List Nat) (h : cs.toList = l.map F) (hn : l.length ≤ 9223372036854775807) : FK.C (w.alloc (.cells cs 22 m)) (some ⟨w.heap.size, 0, none⟩) l.length l := by
  refine ⟨rfl, hn, fun _ => ⟨_, rfl, fun j p hp => ⟨[F p], rfl, rfl, fun i u hu => ?_⟩⟩⟩
  have hi : i = 0 := by
    rcases i with _ | i
    · rfl
    · simp at hu
  subst hi
  simp at hu
  subst hu
  have e1 : (Addr.add ⟨w.heap.size, 0, none⟩ (j * FK.sz + 0)) = ⟨w.heap.size, j, none⟩ := by
    show (Addr.add ⟨w.heap.size, 0, none⟩ (j * 1 + 0)) = _
    simp only [Nat.mul_one, Nat.add_zero]
    unfold Addr.add
    split <;> simp_all
  rw [e1]
  have e2 : (w.alloc (.cells cs 22 m)).heap[w.heap.size]? = some (.cells cs 22 m) := by
    show (w.heap.push _)[w.heap.size]? = _
    simp
  have e3 : cs[j]? = some (F p) := by
    rw [← Array.getElem?_toList, h, List.getElem?_map, hp]; rfl
  unfold World.cell?
  rw [e2]
  simpa using e3
def l4 : List Int := [3, 4, 1, 0]
def f4 : List Nat := [9223372036854775808, 0, 9218868437227405312, 9221120237041090561]
theorem made4' : l4.map made = f4 := by decide +kernel
theorem made4 : l4.map (fun x => F (made x)) = f4.map F := by rw [← made4', List.map_map]; rfl
theorem order_lit {a b : Nat} {o : Int} (ha : a < 18446744073709551616) (hb : b < 18446744073709551616) (h : ord a b = o) (w : World) : Calls Try.prog 9 #[F a, F b] w fun e w' => e = .returned (.int .i64 o) ∧ w = w' := by rw [← h]; exact order_s a b ha hb w
theorem mean_lit (w : World) : Calls Try.prog 13 #[.slice none 0 0] w fun e w' => e = .returned (F 9221120237041090561) ∧ w = w' := (mean_nil w).mono fun _ _ h => ⟨h.1, h.2.symm⟩
theorem half : floatBits .quo .f64 (floatOfInt .f64 1) (floatOfInt .f64 2) = some 4602678819172646912 := by decide +kernel
theorem ratio_lit (w : World) : Calls Try.prog 16 #[.int .i64 1, .int .i64 2] w fun e w' => e = .returned (F 4602678819172646912) ∧ w = w' := by
  have hrun := run_float_arith (P := Try.prog) w .quo 22 .f64 _ _ _ half
  go_enter Try.func16, Try.ntmps16
  go_wp2_with fail
  go_ret
  exact ⟨rfl, rfl⟩
def l2 : List Nat := [4611686018427387904, 4607182418800017408]
theorem least_lit {A : Option Addr} (w : World) (h : FK.C w A 2 l2) : Calls Try.prog 10 #[.slice A 2 2] w fun e w' => e = .returned (F 4607182418800017408) ∧ w = w' :=
  (least_any A 2 l2 w h (by decide) (by intro x hx; revert x; decide)).mono fun _ _ h => ⟨h.1.trans (congrArg (fun b => Ending.returned (F b)) (by decide +kernel)), h.2.symm⟩
theorem most_lit {A : Option Addr} (w : World) (h : FK.C w A 2 l2) : Calls Try.prog 11 #[.slice A 2 2] w fun e w' => e = .returned (F 4611686018427387904) ∧ w = w' :=
  (most_any A 2 l2 w h (by decide) (by intro x hx; revert x; decide)).mono fun _ _ h => ⟨h.1.trans (congrArg (fun b => Ending.returned (F b)) (by decide +kernel)), h.2.symm⟩
theorem Sums.inv {m : List Nat} {r : Nat} (h : Sums m r) : (m = [] ∧ r = 0) ∨ ∃ l s x, m = l ++ [x] ∧ Sums l s ∧ Gives (D.add s x) r := by
  cases h with
  | nil => exact .inl ⟨rfl, rfl⟩
  | snoc h g _ => exact .inr ⟨_, _, _, rfl, h, g⟩
theorem Sums.snoc_inv {l : List Nat} {x r : Nat} (h : Sums (l ++ [x]) r) : ∃ s, Sums l s ∧ Gives (D.add s x) r := by
  rcases h.inv with ⟨e, _⟩ | ⟨l', s, x', e, h, g⟩
  · simp at e
  · obtain ⟨e1, e2⟩ := List.append_inj' e rfl
    cases e2
    subst e1
    exact ⟨s, h, g⟩
theorem Sums.nil_inv {r : Nat} (h : Sums [] r) : r = 0 := by
  rcases h.inv with ⟨_, e⟩ | ⟨l', s, x', e, _, _⟩
  · exact e
  · simp at e
theorem sums_lit {s : Nat} (h : Sums l2 s) : s = 4613937818241073152 := by
  obtain ⟨r, h', h2⟩ := Sums.snoc_inv (l := [4611686018427387904]) (x := 4607182418800017408) h
  obtain ⟨z, h0, h1⟩ := Sums.snoc_inv (l := []) (x := 4611686018427387904) h'
  have h0 := h0.nil_inv
  subst h0
  have e1 : D.add 0 4611686018427387904 = some 4611686018427387904 := by decide +kernel
  rw [e1] at h1
  have h1 : r = 4611686018427387904 := h1
  subst h1
  have e2 : D.add 4611686018427387904 4607182418800017408 = some 4613937818241073152 := by decide +kernel
  rw [e2] at h2
  exact h2
theorem sum_lit {A : Option Addr} (w : World) (h : FK.C w A 2 l2) : Calls Try.prog 12 #[.slice A 2 2] w fun e w' => e = .returned (F 4613937818241073152) ∧ Below w.heap.size w w' :=
  (sum_any A 2 l2 w h (by decide)).mono fun _ _ h => by
    obtain ⟨s, rfl, hs, n, rfl⟩ := h
    exact ⟨by rw [sums_lit hs], pw_below_drewN (Below.refl _ _) _⟩
abbrev lit2 (W : World) : World := W.alloc (.cells #[.float .f64 4611686018427387904, .float .f64 4607182418800017408] 22)
theorem lit2_reads (W : World) : FK.C (lit2 W) (some ⟨W.heap.size, 0, none⟩) 2 l2 := C_floats W _ _ l2 rfl (by decide)
theorem least_at (W : World) : Calls Try.prog 10 #[.slice (some ⟨W.heap.size, 0, none⟩) 2 2] (W.alloc (.cells #[.float .f64 4611686018427387904, .float .f64 4607182418800017408] 22)) fun e w' => e = .returned (F 4607182418800017408) ∧ Below (W.alloc (.cells #[.float .f64 4611686018427387904, .float .f64 4607182418800017408] 22)).heap.size (W.alloc (.cells #[.float .f64 4611686018427387904, .float .f64 4607182418800017408] 22)) w' :=
  (least_lit (lit2 W) (lit2_reads W)).mono fun _ _ h => ⟨h.1, by rw [← h.2]; exact Below.refl _ _⟩
theorem most_at (W : World) : Calls Try.prog 11 #[.slice (some ⟨W.heap.size, 0, none⟩) 2 2] (W.alloc (.cells #[.float .f64 4611686018427387904, .float .f64 4607182418800017408] 22)) fun e w' => e = .returned (F 4611686018427387904) ∧ Below (W.alloc (.cells #[.float .f64 4611686018427387904, .float .f64 4607182418800017408] 22)).heap.size (W.alloc (.cells #[.float .f64 4611686018427387904, .float .f64 4607182418800017408] 22)) w' :=
  (most_lit (lit2 W) (lit2_reads W)).mono fun _ _ h => ⟨h.1, by rw [← h.2]; exact Below.refl _ _⟩
theorem sum_at (W : World) : Calls Try.prog 12 #[.slice (some ⟨W.heap.size, 0, none⟩) 2 2] (W.alloc (.cells #[.float .f64 4611686018427387904, .float .f64 4607182418800017408] 22)) fun e w' => e = .returned (F 4613937818241073152) ∧ Below (W.alloc (.cells #[.float .f64 4611686018427387904, .float .f64 4607182418800017408] 22)).heap.size (W.alloc (.cells #[.float .f64 4611686018427387904, .float .f64 4607182418800017408] 22)) w' :=
  sum_lit (lit2 W) (lit2_reads W)
theorem whole_lit {A : Option Addr} {c : Nat} (w : World) (h : FK.C w A 4 f4) (hc : 4 ≤ c) : Calls Try.prog 14 #[.slice A 4 c] w fun e w' => (∃ A' c', e = .returned (.slice A' 2 c')) ∧ Below w.heap.size w w' :=
  (whole_any A c f4 w h hc (by intro x hx; revert x; decide) (by decide)).mono fun _ _ h => by
    obtain ⟨v, rfl, ho, hb⟩ := h
    rw [show wholes f4 = [9223372036854775808, 0] from by decide +kernel] at ho
    obtain ⟨A', c', rfl, _, _⟩ := own_reads (n := 2) ho (by decide)
    exact ⟨⟨A', c', rfl⟩, hb⟩
abbrev S4 (w1 : World) (ad : Addr) (W : World) : Prop := W.cell? ad = some (F 9223372036854775808) ∧ W.cell? ⟨ad.block, ad.off + 1, none⟩ = some (F 0) ∧ W.cell? ⟨ad.block, ad.off + 2, none⟩ = some (F 9218868437227405312) ∧ W.cell? ⟨ad.block, ad.off + 3, none⟩ = some (F 9221120237041090561) ∧ Aside0 (Below w1.heap.size w1 W)
theorem B_drew {B : Nat} {w W : World} (h : Aside0 (Below B w W)) : Aside0 (Below B w W.drew) := Aside0.mk h.out.drew
theorem B_alloc {w W : World} (h : Aside0 (Below w.heap.size w W)) (o : Obj) : Aside0 (Below w.heap.size w (W.alloc o)) := Aside0.mk (h.out.alloc h.out.size o)
theorem B_trans {w W W' : World} (h : Aside0 (Below w.heap.size w W)) (h' : Below W.heap.size W W') : Aside0 (Below w.heap.size w W') := Aside0.mk (h.out.trans (h'.mono h.out.size))
set_option maxHeartbeats 3200000 in
set_option maxRecDepth 100000 in
theorem begun_any (w : World) : Calls Try.prog 7 #[] w fun e w' => e = .returned (.bool true) ∧ Below w.heap.size w w' := by
  go_enter Try.func7, Try.ntmps7
  go_wp2_with fail
  refine (floats_any _ 4 l4 _ (C_bytes w _ _ l4 rfl (by decide)) (by decide) (by decide) (by decide)).mono ?_
  rintro e w1 ⟨v, rfl, ho, hb⟩
  rw [made4] at ho
  have hb0 : Below w.heap.size w w1 := ((Below.refl _ _).alloc (Nat.le_refl _) _).trans (hb.mono (by simp))
  obtain ⟨A, c, rfl, hc, hR⟩ := own_reads (n := 4) ho (by decide)
  obtain ⟨ad, rfl, k0⟩ := fk_at hR (show 0 < f4.length by decide)
  obtain ⟨_, e, k1⟩ := fk_at hR (show 1 < f4.length by decide)
  cases e
  obtain ⟨_, e, k2⟩ := fk_at hR (show 2 < f4.length by decide)
  cases e
  obtain ⟨_, e, k3⟩ := fk_at hR (show 3 < f4.length by decide)
  cases e
  have c0 : w1.cell? ad = some (F 9223372036854775808) := k0
  have c1 : w1.cell? ⟨ad.block, ad.off + 1, none⟩ = some (F 0) := k1
  have c2 : w1.cell? ⟨ad.block, ad.off + 2, none⟩ = some (F 9218868437227405312) := k2
  have c3 : w1.cell? ⟨ad.block, ad.off + 3, none⟩ = some (F 9221120237041090561) := k3
  have HR := Aside0.mk hR
  have HB := Aside0.mk hb0
  have SOF : Aside0 (∀ W, Aside0 (Below w1.heap.size w1 W) → S4 w1 ad W) :=
    Aside0.mk fun W h => ⟨(h.out.cell (lt_cell c0)).trans c0, (h.out.cell (lt_cell c1)).trans c1, (h.out.cell (lt_cell c2)).trans c2, (h.out.cell (lt_cell c3)).trans c3, h⟩
  have HRW : Aside0 (∀ W, Aside0 (Below w1.heap.size w1 W) → FK.C W (some ad) 4 f4) := Aside0.mk fun W h => Kd.C_below HR.out h.out
  have B1 : Aside0 (Below w1.heap.size w1 w1) := Aside0.mk (Below.refl _ _)
  clear hR ho hb hb0 c0 c1 c2 c3 k0 k1 k2 k3
  have d1 : (FloatKind.f64.format.order 4602678819172646912 4602678819172646912 == some .eq) = true := by decide +kernel
  have d2 : (FloatKind.f64.format.order 4607182418800017408 4607182418800017408 == some .eq) = true := by decide +kernel
  have d3 : (FloatKind.f64.format.order 4611686018427387904 4611686018427387904 == some .eq) = true := by decide +kernel
  have d4 : (FloatKind.f64.format.order 4613937818241073152 4613937818241073152 == some .eq) = true := by decide +kernel
  go_wp2_with fail
  go_region_held3 (S4 w1 ad)
    ((go_split_ands; refine SOF.out _ ?_; first | assumption | (refine B_drew ?_; assumption) | (refine B_alloc ?_ _; assumption) | exact B_trans (by assumption) (by assumption)))
    (first
      | (go_at_call 9; (first | (with_reducible refine (order_lit (a := 9223372036854775808) (b := 0) (o := -1) (by decide) (by decide) (by decide +kernel) _).mono ?_) | (with_reducible refine (order_lit (a := 9221120237041090561) (b := 9218868437227405312) (o := 1) (by decide) (by decide) (by decide +kernel) _).mono ?_) | (with_reducible refine (order_lit (a := 9221120237041090561) (b := 9221120237041090561) (o := 0) (by decide) (by decide) (by decide +kernel) _).mono ?_)); rintro e w' ⟨rfl, rfl⟩)
      | (go_at_call 13; refine (mean_lit _).mono ?_; rintro e w' ⟨rfl, rfl⟩)
      | (go_at_call 16; refine (ratio_lit _).mono ?_; rintro e w' ⟨rfl, rfl⟩)
      | (go_at_call 14; refine (whole_lit _ (HRW.out _ (by go_split_ands; assumption)) hc).mono ?_; rintro e w' ⟨⟨A', c', rfl⟩, hb'⟩)
      | (go_at_call 10; (with_reducible refine (least_at _).mono ?_); rintro e w' ⟨rfl, hb'⟩)
      | (go_at_call 11; (with_reducible refine (most_at _).mono ?_); rintro e w' ⟨rfl, hb'⟩)
      | (go_at_call 12; (with_reducible refine (sum_at _).mono ?_); rintro e w' ⟨rfl, hb'⟩))
  go_wp2_with fail
  go_split_ands
  go_goals
  go_ret
  exact ⟨rfl, HB.out.trans ((Aside0.out (by assumption) : Below w1.heap.size w1 _).mono HB.out.size)⟩
end Go.Proofs.Ytcbobfnfglboeaa.G
