/- Whether two lists of floats are alike, and the floats that are made of bytes: what each comes to. -/
import Derived.Test.YtcbobfnfglboeaaG4
set_option linter.unusedVariables false
set_option linter.unusedSimpArgs false
namespace Go.Proofs.Ytcbobfnfglboeaa.G
open Go.RowKit Go.Proofs.YtcbobfnfglboeaaW.PrintWords Go.Proofs.YtcbobfnfglboeaaW.PrintLast
open Fl

def sameL : List Nat → List Nat → Bool
  | [], [] => true
  | a :: l, b :: m => (ord a b == 0) && sameL l m
  | _, _ => false
theorem sameL_ne : ∀ {l m : List Nat}, l.length ≠ m.length → sameL l m = false
  | [], [], h => absurd rfl h
  | [], _ :: _, _ => rfl
  | _ :: _, [], _ => rfl
  | a :: l, b :: m, h => by simp only [sameL, sameL_ne (l := l) (m := m) (fun e => h (by simp [e])), Bool.and_false]
theorem sameL_self : ∀ l : List Nat, sameL l l = true
  | [] => rfl
  | a :: l => by simp only [sameL, ord_self, sameL_self l]; rfl
set_option maxHeartbeats 1600000 in
theorem same_any (A B : Option Addr) (c d : Nat) (l m : List Nat) (w : World) (hr : FK.C w A l.length l) (hq : FK.C w B m.length m) (hc : l.length ≤ c) (hd : m.length ≤ d) (hw : AllW l) (hv : AllW m) :
    Calls Try.prog 15 #[.slice A l.length c, .slice B m.length d] w fun e w' => e = .returned (.bool (sameL l m)) ∧ ∃ n, w' = w.drewN n := by
  have HR := Aside0.mk hr
  have HQ := Aside0.mk hq
  have HW := Aside0.mk hw
  have HV := Aside0.mk hv
  have hmax : l.length ≤ 9223372036854775807 := hr.2.1
  clear hr hq hw hv
  by_cases hl : l.length = m.length
  · have hb : (((l.length : Nat) : Int) != ((m.length : Nat) : Int)) = false := by rw [hl]; simp
    have HL := Aside0.mk hl
    clear hl
    go_enter Try.func15, Try.ntmps15
    go_wp2_with fail
    go_loopw [5] (fun i wr => ∃ k n : Nat, k ≤ l.length ∧ i = .int .i64 (k : Int) ∧ Aside0 (sameL l m = sameL (l.drop k) (m.drop k)) ∧ wr = w.drewN n)
      (fun i _ => l.length - (intOf i).toNat)
    case atStart => exact ⟨0, 0, by omega, rfl, Aside0.mk rfl, rfl⟩
    case round =>
      obtain ⟨k, n, hk, rfl, hS, rfl⟩ := hrel
      by_cases hlt : k < l.length
      · have hlm : k < m.length := by have := HL.out; omega
        obtain ⟨ad, rfl, hcell⟩ := fk_at HR.out hlt
        obtain ⟨bd, rfl, hcel2⟩ := fk_at HQ.out hlm
        have hy : l[k] < 18446744073709551616 := HW.out _ (by simp)
        have hz : m[k] < 18446744073709551616 := HV.out _ (by simp)
        have h1 : l.drop k = l[k] :: l.drop (k + 1) := List.drop_eq_getElem_cons hlt
        have h2 : m.drop k = m[k] :: m.drop (k + 1) := List.drop_eq_getElem_cons hlm
        have hS2 : sameL l m = ((ord l[k] m[k] == 0) && sameL (l.drop (k + 1)) (m.drop (k + 1))) := by rw [hS.out, h1, h2]; rfl
        have H2 := Aside0.mk hS2
        clear h1 h2 hS2
        obtain ⟨o, ho⟩ : ∃ o, o = ord l[k] m[k] := ⟨_, rfl⟩
        have C24 : Aside0 (∀ n', Calls Try.prog 24 #[F l[k], F m[k]] (w.drewN (n + n')) fun e w' => e = .returned (.int .i64 o) ∧ ∃ m, w' = w.drewN (n + m)) := Aside0.mk (fun n' => by rw [ho]; exact (rorder_any _ _ hy hz _).mono fun _ _ h => ⟨h.1, n', h.2.symm⟩)
        have q1 : (0 : Int) ≤ (k : Int) := by omega
        have q2 : (k : Int) < (l.length : Int) := by omega
        have q3 : (k : Int) < (m.length : Int) := by omega
        have q4 : decide ((k : Int) < (l.length : Int)) = true := by simp; omega
        rw [← ho] at H2
        clear ho
        by_cases h0 : o = 0
        · have hb0 : (o != 0) = false := by simp [h0]
          go_wp2_with fail
          go_quiet (with_reducible exact C24.out _)
          go_wp2_with fail
          go_roundw
          case rel => exact ⟨k + 1, _, by omega, by go_num, Aside0.mk (by rw [H2.out, h0]; rfl), rfl⟩
          case measure => simp [intOf]; omega
        · have hb0 : (o != 0) = true := by simp [h0]
          go_wp2_with fail
          go_quiet (with_reducible exact C24.out _)
          go_wp2_with fail
          go_ret
          exact ⟨by rw [H2.out, show (o == 0) = false from by simp [h0]]; rfl, _, World.drewN_drewN _ _ _⟩
      · obtain rfl : k = l.length := by omega
        go_wp2_with fail
        go_ret
        exact ⟨by rw [hS.out, List.drop_length, List.drop_of_length_le (by have := HL.out; omega)]; rfl, n, rfl⟩
  · have hb : (((l.length : Nat) : Int) != ((m.length : Nat) : Int)) = true := by rw [bne_iff_ne]; omega
    rw [sameL_ne hl]
    go_enter Try.func15, Try.ntmps15
    go_wp2_with fail
    go_ret
    exact ⟨rfl, 0, rfl⟩

/-- a third -/
def third (j : Int) : Nat := (floatBits .quo .f64 (floatOfInt .f64 (j - 7)) 4613937818241073152).getD 0
theorem third_at : ∀ j : Fin 16, floatBits .quo .f64 (floatOfInt .f64 ((j.val : Int) - 7)) 4613937818241073152 = some (third (j.val : Int)) := by decide +kernel
theorem third_run {x : Int} (h0 : 0 ≤ x) (h1 : x ≤ 255) : floatBits .quo .f64 (floatOfInt .f64 (x / 16 - 7)) 4613937818241073152 = some (third (x / 16)) := by
  have := third_at ⟨(x / 16).toNat, by omega⟩
  rwa [show (((x / 16).toNat : Nat) : Int) = x / 16 from Int.toNat_of_nonneg (by omega)] at this
/-- the float that a byte makes -/
def made (x : Int) : Nat :=
  if x % 16 = 0 then (9221120237041090561 + x).toNat
  else if x % 16 = 1 then 9218868437227405312
  else if x % 16 = 2 then 18442240474082181120
  else if x % 16 = 3 then 9223372036854775808
  else if x % 16 = 4 then 0
  else if x % 16 = 5 then x.toNat
  else if x % 16 = 6 then 9218868437227405311
  else if x % 16 = 7 then third (x / 16)
  else floatOfInt .f64 (x / 16 - 7)
theorem made_lt {x : Int} (h0 : 0 ≤ x) (h1 : x ≤ 255) : made x < 18446744073709551616 := by
  have h2 := floatBits_wf (third_run h0 h1)
  have h3 := floatOfInt_wf .f64 (x / 16 - 7)
  have h4 : third (x / 16) < 18446744073709551616 := by simpa [Lit.wf] using h2
  have h5 : floatOfInt .f64 (x / 16 - 7) < 18446744073709551616 := by simpa [Lit.wf] using h3
  unfold made
  repeat' split
  all_goals omega
theorem ints_at {w : World} {A : Option Addr} {n : Nat} {l : List Int} (h : Kd.C (Kd.int .u8) w A n l) {k : Nat} (hk : k < l.length) : ∃ ad, A = some ad ∧ w.cell? (ad.add k) = some (.int .u8 l[k]) := by
  obtain ⟨ad, e, hc⟩ := h.2.2 (by have := h.1; omega)
  obtain ⟨c, hs, hr, hcell⟩ := hc k _ (List.getElem?_eq_getElem hk)
  refine ⟨ad, e, ?_⟩
  have hc1 : c = [Value.int .u8 l[k]] := hr
  subst hc1
  have := hcell 0 _ rfl
  simpa [Kd.int, Kd.scalar] using this
theorem takeI_snoc (l : List Int) (k : Nat) (h : k < l.length) : l.take (k + 1) = l.take k ++ [l[k]] := by
  rw [List.take_succ_eq_append_getElem h]
theorem rel_step {w wr w1 : World} {o : Obj} {l : List Int} {k : Nat} {v v' : Value} {x : Int} {b : Nat} (hx : l[k]? = some x) (hm : made x = b)
    (hO : wr.ownsRow w.heap.size 22 1 v (l.take k).length ((l.take k).map fun x => F (made x))) (hB : Below w.heap.size w wr)
    (hown' : w1.ownsRow w.heap.size 22 1 v' (k + 1) ((l.map fun x => F (made x)).take k ++ [F b])) (hg : (wr.alloc o).grownBy w1 v.ownBlock) :
    w1.ownsRow w.heap.size 22 1 v' (l.take (k + 1)).length ((l.take (k + 1)).map fun x => F (made x)) ∧ Below w.heap.size w w1 := by
  have hk : k < l.length := by
    rcases Nat.lt_or_ge k l.length with h | h
    · exact h
    · rw [List.getElem?_eq_none h] at hx; cases hx
  have hx' : l[k] = x := by rw [List.getElem?_eq_getElem hk] at hx; exact Option.some.inj hx
  have e : (l.take (k + 1)).map (fun x => F (made x)) = (l.take k).map (fun x => F (made x)) ++ [F b] := by rw [takeI_snoc l k hk, List.map_append, hx']; simp [hm]
  have e2 : (l.take (k + 1)).length = k + 1 := by simp; omega
  rw [← List.map_take] at hown'
  rw [e, e2]
  have hsz := hB.size
  exact ⟨hown', (hB.alloc hsz _).grown hg (by simp; omega) (fun j hj => by have := (hO.lt j hj).1; omega)⟩
set_option maxHeartbeats 4000000 in
set_option maxRecDepth 100000 in
theorem floats_any (A : Option Addr) (c : Nat) (l : List Int) (w : World) (hr : Kd.C (Kd.int .u8) w A l.length l) (hc : l.length ≤ c) (hb : ∀ x, x ∈ l → 0 ≤ x ∧ x ≤ 255) (hl : l.length ≤ 1000000) :
    Calls Try.prog 8 #[.slice A l.length c] w fun e w' => ∃ v, e = .returned v ∧ w'.ownsRow w.heap.size 22 1 v l.length (l.map fun x => F (made x)) ∧ Below w.heap.size w w' := by
  have HR := Aside0.mk hr
  have HB := Aside0.mk hb
  clear hr hb
  obtain ⟨i0, hi, hz0, hz1, hz2⟩ := info_parts info22
  have e17 := ext17
  go_enter Try.func8, Try.ntmps8
  go_wp2_with fail
  go_loopw [3, 4, 5] (fun v i _ wr => ∃ k : Nat, k ≤ l.length ∧ i = .int .i64 (k : Int) ∧ Aside0 (wr.ownsRow w.heap.size 22 1 v (l.take k).length ((l.take k).map fun x => F (made x))) ∧ Aside0 (Below w.heap.size w wr))
    (fun _ i _ _ => l.length - (intOf i).toNat)
  case atStart => exact ⟨0, by omega, rfl, Aside0.mk (World.ownsRow_nil _ _ _ _), Aside0.mk (Below.refl _ _)⟩
  case round =>
    obtain ⟨k, hk, rfl, hO, hB⟩ := hrel
    by_cases hlt : k < l.length
    · obtain ⟨ad, rfl, hcell0⟩ := ints_at HR.out hlt
      obtain ⟨x, hx⟩ : ∃ x, l[k] = x := ⟨_, rfl⟩
      have hxb := HB.out l[k] (by simp)
      rw [hx] at hcell0 hxb
      have hx' : l[k]? = some x := by rw [List.getElem?_eq_getElem hlt, hx]
      have hcell : wr.cell? (ad.add k) = some (.int .u8 x) := (hB.out.cell (lt_cell hcell0)).trans hcell0
      have HX := Aside0.mk hx'
      obtain ⟨hx0, hx1⟩ := hxb
      have hsz := hB.out.size
      have htk : (l.take k).length = k := by simp; omega
      have HTK := Aside0.mk htk
      clear hx hx' hcell0 htk
      rcases (show x % 16 = 0 ∨ x % 16 = 1 ∨ x % 16 = 2 ∨ x % 16 = 3 ∨ x % 16 = 4 ∨ x % 16 = 5 ∨ x % 16 = 6 ∨ x % 16 = 7 ∨ 8 ≤ x % 16 from by omega) with h | h | h | h | h | h | h | h | h
      · have t0 : (x % 16 == 0) = true := by rw [beq_iff_eq]; exact h
        have hm : made x = (9221120237041090561 + x).toNat := by unfold made; rw [if_pos (by omega)]
        have HM := Aside0.mk hm
        clear hm h
        go_wp2_with (first | (at_builtin; refine wpList_append_own _ rfl _ _ 25 rfl w.heap.size 22 i0 (.float .f64 0) 1 8 Try.underlying25 hi hz0 hz1 hz2 rfl (by decide) _ _ _ rfl (hO.out.alloc _) ⟨wr.heap.size, 0, none⟩ 1 1 [F ((9221120237041090561 + x).toNat)] rfl rfl ?a0 ?b0 ?c0 ?d0 ?e0 ?_) | go_in)
        case a0 =>
          intro j u hj
          match j, hj with
          | 0, hj => simp at hj; subst hj; simp [Addr.add]
        case b0 => intro u hu; simp at hu; subst hu; rfl
        case c0 => rw [HTK.out]; unfold maxLen; omega
        case d0 => rw [HTK.out]; omega
        case e0 => simp; omega
        intro v' w1 hown' hgrow _
        have R := Aside0.mk (rel_step HX.out HM.out hO.out hB.out hown' hgrow)
        clear hown' hgrow
        go_wp2
        go_roundw
        case rel => exact ⟨k + 1, by omega, by go_num, Aside0.mk R.out.1, Aside0.mk R.out.2⟩
        case measure => simp [intOf]; omega
      · have t0 : (x % 16 == 0) = false := by rw [beq_eq_false_iff_ne]; omega
        have t1 : (x % 16 == 1) = true := by rw [beq_iff_eq]; exact h
        have hm : made x = 9218868437227405312 := by unfold made; rw [if_neg (by omega)]; rw [if_pos (by omega)]
        have HM := Aside0.mk hm
        clear hm h
        go_wp2_with (first | (at_builtin; refine wpList_append_own _ rfl _ _ 25 rfl w.heap.size 22 i0 (.float .f64 0) 1 8 Try.underlying25 hi hz0 hz1 hz2 rfl (by decide) _ _ _ rfl (hO.out.alloc _) ⟨wr.heap.size, 0, none⟩ 1 1 [F (9218868437227405312)] rfl rfl ?a1 ?b1 ?c1 ?d1 ?e1 ?_) | go_in)
        case a1 =>
          intro j u hj
          match j, hj with
          | 0, hj => simp at hj; subst hj; simp [Addr.add]
        case b1 => intro u hu; simp at hu; subst hu; rfl
        case c1 => rw [HTK.out]; unfold maxLen; omega
        case d1 => rw [HTK.out]; omega
        case e1 => simp; omega
        intro v' w1 hown' hgrow _
        have R := Aside0.mk (rel_step HX.out HM.out hO.out hB.out hown' hgrow)
        clear hown' hgrow
        go_wp2
        go_roundw
        case rel => exact ⟨k + 1, by omega, by go_num, Aside0.mk R.out.1, Aside0.mk R.out.2⟩
        case measure => simp [intOf]; omega
      · have t0 : (x % 16 == 0) = false := by rw [beq_eq_false_iff_ne]; omega
        have t1 : (x % 16 == 1) = false := by rw [beq_eq_false_iff_ne]; omega
        have t2 : (x % 16 == 2) = true := by rw [beq_iff_eq]; exact h
        have hm : made x = 18442240474082181120 := by unfold made; rw [if_neg (by omega)]; rw [if_neg (by omega)]; rw [if_pos (by omega)]
        have HM := Aside0.mk hm
        clear hm h
        go_wp2_with (first | (at_builtin; refine wpList_append_own _ rfl _ _ 25 rfl w.heap.size 22 i0 (.float .f64 0) 1 8 Try.underlying25 hi hz0 hz1 hz2 rfl (by decide) _ _ _ rfl (hO.out.alloc _) ⟨wr.heap.size, 0, none⟩ 1 1 [F (18442240474082181120)] rfl rfl ?a2 ?b2 ?c2 ?d2 ?e2 ?_) | go_in)
        case a2 =>
          intro j u hj
          match j, hj with
          | 0, hj => simp at hj; subst hj; simp [Addr.add]
        case b2 => intro u hu; simp at hu; subst hu; rfl
        case c2 => rw [HTK.out]; unfold maxLen; omega
        case d2 => rw [HTK.out]; omega
        case e2 => simp; omega
        intro v' w1 hown' hgrow _
        have R := Aside0.mk (rel_step HX.out HM.out hO.out hB.out hown' hgrow)
        clear hown' hgrow
        go_wp2
        go_roundw
        case rel => exact ⟨k + 1, by omega, by go_num, Aside0.mk R.out.1, Aside0.mk R.out.2⟩
        case measure => simp [intOf]; omega
      · have t0 : (x % 16 == 0) = false := by rw [beq_eq_false_iff_ne]; omega
        have t1 : (x % 16 == 1) = false := by rw [beq_eq_false_iff_ne]; omega
        have t2 : (x % 16 == 2) = false := by rw [beq_eq_false_iff_ne]; omega
        have t3 : (x % 16 == 3) = true := by rw [beq_iff_eq]; exact h
        have hm : made x = 9223372036854775808 := by unfold made; rw [if_neg (by omega)]; rw [if_neg (by omega)]; rw [if_neg (by omega)]; rw [if_pos (by omega)]
        have HM := Aside0.mk hm
        clear hm h
        go_wp2_with (first | (at_builtin; refine wpList_append_own _ rfl _ _ 25 rfl w.heap.size 22 i0 (.float .f64 0) 1 8 Try.underlying25 hi hz0 hz1 hz2 rfl (by decide) _ _ _ rfl (hO.out.alloc _) ⟨wr.heap.size, 0, none⟩ 1 1 [F (9223372036854775808)] rfl rfl ?a3 ?b3 ?c3 ?d3 ?e3 ?_) | go_in)
        case a3 =>
          intro j u hj
          match j, hj with
          | 0, hj => simp at hj; subst hj; simp [Addr.add]
        case b3 => intro u hu; simp at hu; subst hu; rfl
        case c3 => rw [HTK.out]; unfold maxLen; omega
        case d3 => rw [HTK.out]; omega
        case e3 => simp; omega
        intro v' w1 hown' hgrow _
        have R := Aside0.mk (rel_step HX.out HM.out hO.out hB.out hown' hgrow)
        clear hown' hgrow
        go_wp2
        go_roundw
        case rel => exact ⟨k + 1, by omega, by go_num, Aside0.mk R.out.1, Aside0.mk R.out.2⟩
        case measure => simp [intOf]; omega
      · have t0 : (x % 16 == 0) = false := by rw [beq_eq_false_iff_ne]; omega
        have t1 : (x % 16 == 1) = false := by rw [beq_eq_false_iff_ne]; omega
        have t2 : (x % 16 == 2) = false := by rw [beq_eq_false_iff_ne]; omega
        have t3 : (x % 16 == 3) = false := by rw [beq_eq_false_iff_ne]; omega
        have t4 : (x % 16 == 4) = true := by rw [beq_iff_eq]; exact h
        have hm : made x = 0 := by unfold made; rw [if_neg (by omega)]; rw [if_neg (by omega)]; rw [if_neg (by omega)]; rw [if_neg (by omega)]; rw [if_pos (by omega)]
        have HM := Aside0.mk hm
        clear hm h
        go_wp2_with (first | (at_builtin; refine wpList_append_own _ rfl _ _ 25 rfl w.heap.size 22 i0 (.float .f64 0) 1 8 Try.underlying25 hi hz0 hz1 hz2 rfl (by decide) _ _ _ rfl (hO.out.alloc _) ⟨wr.heap.size, 0, none⟩ 1 1 [F (0)] rfl rfl ?a4 ?b4 ?c4 ?d4 ?e4 ?_) | go_in)
        case a4 =>
          intro j u hj
          match j, hj with
          | 0, hj => simp at hj; subst hj; simp [Addr.add]
        case b4 => intro u hu; simp at hu; subst hu; rfl
        case c4 => rw [HTK.out]; unfold maxLen; omega
        case d4 => rw [HTK.out]; omega
        case e4 => simp; omega
        intro v' w1 hown' hgrow _
        have R := Aside0.mk (rel_step HX.out HM.out hO.out hB.out hown' hgrow)
        clear hown' hgrow
        go_wp2
        go_roundw
        case rel => exact ⟨k + 1, by omega, by go_num, Aside0.mk R.out.1, Aside0.mk R.out.2⟩
        case measure => simp [intOf]; omega
      · have t0 : (x % 16 == 0) = false := by rw [beq_eq_false_iff_ne]; omega
        have t1 : (x % 16 == 1) = false := by rw [beq_eq_false_iff_ne]; omega
        have t2 : (x % 16 == 2) = false := by rw [beq_eq_false_iff_ne]; omega
        have t3 : (x % 16 == 3) = false := by rw [beq_eq_false_iff_ne]; omega
        have t4 : (x % 16 == 4) = false := by rw [beq_eq_false_iff_ne]; omega
        have t5 : (x % 16 == 5) = true := by rw [beq_iff_eq]; exact h
        have hm : made x = x.toNat := by unfold made; rw [if_neg (by omega)]; rw [if_neg (by omega)]; rw [if_neg (by omega)]; rw [if_neg (by omega)]; rw [if_neg (by omega)]; rw [if_pos (by omega)]
        have HM := Aside0.mk hm
        clear hm h
        go_wp2_with (first | (at_builtin; refine wpList_append_own _ rfl _ _ 25 rfl w.heap.size 22 i0 (.float .f64 0) 1 8 Try.underlying25 hi hz0 hz1 hz2 rfl (by decide) _ _ _ rfl (hO.out.alloc _) ⟨wr.heap.size, 0, none⟩ 1 1 [F (x.toNat)] rfl rfl ?a5 ?b5 ?c5 ?d5 ?e5 ?_) | go_in)
        case a5 =>
          intro j u hj
          match j, hj with
          | 0, hj => simp at hj; subst hj; simp [Addr.add]
        case b5 => intro u hu; simp at hu; subst hu; rfl
        case c5 => rw [HTK.out]; unfold maxLen; omega
        case d5 => rw [HTK.out]; omega
        case e5 => simp; omega
        intro v' w1 hown' hgrow _
        have R := Aside0.mk (rel_step HX.out HM.out hO.out hB.out hown' hgrow)
        clear hown' hgrow
        go_wp2
        go_roundw
        case rel => exact ⟨k + 1, by omega, by go_num, Aside0.mk R.out.1, Aside0.mk R.out.2⟩
        case measure => simp [intOf]; omega
      · have t0 : (x % 16 == 0) = false := by rw [beq_eq_false_iff_ne]; omega
        have t1 : (x % 16 == 1) = false := by rw [beq_eq_false_iff_ne]; omega
        have t2 : (x % 16 == 2) = false := by rw [beq_eq_false_iff_ne]; omega
        have t3 : (x % 16 == 3) = false := by rw [beq_eq_false_iff_ne]; omega
        have t4 : (x % 16 == 4) = false := by rw [beq_eq_false_iff_ne]; omega
        have t5 : (x % 16 == 5) = false := by rw [beq_eq_false_iff_ne]; omega
        have t6 : (x % 16 == 6) = true := by rw [beq_iff_eq]; exact h
        have hm : made x = 9218868437227405311 := by unfold made; rw [if_neg (by omega)]; rw [if_neg (by omega)]; rw [if_neg (by omega)]; rw [if_neg (by omega)]; rw [if_neg (by omega)]; rw [if_neg (by omega)]; rw [if_pos (by omega)]
        have HM := Aside0.mk hm
        clear hm h
        go_wp2_with (first | (at_builtin; refine wpList_append_own _ rfl _ _ 25 rfl w.heap.size 22 i0 (.float .f64 0) 1 8 Try.underlying25 hi hz0 hz1 hz2 rfl (by decide) _ _ _ rfl (hO.out.alloc _) ⟨wr.heap.size, 0, none⟩ 1 1 [F (9218868437227405311)] rfl rfl ?a6 ?b6 ?c6 ?d6 ?e6 ?_) | go_in)
        case a6 =>
          intro j u hj
          match j, hj with
          | 0, hj => simp at hj; subst hj; simp [Addr.add]
        case b6 => intro u hu; simp at hu; subst hu; rfl
        case c6 => rw [HTK.out]; unfold maxLen; omega
        case d6 => rw [HTK.out]; omega
        case e6 => simp; omega
        intro v' w1 hown' hgrow _
        have R := Aside0.mk (rel_step HX.out HM.out hO.out hB.out hown' hgrow)
        clear hown' hgrow
        go_wp2
        go_roundw
        case rel => exact ⟨k + 1, by omega, by go_num, Aside0.mk R.out.1, Aside0.mk R.out.2⟩
        case measure => simp [intOf]; omega
      · have t0 : (x % 16 == 0) = false := by rw [beq_eq_false_iff_ne]; omega
        have t1 : (x % 16 == 1) = false := by rw [beq_eq_false_iff_ne]; omega
        have t2 : (x % 16 == 2) = false := by rw [beq_eq_false_iff_ne]; omega
        have t3 : (x % 16 == 3) = false := by rw [beq_eq_false_iff_ne]; omega
        have t4 : (x % 16 == 4) = false := by rw [beq_eq_false_iff_ne]; omega
        have t5 : (x % 16 == 5) = false := by rw [beq_eq_false_iff_ne]; omega
        have t6 : (x % 16 == 6) = false := by rw [beq_eq_false_iff_ne]; omega
        have t7 : (x % 16 == 7) = true := by rw [beq_iff_eq]; exact h
        have hm : made x = third (x / 16) := by unfold made; rw [if_neg (by omega)]; rw [if_neg (by omega)]; rw [if_neg (by omega)]; rw [if_neg (by omega)]; rw [if_neg (by omega)]; rw [if_neg (by omega)]; rw [if_neg (by omega)]; rw [if_pos (by omega)]
        have HM := Aside0.mk hm
        clear hm h
        have hq : (binOp .quo 22 (F (floatOfInt .f64 (x / 16 - 7))) (F 4613937818241073152)).run Try.prog wr = .ok (F (third (x / 16))) wr := run_float_arith wr .quo 22 .f64 _ _ _ (third_run hx0 hx1)
        go_wp2_with (first | (at_builtin; refine wpList_append_own _ rfl _ _ 25 rfl w.heap.size 22 i0 (.float .f64 0) 1 8 Try.underlying25 hi hz0 hz1 hz2 rfl (by decide) _ _ _ rfl (hO.out.alloc _) ⟨wr.heap.size, 0, none⟩ 1 1 [F (third (x / 16))] rfl rfl ?a7 ?b7 ?c7 ?d7 ?e7 ?_) | go_in)
        case a7 =>
          intro j u hj
          match j, hj with
          | 0, hj => simp at hj; subst hj; simp [Addr.add]
        case b7 => intro u hu; simp at hu; subst hu; rfl
        case c7 => rw [HTK.out]; unfold maxLen; omega
        case d7 => rw [HTK.out]; omega
        case e7 => simp; omega
        intro v' w1 hown' hgrow _
        have R := Aside0.mk (rel_step HX.out HM.out hO.out hB.out hown' hgrow)
        clear hown' hgrow
        go_wp2
        go_roundw
        case rel => exact ⟨k + 1, by omega, by go_num, Aside0.mk R.out.1, Aside0.mk R.out.2⟩
        case measure => simp [intOf]; omega
      · have t0 : (x % 16 == 0) = false := by rw [beq_eq_false_iff_ne]; omega
        have t1 : (x % 16 == 1) = false := by rw [beq_eq_false_iff_ne]; omega
        have t2 : (x % 16 == 2) = false := by rw [beq_eq_false_iff_ne]; omega
        have t3 : (x % 16 == 3) = false := by rw [beq_eq_false_iff_ne]; omega
        have t4 : (x % 16 == 4) = false := by rw [beq_eq_false_iff_ne]; omega
        have t5 : (x % 16 == 5) = false := by rw [beq_eq_false_iff_ne]; omega
        have t6 : (x % 16 == 6) = false := by rw [beq_eq_false_iff_ne]; omega
        have t7 : (x % 16 == 7) = false := by rw [beq_eq_false_iff_ne]; omega
        have hm : made x = floatOfInt .f64 (x / 16 - 7) := by unfold made; rw [if_neg (by omega)]; rw [if_neg (by omega)]; rw [if_neg (by omega)]; rw [if_neg (by omega)]; rw [if_neg (by omega)]; rw [if_neg (by omega)]; rw [if_neg (by omega)]; rw [if_neg (by omega)]
        have HM := Aside0.mk hm
        clear hm h
        go_wp2_with (first | (at_builtin; refine wpList_append_own _ rfl _ _ 25 rfl w.heap.size 22 i0 (.float .f64 0) 1 8 Try.underlying25 hi hz0 hz1 hz2 rfl (by decide) _ _ _ rfl (hO.out.alloc _) ⟨wr.heap.size, 0, none⟩ 1 1 [F (floatOfInt .f64 (x / 16 - 7))] rfl rfl ?a8 ?b8 ?c8 ?d8 ?e8 ?_) | go_in)
        case a8 =>
          intro j u hj
          match j, hj with
          | 0, hj => simp at hj; subst hj; simp [Addr.add]
        case b8 => intro u hu; simp at hu; subst hu; rfl
        case c8 => rw [HTK.out]; unfold maxLen; omega
        case d8 => rw [HTK.out]; omega
        case e8 => simp; omega
        intro v' w1 hown' hgrow _
        have R := Aside0.mk (rel_step HX.out HM.out hO.out hB.out hown' hgrow)
        clear hown' hgrow
        go_wp2
        go_roundw
        case rel => exact ⟨k + 1, by omega, by go_num, Aside0.mk R.out.1, Aside0.mk R.out.2⟩
        case measure => simp [intOf]; omega
    · obtain rfl : k = l.length := by omega
      go_wp2_with fail
      go_ret
      exact ⟨_, rfl, by have := hO.out; rwa [List.take_length] at this, hB.out⟩
end Go.Proofs.Ytcbobfnfglboeaa.G
