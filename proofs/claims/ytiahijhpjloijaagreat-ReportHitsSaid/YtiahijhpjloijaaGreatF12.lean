/- Each operation of the evaluator does what the program's operation does that it fits. -/
import Derived.Test.YtiahijhpjloijaaGreatF11
set_option linter.unusedVariables false
set_option linter.unusedSimpArgs false
namespace Go.Proofs.YtiahijhpjloijaaGreat.V
open Go Go.RowKit
section
variable {P : Program} {n : Nat} {β : Blk} {tm : Tr D} {a : Act} {hp : Tr Ob} {w : World}
theorem ap_ok (hT : TV n β tm a) (hH : HV β hp w) {e k b t u ty : Nat} {x y : A} {x' y' : Operand} {d : D} {f : Ef} {nid : Pos} {hp' : Tr Ob}
    (hu : P.underlying t = some (.slice e)) (hu' : ∃ e', P.underlying u = some (.slice e')) (hz : zsz P e k = true) (hb : byB P e b = true) (hk : 0 < k) (hx : fitA x x' = true) (hy : fitA y y' = true)
    (hr : rd P nid (.ap e k b x y) tm hp = some (d, f)) (hfit : fit nid f hp = some hp') :
    ∃ v β' w', (Builtin.append_ #[t, u] ty #[a.eval x', a.eval y']).run P w = .ok v w' ∧ DV β' d v ∧ HV β' hp' w' ∧ Mv β w β' w' := by
  obtain ⟨e', hu'⟩ := hu'
  obtain ⟨i, z, hi, hiz, hzs, hik, hbp⟩ := zsz_ok hz
  obtain ⟨i', hi', hib⟩ := byB_ok hb
  rw [hi] at hi'; cases hi'
  simp only [rd] at hr
  split at hr
  · rename_i cx cy hcx hcy
    have vx := cel_ok hT hx hcx
    have vy := cel_ok hT hy hcy
    split at hr
    · rename_i k' m cs he
      rw [brec'] at hr
      split at hr
      · rename_i hm
        rw [beq_iff, len_eq] at hm
        obtain ⟨_, vs, hal, hv⟩ := elems_ok hH vy he
        have hlv := Al.len hal
        rcases hv with ⟨ad, cap, hv, hcell⟩ | ⟨hv, hm0⟩
        · obtain ⟨sl, sLen, sCap, v, β', w', hxv, hrun, h1, h2, h3⟩ := grow_ok (P := P) (zeros := false) (yv := a.eval y') (app := Builtin.firstCells i.size m (a.eval y')) hH vx hi hiz hzs hik hbp hib hk hm hal
            (fun w' hw => by
              rw [hv]
              refine run_firstCells_some (P := P) w' i.size m ad m cap vs (by rw [hik]; omega) (fun j u hj => ?_)
              have := hcell j u hj
              unfold World.cell? at this ⊢
              rw [hw]; exact this) hr hfit
          refine ⟨v, β', w', ?_, h1, h2, h3⟩
          rw [hxv] at hrun ⊢
          rw [hv] at hrun ⊢
          rw [app_slice hu hu' hi]
          exact hrun
        · subst hm0
          have hnil : cs = [] := List.eq_nil_of_length_eq_zero (by rw [hm]; exact Nat.zero_mul _)
          subst hnil
          cases hal
          obtain ⟨sl, sLen, sCap, v, β', w', hxv, hrun, h1, h2, h3⟩ := grow_ok (P := P) (zeros := false) (yv := a.eval y') (app := Builtin.firstCells i.size 0 (a.eval y')) (news := []) hH vx hi hiz hzs hik hbp hib hk hm .nil
            (fun w' hw => by rw [hv]; exact run_firstCells_none _ _ _ _ _) hr hfit
          refine ⟨v, β', w', ?_, h1, h2, h3⟩
          rw [hxv] at hrun ⊢
          rw [hv] at hrun ⊢
          rw [app_slice hu hu' hi]
          exact hrun
      · cases hr
    · cases hr
  · cases hr
theorem aps_ok (hT : TV n β tm a) (hH : HV β hp w) {e b t u ty : Nat} {x y : A} {x' y' : Operand} {d : D} {f : Ef} {nid : Pos} {hp' : Tr Ob}
    (hu : P.underlying t = some (.slice e)) (hu' : P.underlying u = some .string) (hz : zsz P e 1 = true) (hb : byB P e b = true) (hx : fitA x x' = true) (hy : fitA y y' = true)
    (hr : rd P nid (.aps e b x y) tm hp = some (d, f)) (hfit : fit nid f hp = some hp') :
    ∃ v β' w', (Builtin.append_ #[t, u] ty #[a.eval x', a.eval y']).run P w = .ok v w' ∧ DV β' d v ∧ HV β' hp' w' ∧ Mv β w β' w' := by
  obtain ⟨i, z, hi, hiz, hzs, hik, hbp⟩ := zsz_ok hz
  obtain ⟨i', hi', hib⟩ := byB_ok hb
  rw [hi] at hi'; cases hi'
  simp only [rd] at hr
  split at hr
  · rename_i cx l hcx hcy
    have vx := cel_ok hT hx hcx
    obtain ⟨hv, h256⟩ : CV β (.str l) (a.eval y') := cel_ok hT hy hcy
    rw [len_eq, maps_eq] at hr
    have hal : Al (CK β) (l.map fun n => C.int .u8 (.ofNat n)) (l.map fun (q : Nat) => Value.int .u8 (q : Int)) := by
      refine Al.of (by simp) (fun i x y hx hy => ?_)
      rw [List.getElem?_map] at hx hy
      cases hb : l[i]? with
      | none => rw [hb] at hx; cases hx
      | some q => rw [hb] at hx hy; cases hx; cases hy; exact ⟨rfl, by intro h; cases h⟩
    obtain ⟨sl, sLen, sCap, v, β', w', hxv, hrun, h1, h2, h3⟩ := grow_ok (P := P) (zeros := false) (yv := a.eval y') (app := Builtin.firstCells i.size (strB l).size (.string (strB l))) hH vx hi hiz hzs hik hbp hib (by omega) (by simp) hal
      (fun w' hw => by
        simp only [Builtin.firstCells, Sem.run_pure]
        congr 1
        apply Array.ext'
        have hex : (strB l).extract 0 (strB l).size = strB l := by
          show (ByteArray.mk (l.map UInt8.ofNat).toArray).extract 0 _ = ByteArray.mk _
          rw [ByteArray.extract_mk, strB_size, List.drop_zero, Nat.sub_zero, List.take_of_length_le (by simp)]
        rw [hex, Array.toList_map]
        show (l.map UInt8.ofNat).map _ = _
        rw [List.map_map]
        apply List.map_congr_left
        intro q hq
        have := h256 q hq
        simp only [Function.comp, UInt8.toNat_ofNat']
        rw [Nat.mod_eq_of_lt (by omega)]) hr hfit
    refine ⟨v, β', w', ?_, h1, h2, h3⟩
    rw [hxv] at hrun ⊢
    rw [hv] at hrun ⊢
    rw [app_string hu hu' hi]
    rw [strB_size] at hrun ⊢
    exact hrun
  · cases hr
theorem apz_ok (hT : TV n β tm a) (hH : HV β hp w) {e k b t u ty : Nat} {zs : List C} {x y : A} {x' y' : Operand} {d : D} {f : Ef} {nid : Pos} {hp' : Tr Ob}
    (hu : P.underlying t = some (.slice e)) (hu' : ∃ k', P.underlying u = some (.int k')) (hz : zsz P e k = true) (hb : byB P e b = true) (hk : 0 < k) (hzz : zerB P e zs = true) (hx : fitA x x' = true) (hy : fitA y y' = true)
    (hr : rd P nid (.apz e k b zs x y) tm hp = some (d, f)) (hfit : fit nid f hp = some hp') :
    ∃ v β' w', (Builtin.append_ #[t, u] ty #[a.eval x', a.eval y']).run P w = .ok v w' ∧ DV β' d v ∧ HV β' hp' w' ∧ Mv β w β' w' := by
  obtain ⟨k', hu'⟩ := hu'
  obtain ⟨i, z, hi, hiz, hzs, hik, hbp⟩ := zsz_ok hz
  obtain ⟨i', hi', hib⟩ := byB_ok hb
  rw [hi] at hi'; cases hi'
  obtain ⟨i', z', hi', hiz', halz⟩ := zerB_ok hzz
  rw [hi] at hi'; cases hi'
  rw [hiz] at hiz'; cases hiz'
  simp only [rd] at hr
  split at hr
  · rename_i cx kk m hcx hcy
    have vx := cel_ok hT hx hcx
    have hv : a.eval y' = .int kk (m : Int) := cel_ok hT hy hcy
    rw [brec'] at hr
    split at hr
    · rename_i hm
      rw [ble_iff] at hm
      have hal := rep_al (halz β) m
      rw [hzs] at hal
      obtain ⟨sl, sLen, sCap, v, β', w', hxv, hrun, h1, h2, h3⟩ := grow_ok (P := P) (zeros := true) (yv := a.eval y') (app := (if m * i.size = 0 then pure #[] else do pure (Builtin.zeroCells (← zeroValue e).cells m)))
        (news := ((Array.range (m * k)).map (z.cells[· % k]!)).toList) hH vx hi hiz hzs hik hbp hib hk (by rw [rep_length, Al.len (halz β), Array.length_toList, hzs]) hal
        (fun w' hw => by
          rw [hik]
          split
          · rename_i h0
            rw [h0]
            simp
          · simp only [Sem.run_bind, run_zero hi hiz, Result.andThen_ok, Sem.run_pure, Builtin.zeroCells, hzs, Array.toArray_toList]) hr hfit
      refine ⟨v, β', w', ?_, h1, h2, h3⟩
      have hmb : m * i.bytes ≤ 70368744177664 := by rw [hib]; exact hm
      have hm : m ≤ 70368744177664 := Nat.le_trans (Nat.le_mul_of_pos_right _ hbp) hmb
      rw [hxv] at hrun ⊢
      rw [hv] at hrun ⊢
      rw [app_zeros hu hu' hi hm hmb]
      exact hrun
    · cases hr
  · cases hr
theorem Does.of_pure {s : Sem Value} {d : D} (hH : HV β hp w) (h : ∃ v, s.run P w = .ok v w ∧ DV β d v) : Does P (s >>= fun v => Pure.pure (Next.value v)) w β d hp := by
  obtain ⟨v, h, hd⟩ := h
  exact Does.pure hH (run_v s h) hd
theorem Does.of_new {s : Sem Value} {d : D} {hp' : Tr Ob} (h : ∃ v β' w', s.run P w = .ok v w' ∧ DV β' d v ∧ HV β' hp' w' ∧ Mv β w β' w') : Does P (s >>= fun v => Pure.pure (Next.value v)) w β d hp' := by
  obtain ⟨v, β', w', h, h1, h2, h3⟩ := h
  exact ⟨v, β', w', .inl (run_v s h), h1, h2, h3⟩
theorem fit_no {nid : Pos} {hp' : Tr Ob} (h : fit nid .no hp = some hp') : hp' = hp := (Option.some.inj h).symm
theorem builtin_run {ρ : Operand → Value} {dst : Option Tmp} {b : Builtin} {as : Array Operand} {ts : Array TypeId} {ty : TypeId} {pos : String} {after : Array Edge} {g : Option (Nat × Bool)} :
    (execOp ρ { dst := dst, op := .call { callee := .builtin b, args := as, argTypes := ts }, type := ty, pos := pos, after := after, guard := g }).run P w =
      (builtin b ts ty (as.map fun | .const _ => true | _ => false) (as.map ρ)).run P w := rfl
theorem two {α : Type} {l : Array α} {x y : α} (h : l.toList = [x, y]) : l = #[x, y] := by rw [← Array.toArray_toList (xs := l), h]
theorem one1 {α : Type} {l : Array α} {x : α} (h : l.toList = [x]) : l = #[x] := by rw [← Array.toArray_toList (xs := l), h]
theorem map1 (g : Operand → Value) (y : Operand) : (#[y] : Array Operand).map g = #[g y] := by simp
theorem map2 (g : Operand → Value) (x y : Operand) : (#[x, y] : Array Operand).map g = #[g x, g y] := by simp
theorem fitsB_ok (hT : TV n β tm a) (hH : HV β hp w) {i : I} {b : Builtin} {ts : Array TypeId} {as : Array Operand} {ty : TypeId} {cs : Array Bool} {d : D} {f : Ef} {nid : Pos} {hp' : Tr Ob}
    (hs : fitsB P i b ts as = true) (hr : rd P nid i tm hp = some (d, f)) (hfit : fit nid f hp = some hp') : Does P (builtin b ts ty cs (as.map a.eval)) w β d hp' := by
  unfold fitsB at hs
  split at hs
  · rename_i s x t y hts has
    simp only [Bool.and_eq_true] at hs
    have := one1 hts; subst this
    have := one1 has; subst this
    rw [map1]
    obtain ⟨rfl, h⟩ := len_ok (P := P) (w := w) (ty := ty) hT hs.1 hs.2 hr
    rw [fit_no hfit]
    exact Does.of_pure hH h
  · rename_i e k b' x y t u x' y' hts has
    simp only [Bool.and_eq_true, blt_iff] at hs
    have := two hts; subst this
    have := two has; subst this
    rw [map2]
    exact Does.of_new (ap_ok hT hH (elB_ok hs.1) (sliceT_ok hs.2.1) hs.2.2.1 hs.2.2.2.1 hs.2.2.2.2.1 hs.2.2.2.2.2.1 hs.2.2.2.2.2.2 hr hfit)
  · rename_i e b' x y t u x' y' hts has
    simp only [Bool.and_eq_true, blt_iff] at hs
    have := two hts; subst this
    have := two has; subst this
    rw [map2]
    exact Does.of_new (aps_ok hT hH (elB_ok hs.1) (strT_ok hs.2.1) hs.2.2.1 hs.2.2.2.1 hs.2.2.2.2.1 hs.2.2.2.2.2 hr hfit)
  · rename_i e k b' zs x y t u x' y' hts has
    simp only [Bool.and_eq_true, blt_iff] at hs
    have := two hts; subst this
    have := two has; subst this
    rw [map2]
    exact Does.of_new (apz_ok hT hH (elB_ok hs.1) (intT_ok hs.2.1) hs.2.2.1 hs.2.2.2.1 hs.2.2.2.2.1 hs.2.2.2.2.2.1 hs.2.2.2.2.2.2.1 hs.2.2.2.2.2.2.2 hr hfit)
  · rename_i x y x' y' has
    simp only [Bool.and_eq_true] at hs
    have := two has; subst this
    rw [map2]
    simp only [rd] at hr
    split at hr
    · rename_i k p j q hx hy
      have vx : a.eval x' = .int k p := cel_ok hT hs.1 hx
      have vy : a.eval y' = .int j q := cel_ok hT hs.2 hy
      cases hr
      rw [fit_no hfit]
      refine Does.of_pure (s := Builtin.min_ ts ty #[a.eval x', a.eval y']) hH ⟨_, ?_, rfl⟩
      rw [vx, vy, run_min_int2, ilt_eq]
      congr 2
      by_cases h : q < p <;> simp [h]
    · cases hr
  · rename_i x y x' y' has
    simp only [Bool.and_eq_true] at hs
    have := two has; subst this
    rw [map2]
    simp only [rd] at hr
    split at hr
    · rename_i k p j q hx hy
      have vx : a.eval x' = .int k p := cel_ok hT hs.1 hx
      have vy : a.eval y' = .int j q := cel_ok hT hs.2 hy
      cases hr
      rw [fit_no hfit]
      refine Does.of_pure (s := Builtin.max_ ts ty #[a.eval x', a.eval y']) hH ⟨_, ?_, rfl⟩
      rw [vx, vy, run_max_int2, ilt_eq]
      congr 2
      by_cases h : p < q <;> simp [h]
    · cases hr
  · cases hs
theorem rd_ok (hT : TV n β tm a) (hH : HV β hp w) {i : I} {o : Oper} {d : D} {f : Ef} {nid : Pos} {hp' : Tr Ob}
    (hs : fitsI P i o.op = true) (hr : rd P nid i tm hp = some (d, f)) (hfit : fit nid f hp = some hp') : Does P (execOp a.eval o) w β d hp' := by
  obtain ⟨dst, op, type, pos, after, gd⟩ := o
  unfold fitsI at hs
  simp only [] at hs
  split at hs
  · rename_i x y
    simp only [rd] at hr
    split at hr
    · rename_i d' h; cases hr; rw [fit_no hfit]; exact Does.pure (v := a.eval y) hH rfl (val_ok hT hs h)
    · cases hr
  · rename_i x y
    simp only [rd] at hr
    split at hr
    · rename_i d' h; cases hr; rw [fit_no hfit]; exact Does.pure (v := a.eval y) hH rfl (val_ok hT hs h)
    · cases hr
  · rename_i c x y c' x' y'
    simp only [Bool.and_eq_true] at hs
    simp only [rd] at hr
    split at hr
    · rename_i t hc
      have vc : a.eval c' = .bool t := cel_ok hT hs.1 hc
      split at hr
      · rename_i d' h
        cases hr
        rw [fit_no hfit]
        refine Does.pure (v := if t then a.eval x' else a.eval y') hH ?_ ?_
        · simp only [execOp, vc, asBool, Sem.run_bind, Sem.run_pure, Result.andThen_ok]
        · cases t with
          | true => exact val_ok hT hs.2.1 h
          | false => exact val_ok hT hs.2.2 h
      · cases hr
    · cases hr
  · simp only [Bool.and_eq_true, beq_iff] at hs
    exact Does.of_new (alloc_ok hH hs.1 hs.2 hr hfit)
  · simp only [Bool.and_eq_true, beq_iff] at hs
    exact Does.of_new (box_ok hT hH hs.1 hs.2 hr hfit)
  · obtain ⟨rfl, h⟩ := bld_ok (P := P) (w := w) hT hs hr
    rw [fit_no hfit]
    exact Does.of_pure hH h
  · simp only [Bool.and_eq_true, beq_iff, blt_iff, ble_iff] at hs
    obtain ⟨rfl, h1, h2, h3, h4, h5, h6⟩ := hs
    exact Does.of_new (bsl_ok hT hH (elB_ok h1) h2 h3 h4 h5 h6 hr hfit)
  · simp only [Bool.and_eq_true] at hs
    obtain ⟨rfl, h⟩ := ld_ok hT hH hs.1 hs.2.1 hs.2.2 hr
    rw [fit_no hfit]
    exact Does.of_pure hH h
  · simp only [Bool.and_eq_true, blt_iff] at hs
    obtain ⟨rfl, w', h, h1, h2⟩ := st_ok hT hH hs.1 hs.2.1 hs.2.2.1 hs.2.2.2 hr hfit
    refine ⟨undef, β, w', .inr ⟨?_, rfl⟩, rfl, h1, h2⟩
    simp only [execOp, Sem.run_bind, h, Result.andThen_ok, Sem.run_pure]
  · rename_i x y
    simp only [rd] at hr
    split at hr
    · rename_i id off hc
      obtain ⟨b, sz, hb, hv⟩ : CV β (.loc id off) (a.eval y) := cel_ok hT hs hc
      cases hr
      rw [fit_no hfit]
      refine Does.pure (v := a.eval y) hH ?_ ⟨b, sz, hb, hv⟩
      simp only [execOp, hv, Sem.run_pure]
    · cases hr
  · simp only [Bool.and_eq_true] at hs
    obtain ⟨rfl, h⟩ := fa_ok (P := P) (w := w) hT hs.1 hs.2 hr
    rw [fit_no hfit]
    exact Does.of_pure hH h
  · simp only [Bool.and_eq_true] at hs
    obtain ⟨rfl, h⟩ := fd_ok (P := P) (w := w) hT hs.1 hs.2 hr
    rw [fit_no hfit]
    exact Does.of_pure hH h
  · simp only [Bool.and_eq_true] at hs
    obtain ⟨rfl, h⟩ := ias_ok (P := P) (w := w) hT hs.1 hs.2.1 hs.2.2 hr
    rw [fit_no hfit]
    exact Does.of_pure hH h
  · simp only [Bool.and_eq_true] at hs
    obtain ⟨rfl, h⟩ := iaa_ok (P := P) (w := w) hT hs.1 hs.2.1 hs.2.2 hr
    rw [fit_no hfit]
    exact Does.of_pure hH h
  · simp only [Bool.and_eq_true] at hs
    obtain ⟨rfl, h⟩ := ixs_ok (P := P) (w := w) hT hs.1 hs.2.1 hs.2.2 hr
    rw [fit_no hfit]
    exact Does.of_pure hH h
  · rename_i e k m zs t l c
    simp only [Bool.and_eq_true, blt_iff, ble_iff] at hs
    obtain ⟨h1, h2, h3, h4, h5, h6, h7, h8⟩ := hs
    have nb : ∀ {x : Operand}, nB m x = true → a.eval x = .int .i64 (m : Int) := by
      intro x hx
      unfold nB at hx
      split at hx
      · have := Nat.eq_of_beq_eq_true hx; subst this; rfl
      · cases hx
    have := mk_ok (P := P) hH (elB_ok h1) h2 h3 h4 h7 h8 hr hfit
    rw [← nb h5] at this
    refine Does.of_new ?_
    rw [nb h5] at this ⊢
    rw [nb h6]
    exact this
  · simp only [Bool.and_eq_true] at hs
    obtain ⟨rfl, h⟩ := sl_ok (P := P) (w := w) hT hs.1 hs.2.1 hs.2.2.1 hs.2.2.2 hr
    rw [fit_no hfit]
    exact Does.of_pure hH h
  · simp only [Bool.and_eq_true] at hs
    obtain ⟨rfl, h⟩ := sls_ok (P := P) (w := w) hT hs.1 hs.2.1 hs.2.2.1 hs.2.2.2 hr
    rw [fit_no hfit]
    exact Does.of_pure hH h
  · simp only [Bool.and_eq_true, beq_iff] at hs
    obtain ⟨rfl, hs⟩ := hs
    obtain ⟨rfl, h⟩ := ex_ok (P := P) (w := w) hT hs hr
    rw [fit_no hfit]
    exact Does.of_pure hH h
  · simp only [Bool.and_eq_true] at hs
    exact Does.of_new (s2b_ok hT hH (elB_ok hs.1) (intB_ok hs.2.1) (strT_ok hs.2.2.1) hs.2.2.2 hr hfit)
  · simp only [Bool.and_eq_true] at hs
    obtain ⟨rfl, h⟩ := b2s_ok (P := P) (w := w) hT hH hs.1 hs.2.1 hs.2.2 hr
    rw [fit_no hfit]
    exact Does.of_pure hH h
  · rename_i op t x y op' t' x' y' yt
    simp only [Bool.and_eq_true, decide_eq_true_eq, beq_iff] at hs
    obtain ⟨rfl, rfl, h1, h2⟩ := hs
    obtain ⟨rfl, v, m, hrun, hd⟩ := bin_ok (P := P) (w := w) hT hH h1 h2 hr
    rw [fit_no hfit]
    refine ⟨v, β, _, .inl (run_v _ hrun), hd, hH.drew m, Mv.drew m⟩
  · rename_i x y op' t' x' y' yt
    simp only [Bool.and_eq_true] at hs
    obtain ⟨hop, h1, h2⟩ := hs
    split at hop
    case h_2 => cases hop
    simp only [rd] at hr
    split at hr
    · rename_i p q hx hy
      have vx : a.eval x' = .bool p := cel_ok hT h1 hx
      have vy : a.eval y' = .bool q := cel_ok hT h2 hy
      cases hr
      rw [fit_no hfit]
      refine Does.of_pure (s := (do eqGuard .eql t' x' y' (a.eval x') (a.eval y'); binOp .eql t' (a.eval x') (a.eval y') : Sem Value)) hH ⟨.bool (p == q), ?_, ?_⟩
      · simp only [Sem.run_bind, eqGuard_plain (β := β) (c := .bool p) w (show CV β (.bool p) (a.eval x') from vx) (.inr trivial), Result.andThen_ok]
        rw [vx, vy]
        exact run_eql_bool w t' p q (boolT_ok hop)
      · cases p <;> cases q <;> rfl
    · cases hr
  · rename_i x op t y
    simp only [Bool.and_eq_true] at hs
    obtain ⟨hop, h1⟩ := hs
    split at hop
    case h_2 => cases hop
    simp only [rd] at hr
    split at hr
    · rename_i p hx
      have vx : a.eval y = .bool p := cel_ok hT h1 hx
      cases hr
      rw [fit_no hfit]
      refine Does.of_pure (s := Op.unary .not (a.eval y)) hH ⟨.bool (!p), by rw [vx]; rfl, ?_⟩
      cases p <;> rfl
    · cases hr
  · rename_i x op t y
    simp only [Bool.and_eq_true] at hs
    obtain ⟨hop, h1⟩ := hs
    split at hop
    case h_2 => cases hop
    simp only [rd] at hr
    split at hr
    · rename_i k m hx
      have vx : a.eval y = .int k m := cel_ok hT h1 hx
      cases hr
      rw [fit_no hfit]
      exact Does.of_pure (s := Op.unary .xor (a.eval y)) hH ⟨_, by rw [vx]; rfl, rfl⟩
    · cases hr
  · rename_i k x src dst y
    simp only [Bool.and_eq_true] at hs
    simp only [rd] at hr
    split at hr
    · rename_i k' m hx
      have vx : a.eval y = .int k' m := cel_ok hT hs.2.1 hx
      cases hr
      rw [fit_no hfit]
      refine Does.of_pure (s := convert src dst (a.eval y)) hH ⟨.int k (k.wrap m), ?_, by rw [wrapC_eq]; rfl⟩
      obtain ⟨ds, hds⟩ := Option.isSome_iff_exists.1 hs.2.2
      have hd := intB_ok hs.1
      rw [vx]
      cases ds <;> simp [convert, run_underlying hds, run_underlying hd, Conv.intToInt]
    · cases hr
  · rename_i x src dst y
    simp only [Bool.and_eq_true] at hs
    simp only [rd] at hr
    split at hr
    · rename_i k' m hx
      have vx : a.eval y = .int k' m := cel_ok hT hs.2.1 hx
      cases hr
      rw [fit_no hfit]
      refine Does.of_pure (s := convert src dst (a.eval y)) hH ⟨.float .f64 (FloatKind.nearest .f64 m), ?_, rfl⟩
      obtain ⟨ds, hds⟩ := Option.isSome_iff_exists.1 hs.2.2
      have hd := fltT_ok hs.1
      rw [vx]
      cases ds <;> simp [convert, run_underlying hds, run_underlying hd, Conv.intToFloat]
    · cases hr
  · exact fitsB_ok hT hH hs hr hfit
  · cases hs
end
end Go.Proofs.YtiahijhpjloijaaGreat.V
