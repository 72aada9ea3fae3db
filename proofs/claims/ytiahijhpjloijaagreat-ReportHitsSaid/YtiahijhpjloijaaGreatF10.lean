/- Operations that make an object. -/
import Derived.Test.YtiahijhpjloijaaGreatF9
import Derived.Great.BuildSlice
import Derived.Laws.MakeOwn
set_option linter.unusedVariables false
set_option linter.unusedSimpArgs false
namespace Go.Proofs.YtiahijhpjloijaaGreat.V
open Go Go.RowKit
theorem rep_get {α : Type} (l : List α) : ∀ (n i : Nat), i < n * l.length → (rep n l)[i]? = l[i % l.length]?
  | 0, i, h => by omega
  | n + 1, i, h => by
    rw [rep_succ]
    by_cases hi : i < l.length
    · rw [List.getElem?_append_left hi, Nat.mod_eq_of_lt hi]
    · have h1 : (n + 1) * l.length = n * l.length + l.length := Nat.succ_mul _ _
      rw [List.getElem?_append_right (by omega), rep_get l n (i - l.length) (by omega), ← Nat.mod_eq_sub_mod (by omega)]
theorem rep_length {α : Type} (l : List α) : ∀ (n : Nat), (rep n l).length = n * l.length
  | 0 => by rw [rep_zero]; simp
  | n + 1 => by rw [rep_succ, List.length_append, rep_length l n, Nat.succ_mul, Nat.add_comm]
theorem rep_al {β : Blk} {zs : List C} {z : Array Value} (h : Al (CK β) zs z.toList) (n : Nat) : Al (CK β) (rep n zs) ((Array.range (n * z.size)).map (z[· % z.size]!)).toList := by
  have hl := Al.len h
  simp only [Array.length_toList] at hl
  refine Al.of (by rw [rep_length]; simp [hl]) (fun i x y hx hy => ?_)
  have hi : i < n * zs.length := by have := (List.getElem?_eq_some_iff.1 hx).1; rwa [rep_length] at this
  rw [rep_get zs n i hi] at hx
  obtain ⟨v, hv, hc⟩ := Al.get h hx
  rw [hl] at hv
  have hz : 0 < z.size := by
    rcases Nat.eq_zero_or_pos z.size with h0 | h0
    · rw [hl, h0] at hi; omega
    · exact h0
  have hm : i % z.size < z.size := Nat.mod_lt _ hz
  simp only [Array.toList_map, Array.toList_range, List.getElem?_map, List.getElem?_range (show i < n * z.size by rw [← hl]; exact hi), Option.map_some, Option.some.injEq] at hy
  rw [getElem!_pos z _ hm] at hy
  rw [Array.getElem?_toList, Array.getElem?_eq_getElem hm] at hv
  cases hv
  rw [← hy]
  exact hc
theorem free0 (n : Nat) : free (0, 0) n := fun off _ h => by have := h.2; simp at this
theorem al_get {β : Blk} {l : List C} {c : Array Value} (h : Al (CK β) l c.toList) : ∀ (i : Nat) (x : C), l[i]? = some x → ∃ v : Value, c[i]? = some v ∧ CK β x v := by
  intro i x hx
  obtain ⟨v, hv, hc⟩ := Al.get h hx
  rw [Array.getElem?_toList] at hv
  exact ⟨v, hv, hc⟩
section
variable {P : Program} {n : Nat} {β : Blk} {tm : Tr D} {a : Act} {hp : Tr Ob} {w : World}
theorem fit_new {nid : Pos} {o : Ob} {hp' : Tr Ob} (h : fit nid (.new o) hp = some hp') : Tr.get nid hp = none ∧ hp' = Tr.set nid o hp := by
  unfold fit at h
  simp only [] at h
  split at h
  · cases h; exact ⟨by assumption, rfl⟩
  · cases h
theorem fit_mv {nid id : Pos} {o : Ob} {hp' : Tr Ob} (h : fit nid (.mv id o) hp = some hp') : Tr.get nid hp = none ∧ hp' = Tr.set nid o (Tr.set id .dead hp) := by
  unfold fit at h
  simp only [] at h
  split at h
  · cases h; exact ⟨by assumption, rfl⟩
  · cases h
/-- a new block with these cells -/
theorem HV.laid (hH : HV β hp w) {nid : Pos} {e : Nat} {l : List C} {c : Array Value} (hn : Tr.get nid hp = none) (hal : Al (CK β) l c.toList) :
    HV (β.add nid (w.heap.size, c.size)) (Tr.set nid (.ob e l) hp) (w.alloc (.cells c e)) ∧ Mv β w (β.add nid (w.heap.size, c.size)) (w.alloc (.cells c e)) := by
  have hlen := Al.len hal
  simp only [Array.length_toList] at hlen
  exact hH.new (fz := (0, 0)) hn (by omega) (al_get hal) (free0 _) (by simp) (fun k hk => Below.heap_alloc w _ k hk) (heap_alloc_new w _) rfl rfl rfl
theorem alloc_ok (hH : HV β hp w) {e t : Nat} {zs : List C} {d : D} {f : Ef} {nid : Pos} {hp' : Tr Ob} (he : e = t) (hz : zerB P t zs = true)
    (hr : rd P nid (.alloc e zs) tm hp = some (d, f)) (hfit : fit nid f hp = some hp') :
    ∃ v β' w', (Instr.alloc t true (.tuple #[])).run P w = .ok v w' ∧ DV β' d v ∧ HV β' hp' w' ∧ Mv β w β' w' := by
  simp only [rd] at hr
  cases hr
  obtain ⟨hn, rfl⟩ := fit_new hfit
  obtain ⟨i, z, hi, hiz, hal⟩ := zerB_ok hz
  subst he
  obtain ⟨h1, h2⟩ := hH.laid (e := e) hn (hal β)
  refine ⟨_, _, _, ?_, ⟨w.heap.size, z.cells.size, Blk.add_self _ _ _, rfl⟩, h1, h2⟩
  simp only [Instr.alloc, Sem.run_bind, run_zero hi hiz, Result.andThen_ok, newVar, newRow, run_newObj, Sem.run_pure]
  rfl
theorem box_ok (hT : TV n β tm a) (hH : HV β hp w) {e k t : Nat} {x : A} {y : Operand} {d : D} {f : Ef} {nid : Pos} {hp' : Tr Ob} (he : e = t) (hf : fitA x y = true)
    (hr : rd P nid (.box e k x) tm hp = some (d, f)) (hfit : fit nid f hp = some hp') :
    ∃ v β' w', (Instr.box t (a.eval y)).run P w = .ok v w' ∧ DV β' d v ∧ HV β' hp' w' ∧ Mv β w β' w' := by
  simp only [rd] at hr
  split at hr
  · rename_i l hl
    have hal := cells_ok hT hf hl
    rw [brec'] at hr
    split at hr
    · cases hr
      obtain ⟨hn, rfl⟩ := fit_new hfit
      subst he
      obtain ⟨h1, h2⟩ := hH.laid (e := e) hn hal
      refine ⟨_, _, _, ?_, ⟨w.heap.size, (a.eval y).cells.size, Blk.add_self _ _ _, rfl⟩, h1, h2⟩
      simp only [Instr.box, Sem.run_bind, Result.andThen_ok, newVar, newRow, run_newObj, Sem.run_pure]
      rfl
    · cases hr
  · cases hr
theorem parts_map (ρ : Operand → Value) (qs : Array (Nat × Operand)) : (qs.map fun (i, x) => (i, ρ x)).toList = qs.toList.map fun q => (q.1, ρ q.2) := by
  rw [Array.toList_map]
theorem bld_ok (hT : TV n β tm a) {zs : List C} {ps : List (Nat × Nat × A)} {t : Nat} {qs : Array (Nat × Operand)} {d : D} {f : Ef} {nid : Pos}
    (hs : bldB P t zs ps qs.toList = true) (hr : rd P nid (.bld zs ps) tm hp = some (d, f)) :
    f = .no ∧ ∃ v, (Instr.build t (qs.map fun (i, x) => (i, a.eval x))).run P w = .ok v w ∧ DV β d v := by
  simp only [rd] at hr
  split at hr
  · rename_i l hl
    cases hr
    refine ⟨rfl, ?_⟩
    unfold bldB at hs
    split at hs
    · rename_i it len e hit hu
      split at hs
      · rename_i z ie hz hie
        simp only [Bool.and_eq_true] at hs
        obtain ⟨lv, hfl, hal⟩ := fill_ok (zv := z.cells) hT hl hs.2 (fitL_ok hs.1)
        refine ⟨.agg lv, run_build w t _ lv ?_, lv, rfl, hal⟩
        unfold Program.built
        simp only [hit, hu, hz, hie, parts_map]
        exact hfl
      · cases hs
    · rename_i it fields hit hu
      split at hs
      · rename_i z places hz hpl
        simp only [Bool.and_eq_true] at hs
        obtain ⟨lv, hfl, hal⟩ := fill_ok (zv := z.cells) hT hl hs.2 (fitL_ok hs.1)
        refine ⟨.agg lv, run_build w t _ lv ?_, lv, rfl, hal⟩
        unfold Program.built
        simp only [hit, hu, hz, hpl, parts_map]
        exact hfl
      · cases hs
    · cases hs
  · cases hr
theorem own_new (hH : HV β hp w) {nid : Pos} {e k m : Nat} {l : List C} {c : Array Value} (hn : Tr.get nid hp = none) (hal : Al (CK β) l c.toList) (hk : 0 < k) (hm : m * k ≤ c.size) :
    ∃ β', DV β' (.one (.own nid k m)) (.slice (some ⟨w.heap.size, 0, none⟩) m m) ∧ HV β' (Tr.set nid (.ob e l) hp) (w.alloc (.cells c e)) ∧ Mv β w β' (w.alloc (.cells c e)) := by
  obtain ⟨h1, h2⟩ := hH.laid (e := e) hn hal
  exact ⟨_, ⟨w.heap.size, c.size, m, Blk.add_self _ _ _, rfl, Nat.le_refl _, hm, hk⟩, h1, h2⟩
theorem fill_size {place : Nat → Option (Nat × Nat)} : ∀ {qs : List (Nat × Value)} {c l : Array Value}, Instr.fill place c qs = some l → l.size = c.size
  | [], c, l, h => by cases h; rfl
  | (i, v) :: qs, c, l, h => by
    simp only [Instr.fill] at h
    split at h
    · cases h
    · rename_i off size hp
      split at h
      · cases h
      · rename_i hno
        have := fill_size h
        rw [this, ← Array.foldl_toList, Array.toList_zipIdx]
        have hno' : off + v.cells.toList.length ≤ c.size := by simp at hno ⊢; omega
        exact (put_get v.cells.toList off 0 c (by omega)).1
theorem bsl_ok (hT : TV n β tm a) (hH : HV β hp w) {e k m t : Nat} {zs : List C} {ps : List (Nat × Nat × A)} {qs : Array (Nat × Operand)} {d : D} {f : Ef} {nid : Pos} {hp' : Tr Ob}
    (hu : P.underlying t = some (.slice e)) (hzz : zsz P e k = true) (hk : 0 < k) (hroom : m * k ≤ 16777216) (hz : zerB P e zs = true) (hps : partsB (fun i => some (i * k, k)) ps qs.toList = true)
    (hr : rd P nid (.bsl e k m zs ps) tm hp = some (d, f)) (hfit : fit nid f hp = some hp') :
    ∃ v β' w', (Instr.buildSlice t m (qs.map fun (i, x) => (i, a.eval x))).run P w = .ok v w' ∧ DV β' d v ∧ HV β' hp' w' ∧ Mv β w β' w' := by
  simp only [rd] at hr
  split at hr
  · rename_i l hl
    cases hr
    obtain ⟨hn, rfl⟩ := fit_new hfit
    obtain ⟨i, z, hi, hiz, hzs, hik, _⟩ := zsz_ok hzz
    obtain ⟨i', z', hi', hiz', hal⟩ := zerB_ok hz
    rw [hi] at hi'; cases hi'
    rw [hiz] at hiz'; cases hiz'
    have hal0 := rep_al (hal β) m
    obtain ⟨lv, hfl, halv⟩ := fill_ok hT hl hps hal0
    have hsz := fill_size hfl
    simp only [Array.size_map, Array.size_range, hzs] at hsz
    obtain ⟨β', hd, h1, h2⟩ := own_new (e := e) hH hn halv hk (m := m) (by omega)
    refine ⟨_, β', _, ?_, hd, h1, h2⟩
    rw [hzs] at hfl
    by_cases h0 : m * k = 0
    · have hr0 : (Array.range (m * k)).map (fun j => z.cells[j % k]!) = #[] := by rw [h0]; simp
      have hno : ¬ (m * i.size > 2 ^ 24) := by rw [hik, h0]; decide
      have hfl' := hfl
      rw [hr0] at hfl'
      simp only [Instr.buildSlice, Sem.run_bind, run_underlying hu, Result.andThen_ok, run_size hi, if_neg hno]
      rw [hik, h0]
      simp only [if_true, Sem.run_bind, Sem.run_pure, Result.andThen_ok, parts_map]
      have hr1 : (Array.range 0).map (fun j => (#[] : Array Value)[j % (#[] : Array Value).size]!) = #[] := by simp
      rw [hr1, hfl']
      simp only [newRow, Sem.run_bind, run_newObj, Result.andThen_ok, Sem.run_pure]
      rfl
    · exact run_buildSlice w t e m _ lv i z hu hi hiz (by rw [hik, show (2 : Nat) ^ 24 = 16777216 from rfl]; omega) (by rw [hik]; exact h0) (by rw [hik, hzs, parts_map]; exact hfl)
  · cases hr
theorem mk_ok (hH : HV β hp w) {e k m t : Nat} {zs : List C} {d : D} {f : Ef} {nid : Pos} {hp' : Tr Ob}
    (hu : P.underlying t = some (.slice e)) (hzz : zsz P e k = true) (hk : 0 < k) (hz : zerB P e zs = true) (hm : m ≤ 65536)
    (hby : (match P.info? e with | some i => Nat.ble i.bytes 65536 | none => false) = true)
    (hr : rd P nid (.mk e k m zs) tm hp = some (d, f)) (hfit : fit nid f hp = some hp') :
    ∃ v β' w', (Instr.makeSlice t (.int .i64 (m : Int)) (.int .i64 (m : Int))).run P w = .ok v w' ∧ DV β' d v ∧ HV β' hp' w' ∧ Mv β w β' w' := by
  simp only [rd] at hr
  cases hr
  obtain ⟨hn, rfl⟩ := fit_new hfit
  obtain ⟨i, z, hi, hiz, hzs, hik, _⟩ := zsz_ok hzz
  obtain ⟨i', z', hi', hiz', hal⟩ := zerB_ok hz
  rw [hi] at hi'; cases hi'
  rw [hiz] at hiz'; cases hiz'
  simp only [hi] at hby
  have hby := Nat.le_of_ble_eq_true hby
  have hal0 := rep_al (hal β) m
  obtain ⟨β', hd, h1, h2⟩ := own_new (e := e) hH hn hal0 hk (m := m) (by simp [hzs])
  have hbytes : (i.bytes : Int) * (m : Int) ≤ 281474976710656 := by
    have h1 : i.bytes * m ≤ 4294967296 := Nat.le_trans (Nat.mul_le_mul hby hm) (by decide)
    have h2 : ((i.bytes * m : Nat) : Int) ≤ 4294967296 := Int.ofNat_le.2 h1
    rw [Int.natCast_mul] at h2
    omega
  have := run_make (P := P) w t e i z hu hi hiz .i64 .i64 (m : Int) (m : Int) (by omega) (Int.le_refl _) hbytes (by omega)
  refine ⟨_, β', _, ?_, hd, h1, h2⟩
  rw [this]
  simp only [Int.toNat_natCast, madeCells, hik, hzs]
theorem s2b_ok (hT : TV n β tm a) (hH : HV β hp w) {e src dst : Nat} {x : A} {y : Operand} {d : D} {f : Ef} {nid : Pos} {hp' : Tr Ob}
    (hu : P.underlying dst = some (.slice e)) (he : P.underlying e = some (.int .u8)) (hs : P.underlying src = some .string) (hf : fitA x y = true)
    (hr : rd P nid (.s2b e x) tm hp = some (d, f)) (hfit : fit nid f hp = some hp') :
    ∃ v β' w', (convert src dst (a.eval y)).run P w = .ok v w' ∧ DV β' d v ∧ HV β' hp' w' ∧ Mv β w β' w' := by
  simp only [rd] at hr
  split at hr
  · rename_i l hc
    obtain ⟨hv, h256⟩ : CV β (.str l) (a.eval y) := cel_ok hT hf hc
    cases hr
    obtain ⟨hn, rfl⟩ := fit_new hfit
    rw [len_eq, maps_eq]
    have hrun := run_bytes_of_string (P := P) w src dst e (strB l) hs hu he
    generalize hcap : grownCap w (strB l).size 0 e = cap at hrun
    rw [strB_size] at hrun hcap
    have hge : l.length ≤ cap := by rw [← hcap]; show l.length ≤ l.length + _; omega
    generalize hrow : bytesRow (strB l) cap = row at hrun
    have hrowsz : row.size = cap := by
      rw [← hrow]
      simp only [bytesRow, Array.size_append, Array.size_map, Array.size_replicate]
      have : (strB l).data.size = l.length := strB_size l
      rw [this, strB_size]; omega
    have hcells : ∀ (i : Nat) (x : C), (l.map fun n => C.int .u8 (.ofNat n))[i]? = some x → ∃ v : Value, row[i]? = some v ∧ CK β x v := by
      intro i x hx
      rw [List.getElem?_map] at hx
      cases hb : l[i]? with
      | none => rw [hb] at hx; cases hx
      | some b =>
        rw [hb] at hx; cases hx
        have hb256 := h256 b (List.mem_of_getElem? hb)
        have hi : i < l.length := (List.getElem?_eq_some_iff.1 hb).1
        refine ⟨.int .u8 (b : Int), ?_, rfl, by intro h; cases h⟩
        rw [← hrow]
        have hsz : (strB l).data.size = l.length := strB_size l
        rw [bytesRow, Array.getElem?_append_left (by rw [Array.size_map, hsz]; exact hi), Array.getElem?_map]
        have : (strB l).data[i]? = some (UInt8.ofNat b) := by
          show ((l.map UInt8.ofNat).toArray)[i]? = _
          rw [List.getElem?_toArray, List.getElem?_map, hb]; rfl
        rw [this]
        simp only [Option.map_some, UInt8.toNat_ofNat']
        rw [Nat.mod_eq_of_lt (by omega)]
    have hnew := HV.new (w := w) (w' := w.drew.alloc (.cells row e (row.size, row.size + 1))) (e := e) (cs := l.map fun n => C.int .u8 (.ofNat n)) (c := row) (fz := (row.size, row.size + 1)) hH hn
      (by simp; omega) hcells (fun off ho h => by have := h.1; simp at this; omega) (by simp) (fun k hk => Below.heap_alloc w.drew _ k hk) (heap_alloc_new w.drew _) rfl rfl rfl
    obtain ⟨h1, h2⟩ := hnew
    refine ⟨_, _, _, by rw [hv]; exact hrun, ⟨w.heap.size, row.size, cap, Blk.add_self _ _ _, rfl, hge, by omega, by omega⟩, h1, h2⟩
  · cases hr
end
end Go.Proofs.YtiahijhpjloijaaGreat.V
