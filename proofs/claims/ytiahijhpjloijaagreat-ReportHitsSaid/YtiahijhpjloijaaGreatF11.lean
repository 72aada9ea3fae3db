/- append: onto a slice of one's own, onto the nil slice. -/
import Derived.Test.YtiahijhpjloijaaGreatF10
set_option linter.unusedVariables false
set_option linter.unusedSimpArgs false
namespace Go.Proofs.YtiahijhpjloijaaGreat.V
open Go Go.RowKit
open Go.Builtin in
/-- what append does once it knows how many come and how they are read -/
def core (elem : TypeId) (size n : Nat) (zeros : Bool) (base : Option Addr) (sLen sCap : Nat) (s x : Value) (appended : Sem (Array Value)) : Sem Value := do
  let need := sLen + n
  if need ≤ sCap then
    let new ← appended
    if let some a := base then storeCells (a.add (sLen * size)) new.toList
    pure (.slice base need sCap)
  else
    if (need : Int) > IntKind.i64.max ∧ (zeros ∨ (← typeInfo elem).bytes = 0) then runtimePanic (.error "growslice: len out of range")
    if nextslicecap need sCap * (← typeInfo elem).bytes > 2 ^ 48 then (if zeros then runtimePanic (.error "growslice: len out of range") else do
      if !(← mayShare size sLen n base x) then mark .noRoom
      unsupported (.resourceLimit "append: a slice or a string whose bytes no memory bears"))
    let newCap ← choose (.appendCap need sCap elem)
    askRoom (newCap * (← typeInfo elem).bytes)
    let old ← firstCells size sLen s
    let new ← appended
    let rest := zeroCells (← zeroValue elem).cells (newCap - need)
    pure (.slice (some (← newRow elem (old ++ new ++ rest))) need newCap)
theorem zeroCells_size (z : Array Value) (m : Nat) : (Builtin.zeroCells z m).size = m * z.size := by simp [Builtin.zeroCells]
section
variable {P : Program} {β : Blk} {hp : Tr Ob} {w : World}
theorem core_room {elem : TypeId} {size n sLen sCap b : Nat} {zeros : Bool} {s x : Value} {app : Sem (Array Value)} {news : List Value} {c : Array Value} {fz : Nat × Nat} {e : Nat}
    (h : sLen + n ≤ sCap) (ha : app.run P w = .ok news.toArray w) (hh : w.heap[b]? = some (.cells c e fz)) (hf : free fz c.size) (hl : sLen * size + news.length ≤ c.size) (h1 : ∀ v ∈ news, v.oneCell' = true) :
    (core elem size n zeros (some ⟨b, 0, none⟩) sLen sCap s x app).run P w = .ok (.slice (some ⟨b, 0, none⟩) (sLen + n) sCap)
      (w.setRow b (c.toList.take (sLen * size) ++ news ++ c.toList.drop (sLen * size + news.length)).toArray) := by
  have hst := run_storeCells_free P b (sLen * size) e fz news 0 c w hh hf (by omega) h1
  simp only [Nat.add_zero] at hst
  simp only [core, if_pos h, Sem.run_bind, ha, Result.andThen_ok, add_none, Nat.zero_add, hst, Sem.run_pure]
theorem core_grow {elem : TypeId} {size n sLen sCap : Nat} {zeros : Bool} {base : Option Addr} {s x : Value} {app : Sem (Array Value)} {olds news : List Value} {i : TypeInfo} {z : Value}
    (hi : P.info? elem = some i) (hz : i.zero = some z) (hb : 0 < i.bytes) (h : ¬ sLen + n ≤ sCap) (hroom : (sLen + n) * i.bytes ≤ 70368744177664)
    (ho : (Builtin.firstCells size sLen s).run P w.drew = .ok olds.toArray w.drew) (ha : app.run P w.drew = .ok news.toArray w.drew) :
    ∃ cap, sLen + n ≤ cap ∧ (core elem size n zeros base sLen sCap s x app).run P w =
      .ok (.slice (some ⟨w.heap.size, 0, none⟩) (sLen + n) cap) (w.drew.alloc (.cells (olds.toArray ++ news.toArray ++ Builtin.zeroCells z.cells (cap - (sLen + n))) elem)) := by
  refine ⟨grownCap w (sLen + n) sCap elem, by show sLen + n ≤ (sLen + n) + _; omega, ?_⟩
  have hne : sLen + n ≤ (sLen + n) * i.bytes := Nat.le_mul_of_pos_right _ hb
  have hmax : IntKind.i64.max = 9223372036854775807 := by decide
  have hno1 : ¬ (((sLen + n : Nat) : Int) > IntKind.i64.max ∧ (zeros = true ∨ i.bytes = 0)) := by
    intro hh; rw [hmax] at hh; omega
  have hcap := nextslicecap_le (need := sLen + n) (old := sCap) (by omega)
  have hno2 : ¬ (Builtin.nextslicecap (sLen + n) sCap * i.bytes > 2 ^ 48) := by
    have h1 : Builtin.nextslicecap (sLen + n) sCap * i.bytes ≤ 2 * (sLen + n) * i.bytes := Nat.mul_le_mul_right _ hcap
    rw [Nat.mul_assoc] at h1
    have : (2 : Nat) ^ 48 = 281474976710656 := rfl
    omega
  simp only [core, if_neg h, Sem.run_bind, run_info hi, Result.andThen_ok]
  rw [if_neg hno1]
  simp only [Sem.run_pure, Sem.run_bind, run_info hi, Result.andThen_ok]
  rw [if_neg hno2]
  have hq : (Question.appendCap (sLen + n) sCap elem).forced = false := rfl
  simp only [Sem.run_pure, Sem.run_bind, run_info hi, Result.andThen_ok, run_choose, hq, Bool.false_eq_true, if_false, run_askRoom, World.drew_eq, ho, ha, run_zero hi hz, newRow, run_newObj]
  rfl
/-- how append begins: a slice comes -/
theorem app_slice {t u ty elem : TypeId} {i : TypeInfo} {sl : Option Addr} {sLen sCap m cap : Nat} {ad : Option Addr} {e' : Nat} (ht : P.underlying t = some (.slice elem)) (hu : P.underlying u = some (.slice e')) (hi : P.info? elem = some i) :
    (Builtin.append_ #[t, u] ty #[.slice sl sLen sCap, .slice ad m cap]).run P w =
      (core elem i.size m false sl sLen sCap (.slice sl sLen sCap) (.slice ad m cap) (Builtin.firstCells i.size m (.slice ad m cap))).run P w := by
  simp only [Builtin.append_, core, Sem.run_bind, run_underlying ht, run_underlying hu, run_size hi, Result.andThen_ok, Sem.run_pure, Builtin.lenOf, Bool.false_eq_true, if_false, Bool.not_false, if_true, List.getElem?_toArray, List.getElem?_cons_zero, List.getElem?_cons_succ]
  rfl
theorem app_string {t u ty elem : TypeId} {i : TypeInfo} {sl : Option Addr} {sLen sCap : Nat} {b : ByteArray} (ht : P.underlying t = some (.slice elem)) (hu : P.underlying u = some .string) (hi : P.info? elem = some i) :
    (Builtin.append_ #[t, u] ty #[.slice sl sLen sCap, .string b]).run P w =
      (core elem i.size b.size false sl sLen sCap (.slice sl sLen sCap) (.string b) (Builtin.firstCells i.size b.size (.string b))).run P w := by
  simp only [Builtin.append_, core, Sem.run_bind, run_underlying ht, run_underlying hu, run_size hi, Result.andThen_ok, Sem.run_pure, Builtin.lenOf, Bool.false_eq_true, if_false, Bool.not_false, if_true, List.getElem?_toArray, List.getElem?_cons_zero, List.getElem?_cons_succ]
  rfl
theorem run_asInt (k : IntKind) (m : Int) : (asInt (.int k m)).run P w = .ok m w := by simp [asInt, asIntOf]
theorem app_zeros {t u ty elem : TypeId} {i : TypeInfo} {sl : Option Addr} {sLen sCap m : Nat} {k k' : IntKind} (ht : P.underlying t = some (.slice elem)) (hu : P.underlying u = some (.int k')) (hi : P.info? elem = some i)
    (hm : m ≤ 70368744177664) (hmb : m * i.bytes ≤ 70368744177664) :
    (Builtin.append_ #[t, u] ty #[.slice sl sLen sCap, .int k (m : Int)]).run P w =
      (core elem i.size m true sl sLen sCap (.slice sl sLen sCap) (.int k (m : Int)) (if m * i.size = 0 then pure #[] else do pure (Builtin.zeroCells (← zeroValue elem).cells m))).run P w := by
  have hw : IntKind.i64.wrap (m : Int) = m := by rw [IntKind.wrap_i64]; omega
  have h1 : ¬ ((m : Int) < 0) := by omega
  have h2 : ¬ ((m : Int) * (i.bytes : Int) > 2 ^ 48) := by
    have h3 : ((m * i.bytes : Nat) : Int) ≤ 70368744177664 := Int.ofNat_le.2 hmb
    rw [Int.natCast_mul] at h3
    have : (2 : Int) ^ 48 = 281474976710656 := rfl
    omega
  simp only [Builtin.append_, core, Sem.run_bind, run_underlying ht, run_underlying hu, run_size hi, run_info hi, Result.andThen_ok, Sem.run_pure, run_asInt, hw, if_neg h1, if_neg h2, Int.toNat_natCast, Bool.not_true, Bool.false_eq_true, if_false, if_true, List.getElem?_toArray, List.getElem?_cons_zero, List.getElem?_cons_succ]
  rfl
theorem al_prefix {β : Blk} {l : List C} {vs : List Value} {rest : Array Value} (h : Al (CK β) l vs) : ∀ (i : Nat) (x : C), l[i]? = some x → ∃ v : Value, (vs.toArray ++ rest)[i]? = some v ∧ CK β x v := by
  intro i x hx
  obtain ⟨v, hv, hc⟩ := Al.get h hx
  have hi : i < vs.length := (List.getElem?_eq_some_iff.1 hv).1
  exact ⟨v, by rw [Array.getElem?_append_left (by simpa using hi)]; simpa using hv, hc⟩
theorem grown (hH : HV β hp w) {e k m cap : Nat} {nid : Pos} {l : List C} {vs : List Value} {rest : Array Value} (hn : Tr.get nid hp = none) (hal : Al (CK β) l vs) (hk : 0 < k) (hm : m ≤ cap) (hs : (vs.toArray ++ rest).size = cap * k) :
    ∃ β', DV β' (.one (.own nid k m)) (.slice (some ⟨w.heap.size, 0, none⟩) m cap) ∧ HV β' (Tr.set nid (.ob e l) hp) (w.drew.alloc (.cells (vs.toArray ++ rest) e)) ∧ Mv β w β' (w.drew.alloc (.cells (vs.toArray ++ rest) e)) := by
  have hlen := Al.len hal
  obtain ⟨h1, h2⟩ := HV.new (w := w) (w' := w.drew.alloc (.cells (vs.toArray ++ rest) e)) (e := e) (cs := l) (c := vs.toArray ++ rest) (fz := (0, 0)) hH hn
      (by simp; omega) (al_prefix hal) (free0 _) (by simp) (fun k hk => Below.heap_alloc w.drew _ k hk) (heap_alloc_new w.drew _) rfl rfl rfl
  exact ⟨_, ⟨w.heap.size, _, cap, Blk.add_self _ _ _, rfl, hm, by omega, hk⟩, h1, h2⟩
/-- append onto a slice of one's own, or the nil slice -/
theorem grow_ok (hH : HV β hp w) {e k b m : Nat} {nid : Pos} {x : C} {xv : Value} {cs : List C} {news : List Value} {i : TypeInfo} {z : Value} {d : D} {f : Ef} {hp' : Tr Ob} {zeros : Bool} {yv : Value} {app : Sem (Array Value)}
    (hx : CV β x xv) (hi : P.info? e = some i) (hz : i.zero = some z) (hzs : z.cells.size = k) (hik : i.size = k) (hbp : 0 < i.bytes) (hib : i.bytes = b) (hk : 0 < k)
    (hm : cs.length = m * k) (hal : Al (CK β) cs news) (happ : ∀ w' : World, w'.heap = w.heap → app.run P w' = .ok news.toArray w')
    (hr : grow nid e k b x m cs hp = some (d, f)) (hfit : fit nid f hp = some hp') :
    ∃ sl sLen sCap v β' w', xv = .slice sl sLen sCap ∧ (core e i.size m zeros sl sLen sCap xv yv app).run P w = .ok v w' ∧ DV β' d v ∧ HV β' hp' w' ∧ Mv β w β' w' := by
  have hlv := Al.len hal
  unfold grow at hr
  split at hr
  · rename_i id j n'
    obtain ⟨bk, sz, cap, hb, rfl, hn', hcap, hj0⟩ := hx
    split at hr
    · rename_i e' old hg
      rw [brec'] at hr
      split at hr
      · rename_i hcond
        have hcond' : e' = e ∧ old.length = n' * k ∧ j = k ∧ (n' + m) * b ≤ room := by
          rw [brec'] at hcond
          split at hcond
          · rename_i h0
            rw [brec'] at hcond
            split at hcond
            · rename_i h1
              rw [brec'] at hcond
              split at hcond
              · rename_i h2
                rw [beq_iff] at h0
                rw [beq_iff, len_eq] at h1
                rw [beq_iff] at h2
                rw [ble_iff] at hcond
                exact ⟨h0, h1, h2, hcond⟩
              · cases hcond
            · cases hcond
          · cases hcond
        obtain ⟨rfl, h1, rfl, h3⟩ := hcond'
        cases hr
        obtain ⟨hn, rfl⟩ := fit_mv hfit
        obtain ⟨b', c, fz, hb', hh, hlen, hcc, hfr⟩ := hH.obj id e' old hg
        obtain ⟨rfl, rfl⟩ := CV.blk hb hb'
        rw [app_eq]
        have hsum : (n' + m) * j = n' * j + m * j := Nat.add_mul _ _ _
        by_cases hroom : n' + m ≤ cap
        · have hnc : (n' + m) * j ≤ cap * j := Nat.mul_le_mul_right _ hroom
          have hrun := core_room (P := P) (elem := e') (size := i.size) (n := m) (zeros := zeros) (s := .slice (some ⟨bk, 0, none⟩) n' cap) (x := yv) (app := app) hroom (happ w rfl) hh hfr (by rw [hik]; omega) (Al.one hal)
          obtain ⟨m1, m2⟩ := hH.move hn hg hb' hh (by omega) hal
          rw [h1] at m1 m2
          rw [hik] at hrun
          refine ⟨_, _, _, _, _, _, rfl, by rw [hik]; exact hrun, ⟨bk, c.size, cap, Blk.add_self _ _ _, rfl, hroom, hcap, hj0⟩, m1, m2⟩
        · obtain ⟨b2, sz2, olds, hb2, hol, hoal, hocell⟩ := hH.seg hg 0 old.length (by omega)
          obtain ⟨rfl, _⟩ := CV.blk hb hb2
          have hoal' : Al (CK β) old olds := by simpa using hoal
          have ho := run_firstCells_some (P := P) w.drew i.size n' ⟨bk, 0, none⟩ n' cap olds (by rw [hol, h1, hik]) (fun q v hv => hocell q v hv)
          obtain ⟨cap', hc1, hrun⟩ := core_grow (P := P) (w := w) (elem := e') (size := i.size) (n := m) (zeros := zeros) (base := some ⟨bk, 0, none⟩) (sLen := n') (sCap := cap) (x := yv) (olds := olds) (news := news)
            hi hz hbp hroom (by rw [hib]; exact h3) ho (happ w.drew rfl)
          have hni : id ≠ nid := fun e => by subst e; rw [hn] at hg; cases hg
          have hmulsub : cap' * j = (n' + m) * j + (cap' - (n' + m)) * j := by rw [← Nat.add_mul]; congr 1; omega
          obtain ⟨β', g1, g2, g3⟩ := grown (e := e') (k := j) (m := n' + m) (cap := cap') (hH.die id) (nid := nid) (by rw [Tr.get_set_ne _ _ hni]; exact hn) (Al.app hoal' hal) hj0 hc1 (rest := Builtin.zeroCells z.cells (cap' - (n' + m)))
            (by simp only [Array.size_append, List.size_toArray, List.length_append, zeroCells_size, hzs]; omega)
          refine ⟨_, _, _, _, β', _, rfl, hrun, g1, ?_, ?_⟩
          · rw [List.append_toArray] at *; simpa using g2
          · simpa using g3
      · cases hr
    · cases hr
  · have hxv : xv = .slice none 0 0 := hx
    subst hxv
    split at hr
    · cases hr
      have hnil : cs = [] := by
        have : cs.length = 0 := by rw [hm]; exact Nat.zero_mul _
        exact List.eq_nil_of_length_eq_zero this
      subst hnil
      cases hal
      cases hfit
      refine ⟨none, 0, 0, .slice none 0 0, β, w, rfl, ?_, rfl, hH, Mv.refl _ _⟩
      simp only [core, Nat.add_zero, Nat.le_refl, if_true, Sem.run_bind, happ w rfl, Result.andThen_ok, Sem.run_pure]
    · rename_i hm0
      rw [brec'] at hr
      split at hr
      · rename_i hcond
        rw [ble_iff] at hcond
        cases hr
        obtain ⟨hn, rfl⟩ := fit_new hfit
        have hmpos : 0 < m := Nat.pos_of_ne_zero (fun h => hm0 h)
        obtain ⟨cap', hc1, hrun⟩ := core_grow (P := P) (w := w) (elem := e) (size := i.size) (n := m) (zeros := zeros) (base := none) (sLen := 0) (sCap := 0) (s := .slice none 0 0) (x := yv) (olds := []) (news := news)
            hi hz hbp (by omega) (by rw [hib, Nat.zero_add]; exact hcond) (run_firstCells_none _ _ _ _ _) (happ w.drew rfl)
        rw [Nat.zero_add] at hc1
        have hmulsub : cap' * k = m * k + (cap' - m) * k := by rw [← Nat.add_mul]; congr 1; omega
        obtain ⟨β', g1, g2, g3⟩ := grown (e := e) (k := k) (m := m) (cap := cap') hH hn hal hk hc1 (rest := Builtin.zeroCells z.cells (cap' - m))
            (by simp only [Array.size_append, List.size_toArray, zeroCells_size, hzs]; omega)
        refine ⟨none, 0, 0, _, β', _, rfl, hrun, ?_, ?_, ?_⟩
        · simpa using g1
        · simpa using g2
        · simpa using g3
      · cases hr
  · cases hr
end
end Go.Proofs.YtiahijhpjloijaaGreat.V
