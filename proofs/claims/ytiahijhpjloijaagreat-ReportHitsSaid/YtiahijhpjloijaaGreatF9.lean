/- Texts out of bytes, numbers, lengths; an object written; a new object. -/
import Derived.Test.YtiahijhpjloijaaGreatF8
set_option linter.unusedVariables false
set_option linter.unusedSimpArgs false
namespace Go.Proofs.YtiahijhpjloijaaGreat.V
open Go Go.RowKit
section
variable {P : Program} {n : Nat} {β : Blk} {tm : Tr D} {a : Act} {hp : Tr Ob} {w : World}
theorem elems_ok (hH : HV β hp w) {c : C} {k m : Nat} {cs : List C} {v : Value} (hc : CV β c v) (h : elems hp c = some (k, m, cs)) :
    cs.length = m * k ∧ ∃ vs, Al (CK β) cs vs ∧ ((∃ ad cap, v = .slice (some ad) m cap ∧ ∀ (j : Nat) (u : Value), vs[j]? = some u → w.cell? (ad.add j) = some u) ∨ (v = .slice none 0 0 ∧ m = 0)) := by
  unfold elems at h
  split at h
  · rename_i id k' m'
    obtain ⟨b, sz, cap, hb, hv, hm, hcap, hk⟩ := hc
    split at h
    · rename_i cs' ho
      rw [brec'] at h
      split at h
      · rename_i hl
        rw [beq_iff, len_eq] at hl
        cases h
        refine ⟨hl, ?_⟩
        obtain ⟨e, hg⟩ := objc_eq ho
        obtain ⟨b', sz', vs, hb', hvl, hal, hcell⟩ := hH.seg hg 0 cs.length (by omega)
        obtain ⟨rfl, _⟩ := CV.blk hb hb'
        refine ⟨vs, by simpa using hal, .inl ⟨_, cap, hv, hcell⟩⟩
      · cases h
    · cases h
  · rename_i id k' off m'
    obtain ⟨b, sz, cap, hb, hv, hm, hk⟩ := hc
    split at h
    · rename_i cs' ho
      rw [brec'] at h
      split at h
      · rename_i hl
        rw [beq_iff, len_eq, take_eq, drop_eq] at hl
        rw [take_eq, drop_eq] at h
        cases h
        refine ⟨hl, ?_⟩
        rcases Nat.eq_zero_or_pos (m * k) with h0 | h0
        · have hnil : ((cs'.drop off).take (m * k)) = [] := by rw [h0]; simp
          rw [hnil]
          exact ⟨[], .nil, .inl ⟨_, cap, hv, fun j u h => by simp at h⟩⟩
        · obtain ⟨b', sz', vs, hb', hvl, hal, hcell⟩ := objc_seg hH ho off (m * k) h0 hl
          obtain ⟨rfl, _⟩ := CV.blk hb hb'
          exact ⟨vs, hal, .inl ⟨_, cap, hv, hcell⟩⟩
      · cases h
    · cases h
  · cases h
    obtain ⟨ad, cap, hv⟩ := hc
    exact ⟨rfl, [], .nil, .inl ⟨ad, cap, hv, fun j u h => by simp at h⟩⟩
  · cases h
    exact ⟨rfl, [], .nil, .inr ⟨hc, rfl⟩⟩
  · cases h
theorem b2s_ok (hT : TV n β tm a) (hH : HV β hp w) {x : A} {src dst : Nat} {y : Operand} {d : D} {f : Ef} {nid : Pos}
    (hs : (match P.underlying src with | some (.slice e) => intB P e .u8 | _ => false) = true) (hd : strT P dst = true) (hf : fitA x y = true) (hr : rd P nid (.b2s x) tm hp = some (d, f)) :
    f = .no ∧ ∃ v, (convert src dst (a.eval y)).run P w = .ok v w ∧ DV β d v := by
  have hud := strT_ok hd
  split at hs
  case h_2 => cases hs
  rename_i e hus
  have hue := intB_ok hs
  simp only [rd] at hr
  split at hr
  · rename_i c hc
    have hcv := cel_ok hT hf hc
    split at hr
    · rename_i m cs he
      split at hr
      · rename_i l hl
        cases hr
        obtain ⟨hlen, vs, hal, hv⟩ := elems_ok hH hcv he
        obtain ⟨hvs, h256⟩ := each_bytes hl hal
        rcases hv with ⟨ad, cap, hv, hcell⟩ | ⟨hv, hm⟩
        · refine ⟨rfl, .string (strB l), ?_, rfl, h256⟩
          have hml : m = l.length := by
            have h1 := Al.len hal
            rw [hvs] at h1
            simp at h1
            omega
          have := run_convert_bytes_back (P := P) w src dst e ad cap (l.map UInt8.ofNat) hus hue hud (fun j hj => by
            apply hcell j
            rw [hvs]
            simp only [List.length_map] at hj
            simp [hj])
          rw [List.length_map, ← hml] at this
          rw [hv, this]
          rfl
        · refine ⟨rfl, .string (strB l), ?_, rfl, h256⟩
          have hl0 : l = [] := by
            have h1 := Al.len hal
            rw [hvs] at h1
            simp at h1
            have : l.length = 0 := by omega
            exact List.eq_nil_of_length_eq_zero this
          subst hl0
          rw [hv, run_convert_bytes_string w src dst e none 0 0 hus hue hud]
          rfl
      · cases hr
    · cases hr
  · cases hr
theorem toV_ok {β : Blk} {c : C} {u v : Value} (h : toV c = some u) (hc : CV β c v) : v = u := by
  cases c <;> simp only [toV] at h <;> cases h <;> first | exact hc | exact hc.1
theorem each_toV {β : Blk} : ∀ {l : List C} {us vs : List Value}, each toV l = some us → Al (CK β) l vs → vs = us := by
  intro l
  induction l with
  | nil => intro us vs h ha; rw [each_nil] at h; cases h; cases ha; rfl
  | cons c l ih =>
    intro us vs h ha
    rw [each_cons] at h
    split at h
    · rename_i u hu
      split at h
      · rename_i us' hus
        cases h
        cases ha with
        | cons hc ht => rw [toV_ok hu hc.1, ih hus ht]
      · cases h
    · cases h
theorem bin_ok (hT : TV n β tm a) (hH : HV β hp w) {op : BinOp} {x y : A} {t : Nat} {x' y' : Operand} {d : D} {f : Ef} {nid : Pos}
    (hx : fitA x x' = true) (hy : fitA y y' = true) (hr : rd P nid (.bin op t x y) tm hp = some (d, f)) :
    f = .no ∧ ∃ v m, (do eqGuard op t x' y' (a.eval x') (a.eval y'); binOp op t (a.eval x') (a.eval y') : Sem Value).run P w = .ok v { w with drawn := m } ∧ DV β d v := by
  simp only [rd] at hr
  split at hr
  · rename_i c1 c2 h1 h2
    have v1 : CV β c1 (a.eval x') := val_ok hT hx h1
    have v2 : CV β c2 (a.eval y') := val_ok hT hy h2
    split at hr
    · rename_i c hc
      cases hr
      obtain ⟨v, m, hrun, hcv⟩ := cbin_ok (P := P) (t := t) w β v1 v2 hc
      refine ⟨rfl, v, m, ?_, hcv⟩
      simp only [Sem.run_bind, eqGuard_plain w v1 (.inr trivial), Result.andThen_ok, hrun]
    · cases hr
  · rename_i l1 l2 h1 h2
    obtain ⟨vs1, e1, a1⟩ : DV β (.ag l1) (a.eval x') := val_ok hT hx h1
    obtain ⟨vs2, e2, a2⟩ : DV β (.ag l2) (a.eval y') := val_ok hT hy h2
    split at hr
    · rename_i c hc
      cases hr
      refine ⟨rfl, ?_⟩
      unfold abin at hc
      split at hc
      · rename_i us1 us2 hu1 hu2
        have q1 := each_toV hu1 a1
        have q2 := each_toV hu2 a2
        split at hc
        · rename_i r hst
          cases hc
          have hrun := E.still_run hst w
          refine ⟨.bool r, w.drawn, ?_, rfl⟩
          rw [e1, e2]
          have w1 : vs1 = us1.toArray := by rw [← q1]
          have w2 : vs2 = us2.toArray := by rw [← q2]
          rw [w1, w2]
          exact hrun
        · cases hc
      · cases hc
    · cases hr
  · cases hr
theorem len_ok (hT : TV n β tm a) {s : Bool} {x : A} {t ty : Nat} {y : Operand} {d : D} {f : Ef} {nid : Pos}
    (hs : (bif s then strT P t else sliceT P t) = true) (hf : fitA x y = true) (hr : rd P nid (.len s x) tm hp = some (d, f)) :
    f = .no ∧ ∃ v, (Builtin.len_ #[t] ty #[a.eval y]).run P w = .ok v w ∧ DV β d v := by
  cases s with
  | true =>
    have hu := strT_ok hs
    simp only [rd] at hr
    split at hr
    · rename_i l hc
      obtain ⟨hv, h256⟩ : CV β (.str l) (a.eval y) := cel_ok hT hf hc
      cases hr
      refine ⟨rfl, goInt l.length, ?_, by rw [len_eq]; rfl⟩
      rw [hv]
      simp [Builtin.len_, run_underlying hu, strB_size]
    · cases hr
  | false =>
    obtain ⟨e, hu⟩ := sliceT_ok hs
    have key : ∀ (ad : Option Addr) (m cap : Nat), (Builtin.len_ #[t] ty #[.slice ad m cap]).run P w = .ok (goInt m) w := by
      intro ad m cap; simp [Builtin.len_, run_underlying hu]
    simp only [rd] at hr
    split at hr
    · rename_i id k m hc
      obtain ⟨b, sz, cap, hb, hv, _⟩ : CV β (.own id k m) (a.eval y) := cel_ok hT hf hc
      cases hr
      exact ⟨rfl, _, by rw [hv]; exact key _ _ _, rfl⟩
    · rename_i id k off m hc
      obtain ⟨b, sz, cap, hb, hv, _⟩ : CV β (.sl id k off m) (a.eval y) := cel_ok hT hf hc
      cases hr
      exact ⟨rfl, _, by rw [hv]; exact key _ _ _, rfl⟩
    · rename_i hc
      obtain ⟨ad, cap, hv⟩ : CV β .emp (a.eval y) := cel_ok hT hf hc
      cases hr
      exact ⟨rfl, _, by rw [hv]; exact key _ _ _, rfl⟩
    · rename_i hc
      have hv : a.eval y = .slice none 0 0 := cel_ok hT hf hc
      cases hr
      exact ⟨rfl, _, by rw [hv]; exact key _ _ _, rfl⟩
    · cases hr
theorem st_ok (hT : TV n β tm a) (hH : HV β hp w) {k : Nat} {ax x : A} {t : Nat} {ay y : Operand} {d : D} {f : Ef} {nid : Pos} {hp' : Tr Ob}
    (hs : szB P t k = true) (hk : 0 < k) (hfa : fitA ax ay = true) (hf : fitA x y = true) (hr : rd P nid (.st k ax x) tm hp = some (d, f)) (hfit : fit nid f hp = some hp') :
    d = .one .un ∧ ∃ w', (Instr.storeAt t (a.eval ay) (a.eval y)).run P w = .ok () w' ∧ HV β hp' w' ∧ Mv β w β w' := by
  simp only [rd] at hr
  split at hr
  · rename_i id off hc
    obtain ⟨b, sz, hb, hv⟩ : CV β (.loc id off) (a.eval ay) := cel_ok hT hfa hc
    split at hr
    · rename_i cs ho
      split at hr
      · rename_i l hl
        have hal := cells_ok hT hf hl
        have hlv := Al.len hal
        simp only [Array.length_toList] at hlv
        rw [brec'] at hr
        split at hr
        · rename_i hcond
          rw [brec'] at hcond
          cases hr
          refine ⟨rfl, ?_⟩
          have hcond' : off + k ≤ cs.length ∧ l.length = k := by
            rw [len_eq, len_eq] at hcond
            split at hcond
            · rename_i h1
              rw [beq_iff] at h1
              rw [ble_iff] at hcond
              exact ⟨hcond, h1⟩
            · cases hcond
          obtain ⟨e, hg⟩ := objc_eq ho
          simp only [fit, hg] at hfit
          cases hfit
          obtain ⟨b', c, fz, hb', hh, hlen, hcc, hfr⟩ := hH.obj id e cs hg
          obtain ⟨rfl, rfl⟩ := CV.blk hb hb'
          obtain ⟨h1, h2⟩ := hH.put (off := off) hg hb' hh (by omega) hal
          refine ⟨_, ?_, h1, h2⟩
          obtain ⟨i, hi, hik⟩ := szB_ok hs
          have hst := run_storeCells_free P b off e fz (a.eval y).cells.toList 0 c w hh hfr (by simp; omega) (Al.one hal)
          rw [hv]
          simp only [Instr.storeAt, Instr.sureAddr, storeVar, Sem.run_bind, Sem.run_pure, Result.andThen_ok, run_size hi]
          rw [if_neg (by omega)]
          simpa using hst
        · cases hr
      · cases hr
    · cases hr
  · cases hr
end
end Go.Proofs.YtiahijhpjloijaaGreat.V
