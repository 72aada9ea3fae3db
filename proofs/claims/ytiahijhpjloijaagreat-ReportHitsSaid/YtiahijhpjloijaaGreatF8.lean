/- More operations that make no object: slices of slices, lengths, texts, numbers. -/
import Derived.Test.YtiahijhpjloijaaGreatF7
set_option linter.unusedVariables false
set_option linter.unusedSimpArgs false
namespace Go.Proofs.YtiahijhpjloijaaGreat.V
open Go Go.RowKit
section
variable {P : Program} {n : Nat} {β : Blk} {tm : Tr D} {a : Act} {hp : Tr Ob} {w : World}
theorem bnd_ok (hT : TV n β tm a) {ao : Option A} {oo : Option Operand} (hf : fitO ao oo = true) {dflt m k : Nat} (h : bnd tm ao dflt m = some k) :
    (oo = none ∧ k = dflt) ∨ (∃ kind o, oo = some o ∧ a.eval o = .int kind (k : Int) ∧ k ≤ m) := by
  cases ao with
  | none => cases oo with
    | none => cases h; exact .inl ⟨rfl, rfl⟩
    | some o => cases hf
  | some x => cases oo with
    | none => cases hf
    | some o =>
      refine .inr ?_
      simp only [bnd] at h
      split at h
      · rename_i kind j hc
        obtain ⟨rfl, hlt⟩ := idx_ok h
        exact ⟨kind, o, rfl, cel_ok hT hf hc, by omega⟩
      · cases h
theorem bounds_ok (hT : TV n β tm a) {lo hi : Option A} {l h : Option Operand} (hl : fitO lo l = true) (hh : fitO hi h = true) (isS : Bool) {len cap H L : Nat} (hcap : len ≤ cap)
    (eH : bnd tm hi len len = some H) (eL : bnd tm lo 0 H = some L) :
    (Instr.sliceBounds isS len cap (l.map a.eval) (h.map a.eval) none).run P w = .ok (L, H, cap) w ∧ L ≤ H ∧ H ≤ len := by
  rcases bnd_ok hT hh eH with ⟨rfl, rfl⟩ | ⟨kh, oh, rfl, eh, hle⟩
  · rcases bnd_ok hT hl eL with ⟨rfl, rfl⟩ | ⟨kl, ol, rfl, el, hle'⟩
    · exact ⟨by simp [Instr.sliceBounds], by omega, by omega⟩
    · refine ⟨?_, hle', by omega⟩
      simp only [Option.map_some, Option.map_none, Instr.sliceBounds, el, Sem.run_bind, Sem.run_pure, Result.andThen_ok, Option.isSome_none, Bool.false_eq_true, if_false]
      rw [run_sliceBound w kl _ _ _ (by omega) (by omega)]
      simp
  · rcases bnd_ok hT hl eL with ⟨rfl, rfl⟩ | ⟨kl, ol, rfl, el, hle'⟩
    · refine ⟨?_, by omega, hle⟩
      simp only [Option.map_some, Option.map_none, Instr.sliceBounds, eh, Sem.run_bind, Sem.run_pure, Result.andThen_ok]
      rw [run_sliceBound w kh _ _ _ (by omega) (by omega)]
      simp
    · refine ⟨?_, hle', hle⟩
      simp only [Option.map_some, Instr.sliceBounds, eh, el, Sem.run_bind, Sem.run_pure, Result.andThen_ok, Option.isSome_none, Bool.false_eq_true, if_false]
      rw [run_sliceBound w kh _ _ _ (by omega) (by omega)]
      simp only [Result.andThen_ok]
      rw [run_sliceBound w kl _ _ _ (by omega) (by simp; omega)]
      simp
theorem slice_run {t e k : Nat} {i : TypeInfo} (hu : P.underlying t = some (.slice e)) (hi : P.info? e = some i) (hik : i.size = k) {ad : Addr} {len cap L H : Nat} {lo hh : Option Value}
    (hb : (Instr.sliceBounds true len cap lo hh none).run P w = .ok (L, H, cap) w) :
    (Instr.sliceAt t (.slice (some ad) len cap) lo hh none).run P w = .ok (.slice (some (if cap = L then ad else ad.add (L * k))) (H - L) (cap - L)) w := by
  simp only [Instr.sliceAt, Sem.run_bind, run_underlying hu, Result.andThen_ok, Instr.slice, hb, run_size hi, Sem.run_pure, hik]
  congr 2
  split <;> rfl
theorem sl_ok (hT : TV n β tm a) {k : Nat} {x : A} {lo hi : Option A} {t : Nat} {y : Operand} {l h : Option Operand} {d : D} {f : Ef} {nid : Pos}
    (hs : elSz P t k = true) (hf : fitA x y = true) (hl : fitO lo l = true) (hh : fitO hi h = true) (hr : rd P nid (.sl k x lo hi) tm hp = some (d, f)) :
    f = .no ∧ ∃ v, (Instr.sliceAt t (a.eval y) (l.map a.eval) (h.map a.eval) none).run P w = .ok v w ∧ DV β d v := by
  unfold elSz at hs
  split at hs
  case h_2 => cases hs
  rename_i e hu
  simp only [Bool.and_eq_true, blt_iff] at hs
  obtain ⟨i, hinf, hik⟩ := szB_ok hs.1
  have hk := hs.2
  have fin : ∀ (id : Pos) (b sz off m cap L H : Nat) (d : D) (f : Ef), β id = some (b, sz) → m ≤ cap → bnd tm hi m m = some H → bnd tm lo 0 H = some L →
      (Bool.rec (some (.one (.sl id k (off + L * k) (H - L)), .no)) (some (.one .emp, .no)) (Nat.beq L H) : Option (D × Ef)) = some (d, f) →
      f = .no ∧ ∃ v, (Instr.sliceAt t (.slice (some ⟨b, off, none⟩) m cap) (l.map a.eval) (h.map a.eval) none).run P w = .ok v w ∧ DV β d v := by
    intro id b sz off m cap L H d f hb hm eH eL hr
    obtain ⟨hbd, h1, h2⟩ := bounds_ok (P := P) (w := w) hT hl hh true hm eH eL
    have hrun := slice_run hu hinf hik (ad := ⟨b, off, none⟩) hbd
    rw [brec'] at hr
    split at hr
    · rename_i he
      rw [beq_iff] at he
      cases hr
      refine ⟨rfl, _, hrun, ?_⟩
      rw [← he, Nat.sub_self]
      exact ⟨_, _, rfl⟩
    · rename_i he
      rw [beq_iff] at he
      cases hr
      refine ⟨rfl, _, hrun, ?_⟩
      rw [if_neg (by omega), add_none]
      exact ⟨b, sz, cap - L, hb, rfl, by omega, hk⟩
  simp only [rd] at hr
  split at hr
  · rename_i id kk m hc
    obtain ⟨b, sz, cap, hb, hv, hm, _⟩ : CV β (.own id kk m) (a.eval y) := cel_ok hT hf hc
    split at hr
    · rename_i H eH
      split at hr
      · rename_i L eL
        rw [hv]
        exact fin id b sz 0 m cap L H d f hb hm eH eL (by rw [Nat.zero_add]; exact hr)
      · cases hr
    · cases hr
  · rename_i id kk off m hc
    obtain ⟨b, sz, cap, hb, hv, hm, _⟩ : CV β (.sl id kk off m) (a.eval y) := cel_ok hT hf hc
    split at hr
    · rename_i H eH
      split at hr
      · rename_i L eL
        rw [hv]
        exact fin id b sz off m cap L H d f hb hm eH eL hr
      · cases hr
    · cases hr
  · rename_i hc
    obtain ⟨ad, cap, hv⟩ : CV β .emp (a.eval y) := cel_ok hT hf hc
    split at hr
    · rename_i H eH
      split at hr
      · rename_i L eL
        cases hr
        obtain ⟨hbd, h1, h2⟩ := bounds_ok (P := P) (w := w) hT hl hh true (Nat.zero_le cap) eH eL
        have hrun := slice_run hu hinf hik (ad := ad) hbd
        rw [hv]
        refine ⟨rfl, _, hrun, ?_⟩
        have : H - L = 0 := by omega
        rw [this]
        exact ⟨_, _, rfl⟩
      · cases hr
    · cases hr
  · cases hr
theorem sls_ok (hT : TV n β tm a) {x : A} {lo hi : Option A} {t : Nat} {y : Operand} {l h : Option Operand} {d : D} {f : Ef} {nid : Pos}
    (hs : strT P t = true) (hf : fitA x y = true) (hl : fitO lo l = true) (hh : fitO hi h = true) (hr : rd P nid (.sls x lo hi) tm hp = some (d, f)) :
    f = .no ∧ ∃ v, (Instr.sliceAt t (a.eval y) (l.map a.eval) (h.map a.eval) none).run P w = .ok v w ∧ DV β d v := by
  have hu := strT_ok hs
  simp only [rd] at hr
  split at hr
  · rename_i s hc
    obtain ⟨hv, hs256⟩ : CV β (.str s) (a.eval y) := cel_ok hT hf hc
    rw [len_eq] at hr
    split at hr
    · rename_i H eH
      split at hr
      · rename_i L eL
        cases hr
        obtain ⟨hbd, h1, h2⟩ := bounds_ok (P := P) (w := w) hT hl hh false (Nat.le_refl _) eH eL
        refine ⟨rfl, .string (strB ((s.drop L).take (H - L))), ?_, ?_, ?_⟩
        · rw [hv]
          have hsz : (strB s).size = s.length := strB_size s
          simp only [Instr.sliceAt, Sem.run_bind, run_underlying hu, Result.andThen_ok, Instr.slice, Option.isSome_none, Bool.false_eq_true, if_false, Sem.run_pure, hsz, hbd]
          congr 2
          show (ByteArray.mk (s.map UInt8.ofNat).toArray).extract L H = ByteArray.mk _
          rw [ByteArray.extract_mk, List.map_take, List.map_drop]
        · rw [take_eq, drop_eq]
        · intro z hz
          rw [take_eq, drop_eq] at hz
          exact hs256 z (List.mem_of_mem_drop (List.mem_of_mem_take hz))
      · cases hr
    · cases hr
  · cases hr
theorem ex_ok (hT : TV n β tm a) {x : A} {ix : Nat} {y : Operand} {d : D} {f : Ef} {nid : Pos} (hf : fitA x y = true) (hr : rd P nid (.ex x ix) tm hp = some (d, f)) :
    f = .no ∧ ∃ v, (Instr.extract (a.eval y) ix).run P w = .ok v w ∧ DV β d v := by
  simp only [rd] at hr
  split at hr
  · rename_i l hc
    obtain ⟨vs, hv, hal⟩ : DV β (.tup l) (a.eval y) := val_ok hT hf hc
    split at hr
    · rename_i xx hx
      rw [nth_eq] at hx
      cases hr
      obtain ⟨v, hvi, hxv⟩ := Al.get hal hx
      refine ⟨rfl, v, ?_, ?_⟩
      · rw [hv]
        rw [Array.getElem?_toList] at hvi
        simp only [Instr.extract, hvi, Sem.run_pure]
      · cases xx with
        | one c => exact hxv
        | ag l => exact hxv
    · cases hr
  · cases hr
theorem each_bytes {β : Blk} : ∀ {cs : List C} {l : List Nat} {vs : List Value}, each byteOf cs = some l → Al (CK β) cs vs → vs = l.map (fun b => Value.int .u8 ((UInt8.ofNat b).toNat : Int)) ∧ ∀ x ∈ l, x < 256 := by
  intro cs
  induction cs with
  | nil => intro l vs h ha; rw [each_nil] at h; cases h; cases ha; exact ⟨rfl, by simp⟩
  | cons c cs ih =>
    intro l vs h ha
    rw [each_cons] at h
    split at h
    · rename_i b hb
      split at h
      · rename_i bs hbs
        cases h
        cases ha with
        | cons hc ht =>
          obtain ⟨e, h256⟩ := ih hbs ht
          unfold byteOf at hb
          split at hb
          · rename_i m
            rw [brec'] at hb
            split at hb
            · rename_i hm
              rw [ble_iff] at hm
              cases hb
              have hv := hc.1
              simp only [CV] at hv
              refine ⟨?_, fun z hz => ?_⟩
              · rw [hv, e]
                simp only [List.map_cons, UInt8.toNat_ofNat']
                rw [Nat.mod_eq_of_lt (by omega)]
                rfl
              · rcases List.mem_cons.1 hz with rfl | hz
                · omega
                · exact h256 z hz
            · cases hb
          · cases hb
      · cases h
    · cases h
theorem for_bytes (P : Program) (w : World) : ∀ (l : List UInt8) (s : ByteArray),
    (forIn (m := Sem) (l.map fun b => Value.int .u8 (b.toNat : Int)) s (fun c r => do
      match c with
      | .int .u8 n => pure (ForInStep.yield (r.push (UInt8.ofNat n.toNat)))
      | _ => do let r ← (stuck "bytesToString: byte expected" : Sem ByteArray); pure (ForInStep.yield r))).run P w = .ok ⟨s.data ++ l.toArray⟩ w := by
  intro l
  induction l with
  | nil => intro s; simp
  | cons b l ih =>
    intro s
    simp only [List.map_cons, List.forIn_cons, Sem.run_bind, Sem.run_pure, Result.andThen_ok]
    rw [ih]
    congr 2
    simp [ByteArray.push]
end
end Go.Proofs.YtiahijhpjloijaaGreat.V
