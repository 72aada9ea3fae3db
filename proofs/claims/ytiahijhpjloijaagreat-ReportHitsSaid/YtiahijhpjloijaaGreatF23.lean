/- Functions, and the evaluator as a whole: what it gives is what a call gives. -/
import Derived.Test.YtiahijhpjloijaaGreatF22
set_option linter.unusedVariables false
set_option linter.unusedSimpArgs false
namespace Go.Proofs.YtiahijhpjloijaaGreat.V
open Go Go.RowKit
noncomputable def fitPs : Nat → List Pos → Bool
  | _, [] => true
  | i, p :: l => Nat.beq p.num (i + 1) && fitPs (i + 1) l
noncomputable def fitR1 (P : Program) (n : Nat) : Rv → ResultVar → Bool
  | .tmp p, .tmp t => fitT n p t
  | .cell p k ag, .cell x t => fitT n p x && (szB P t k && (agB P t ag && Nat.blt 0 k))
  | _, _ => false
noncomputable def fitRs (P : Program) (n : Nat) : List Rv → List ResultVar → Bool
  | [], [] => true
  | r :: l, x :: m => fitR1 P n r x && fitRs P n l m
  | _, _ => false
/-- the evaluator's function is the program's -/
noncomputable def fitF (P : Program) (f : Func) (b : Fn) : Bool :=
  match f.body with
  | some c => fitPs 0 b.ps && (Nat.ble b.ps.length f.ntmps && (fitRs P f.ntmps b.rs f.results.toList && fitK P f.ntmps b.k c))
  | none => false
def rvRun (tmps : Array Value) : ResultVar → Sem Value
  | .tmp t => pure (tmps.getD t undef)
  | .cell a t => do loadVar t (← asAddr (tmps.getD a undef))
section
variable {P : Program} {O : Oracle}
theorem rv_ok {n : Nat} {β : Blk} {s : St} {a : Act} {w : World} (hR : R n β s a w) {r : Rv} {x : ResultVar} {d : D} (hf : fitR1 P n r x = true) (h : rv s r = some d) :
    ∃ v, (rvRun a.tmps x).run P w = .ok v w ∧ DV β d v := by
  cases r with
  | tmp p => cases x with
    | tmp t =>
      simp only [fitR1, fitT, Bool.and_eq_true, beq_iff, blt_iff] at hf
      have := hR.tm.val p d h
      rw [hf.1] at this
      exact ⟨_, rfl, this⟩
    | cell y t => cases hf
  | cell p k ag => cases x with
    | tmp t => cases hf
    | cell y t =>
      simp only [fitR1, fitT, Bool.and_eq_true, beq_iff, blt_iff] at hf
      obtain ⟨⟨hp, hlt⟩, hs, hg, hk⟩ := hf
      simp only [rv] at h
      split at h
      · rename_i id off hq
        have hv := hR.tm.val p _ hq
        rw [hp] at hv
        obtain ⟨b, sz, hb, hv⟩ : CV β (.loc id off) (a.tmps.getD (y + 1 - 1) undef) := hv
        rw [Nat.add_sub_cancel] at hv
        split at h
        · rename_i cs ho
          rw [brec'] at h
          split at h
          · rename_i hlen
            rw [beq_iff, len_eq, take_eq, drop_eq] at hlen
            rw [take_eq, drop_eq] at h
            obtain ⟨i, hi, hik⟩ := szB_ok hs
            obtain ⟨b', sz', vs, hb', hvl, hal, hcell⟩ := objc_seg hR.hp ho off k hk hlen
            obtain ⟨rfl, _⟩ := CV.blk hb hb'
            obtain ⟨v, hrun, hdv⟩ := load_ok (a := ⟨b, off, none⟩) (w := w) hg hi hik hvl hal hcell h
            refine ⟨v, ?_, hdv⟩
            simp only [rvRun, hv, asAddr, Sem.run_bind, Sem.run_pure, Result.andThen_ok, hrun]
          · cases h
        · cases h
      · cases h
theorem rvs_ok {n : Nat} {β : Blk} {s : St} {a : Act} {w : World} (hR : R n β s a w) : ∀ {rs : List Rv} {xs : List ResultVar} {ds : List D}, fitRs P n rs xs = true → each (rv s) rs = some ds →
    ∃ vs, (xs.mapM (rvRun a.tmps)).run P w = .ok vs w ∧ Al (DV β) ds vs
  | [], [], ds, _, h => by rw [each_nil] at h; cases h; exact ⟨[], rfl, .nil⟩
  | [], _ :: _, _, h, _ => by cases h
  | _ :: _, [], _, h, _ => by cases h
  | r :: rs, x :: xs, ds, hf, h => by
    simp only [fitRs, Bool.and_eq_true] at hf
    rw [each_cons] at h
    split at h
    · rename_i d hd
      split at h
      · rename_i ds' hds
        cases h
        obtain ⟨v, h1, h2⟩ := rv_ok hR hf.1 hd
        obtain ⟨vs, h3, h4⟩ := rvs_ok hR hf.2 hds
        refine ⟨v :: vs, ?_, .cons h2 h4⟩
        simp only [List.mapM_cons, Sem.run_bind, h1, Result.andThen_ok, h3, Sem.run_pure]
      · cases h
    · cases h
theorem toX_ok {β : Blk} {d : D} {x : X} {v : Value} (h : toX d = some x) (hd : DV β d v) : XV β x v := by
  cases d <;> simp only [toX] at h <;> cases h <;> exact hd
theorem toXs_ok {β : Blk} : ∀ {ds : List D} {xs : List X} {vs : List Value}, each toX ds = some xs → Al (DV β) ds vs → Al (XV β) xs vs
  | [], xs, vs, h, ha => by rw [each_nil] at h; cases h; cases ha; exact .nil
  | d :: ds, xs, vs, h, ha => by
    rw [each_cons] at h
    split at h
    · rename_i x hx
      split at h
      · rename_i xs' hxs
        cases h
        cases ha with
        | cons hd ht => exact .cons (toX_ok hx hd) (toXs_ok hxs ht)
      · cases h
    · cases h
theorem ends_ok {n : Nat} {β : Blk} {s : St} {a : Act} {w : World} (hR : R n β s a w) {b : Fn} {fn : Func} {d : D} {hp' : Tr Ob} {nx' : Pos} (hf : fitRs P n b.rs fn.results.toList = true) (h : ends b s = some (d, hp', nx')) :
    hp' = s.hp ∧ ∃ v, (results fn a.tmps).run P w = .ok v w ∧ DV β d v := by
  have hrun : ∀ vs : List Value, (fn.results.toList.mapM (rvRun a.tmps)).run P w = .ok vs w → (results fn a.tmps).run P w = .ok (if h : vs.toArray.size = 1 then vs.toArray[0] else .tuple vs.toArray) w := by
    intro vs hvs
    have e : results fn a.tmps = (do let vs ← fn.results.mapM (rvRun a.tmps); pure (if h : vs.size = 1 then vs[0] else .tuple vs)) := by
      unfold results
      congr 1
    rw [e, Sem.run_bind, Array.mapM_eq_mapM_toList]
    simp only [Sem.run_map, hvs, Result.andThen_ok, Sem.run_pure]
  unfold ends at h
  split at h
  · rename_i d' hd
    cases h
    obtain ⟨vs, h1, h2⟩ := rvs_ok hR hf hd
    refine ⟨rfl, ?_⟩
    cases h2 with
    | cons hdv ht => cases ht with
      | nil => exact ⟨_, hrun _ h1, hdv⟩
  · rename_i ds hne hds
    split at h
    · rename_i xs hxs
      cases h
      obtain ⟨vs, h1, h2⟩ := rvs_ok hR hf hds
      refine ⟨rfl, .tuple vs.toArray, ?_, vs.toArray, rfl, toXs_ok hxs h2⟩
      rw [hrun _ h1]
      have hlen : vs.toArray.size ≠ 1 := by
        intro hl
        have hl2 : ds.length = 1 := by rw [Al.len h2]; simpa using hl
        match ds, hl2 with
        | [d0], _ => exact hne d0 rfl
      rw [dif_neg hlen]
    · cases h
  · cases h
theorem pars_ok {β : Blk} {vs : Array Value} {m : Nat} : ∀ {ps : List Pos} {ds : List D} {tm tm' : Tr D} {k : Nat}, fitPs k ps = true → pars ps ds tm = some tm' → Al (DV β) ds (vs.toList.drop k) → ps.length ≤ m →
    (∀ p d, Tr.get p tm = some d → DV β d ((vs ++ Array.replicate m undef).getD (p.num - 1) undef)) → (∀ p d, Tr.get p tm' = some d → DV β d ((vs ++ Array.replicate m undef).getD (p.num - 1) undef)) ∧ ps.length = ds.length
  | [], ds, tm, tm', k, _, h, _, _, hv => by
    cases ds with
    | nil => have h : some tm = some tm' := h; cases h; exact ⟨hv, rfl⟩
    | cons d ds => have h : none = some tm' := h; cases h
  | p :: ps, [], tm, tm', k, _, h, _, _, _ => by have h : none = some tm' := h; cases h
  | p :: ps, d :: ds, tm, tm', k, hf, h, ha, hm, hv => by
    simp only [fitPs, Bool.and_eq_true, beq_iff] at hf
    have h : pars ps ds (Tr.set p d tm) = some tm' := h
    have hk : ∃ v, vs[k]? = some v ∧ DV β d v := by
      obtain ⟨v, hv, hd⟩ := Al.get (i := 0) ha (x := d) rfl
      rw [List.getElem?_drop, Array.getElem?_toList] at hv
      exact ⟨v, hv, hd⟩
    have ht : Al (DV β) ds (vs.toList.drop (k + 1)) := by
      rw [show vs.toList.drop (k + 1) = (vs.toList.drop k).drop 1 from by rw [List.drop_drop]]
      exact Al.drop 1 ha
    obtain ⟨h1, h2⟩ := pars_ok (m := m) hf.2 h ht (by simp at hm; omega) (fun q d' hq => by
      by_cases e : p = q
      · subst e
        rw [Tr.get_set_eq] at hq; cases hq
        obtain ⟨v, hv, hd⟩ := hk
        rw [hf.1, Nat.add_sub_cancel]
        have hlt : k < vs.size := (Array.getElem?_eq_some_iff.1 hv).1
        have : (vs ++ Array.replicate m undef).getD k undef = v := by
          have h1 : (vs ++ Array.replicate m undef)[k]? = some v := by rw [Array.getElem?_append_left hlt]; exact hv
          rw [Array.getD_eq_getD_getElem?, h1]; rfl
        rw [this]; exact hd
      · rw [Tr.get_set_ne _ _ e] at hq; exact hv q d' hq)
    exact ⟨h1, by simp [h2]⟩
end
end Go.Proofs.YtiahijhpjloijaaGreat.V
