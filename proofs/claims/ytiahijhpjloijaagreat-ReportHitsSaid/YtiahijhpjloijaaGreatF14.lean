/- Regions in the text's order, control, what a function returns. -/
import Derived.Test.YtiahijhpjloijaaGreatF13
set_option linter.unusedVariables false
set_option linter.unusedSimpArgs false
namespace Go.Proofs.YtiahijhpjloijaaGreat.V
open Go Go.RowKit
theorem orec {α γ : Type} (x : γ) (g : α → γ) (o : Option α) : (@Option.rec α (fun _ => γ) x g o) = match o with | none => x | some v => g v := by cases o <;> rfl
theorem outrec {γ : Type} (p : St → γ) (q : Nat → St → γ) (r : St → γ) (x : γ) (o : Out) :
    (@Out.rec (fun _ => γ) p q r x o) = match o with | .norm s => p s | .exit j s => q j s | .ret s => r s | .no => x := by cases o <;> rfl
theorem steps_nil (P : Program) (O : Oracle) (base : Pos) (s : St) : steps P O base [] s = some s := rfl
theorem steps_cons (P : Program) (O : Oracle) (base : Pos) (x : Ins) (l : List Ins) (s : St) : steps P O base (x :: l) s = match step1 P O base x s with | some s' => steps P O base l s' | none => none := by
  show (@Option.rec St (fun _ => Option St) none (fun s => steps P O base l s) (step1 P O base x s)) = _
  rw [orec]
  cases step1 P O base x s <;> rfl
noncomputable def fitBl (P : Program) (n : Nat) (ops : Array Oper) : List Ins → List Oper → Bool
  | [], [] => true
  | x :: l, o :: m => fitIns P n ops x o && fitBl P n ops l m
  | _, _ => false
section
variable {P : Program} {n : Nat} {β : Blk} {a : Act} {w : World}
theorem steps_ok {O : Oracle} (hO : Good P O) {base : Pos} {ops : Array Oper} {Q : Exit → Act → World → Prop} : ∀ {l : List Ins} {k : Nat} {s s' : St} {β : Blk} {a : Act} {w : World},
    fitBl P n ops l (ops.toList.drop k) = true → k ≤ ops.size → steps P O base l s = some s' → R n β s a w → (∀ β' a' w', R n β' s' a' w' → Mv β w β' w' → Q .normal a' w') →
    wpOps P ops Q (List.range' k (ops.size - k)) a w
  | [], k, s, s', β, a, w, hf, hk, hs, hR, hQ => by
    have hlen : ops.toList.drop k = [] := by
      cases hd : ops.toList.drop k with
      | nil => rfl
      | cons o m => rw [hd] at hf; cases hf
    have h0 : ops.size - k = 0 := by
      have := congrArg List.length hlen
      simpa using this
    rw [h0]
    cases hs
    exact hQ β a w hR (Mv.refl _ _)
  | x :: l, k, s, s', β, a, w, hf, hk, hs, hR, hQ => by
    cases hd : ops.toList.drop k with
    | nil => rw [hd] at hf; cases hf
    | cons o m =>
      rw [hd] at hf
      simp only [fitBl, Bool.and_eq_true] at hf
      have hlt : k < ops.size := by
        have := congrArg List.length hd
        simp at this
        omega
      have ho : ops[k]? = some o := by
        have h1 : (ops.toList.drop k)[0]? = some o := by rw [hd]; rfl
        rw [List.getElem?_drop] at h1
        simpa using h1
      have hm : ops.toList.drop (k + 1) = m := by
        have : (ops.toList.drop k).drop 1 = m := by rw [hd]; rfl
        rw [List.drop_drop] at this
        exact this
      rw [show ops.size - k = (ops.size - (k + 1)) + 1 from by omega, List.range'_succ, wpOps_cons]
      rw [steps_cons] at hs
      split at hs
      · rename_i s1 hs1
        refine step1_ok hO ho hf.1 hs1 hR (fun β' a' w' hR' hm' => ?_)
        exact steps_ok hO (by rw [hm]; exact hf.2) (by omega) hs hR' (fun β'' a'' w'' hR'' hm'' => hQ β'' a'' w'' hR'' (hm'.trans hm''))
      · cases hs
def post (n : Nat) (β : Blk) (w : World) (out : Out) : Exit → Act → World → Prop
  | .normal, a', w' => ∃ β' s', out = .norm s' ∧ R n β' s' a' w' ∧ Mv β w β' w'
  | .exit j, a', w' => ∃ β' s', out = .exit j s' ∧ R n β' s' a' w' ∧ Mv β w β' w'
  | .ret, a', w' => ∃ β' s', out = .ret s' ∧ R n β' s' a' w' ∧ Mv β w β' w'
  | _, _, _ => False
theorem post_from {β β' : Blk} {w w' : World} {out : Out} (hm : Mv β w β' w') : ∀ {e a'' w''}, post n β' w' out e a'' w'' → post n β w out e a'' w'' := by
  intro e a'' w'' h
  cases e with
  | normal => obtain ⟨β'', s', h1, h2, h3⟩ := h; exact ⟨β'', s', h1, h2, hm.trans h3⟩
  | exit j => obtain ⟨β'', s', h1, h2, h3⟩ := h; exact ⟨β'', s', h1, h2, hm.trans h3⟩
  | ret => obtain ⟨β'', s', h1, h2, h3⟩ := h; exact ⟨β'', s', h1, h2, hm.trans h3⟩
  | goto l => exact h.elim
  | panic c => exact h.elim
  | outgrown => exact h.elim
/-- one round and the rest of the loop -/
theorem wp_loop_step {c : Code} {Q : Exit → Act → World → Prop} {L : Act → World → Prop}
    (hL : ∀ a w, L a w → ∀ (b : Frame) (k : List Item) (cs : List Frame), ∃ e a' w', Q e a' w' ∧ Arrives P (Go.lone (b.at a (.code c :: .inLoop c :: k)) cs w) b k cs e a' w')
    (h : c.wp P (Exit.then L Q) a w) : ∀ (b : Frame) (k : List Item) (cs : List Frame), ∃ e a' w', Q e a' w' ∧ Arrives P (Go.lone (b.at a (.code c :: .inLoop c :: k)) cs w) b k cs e a' w' := by
  intro b k cs
  obtain ⟨e, a₁, w₁, hq, harr⟩ := h b (.inLoop c :: k) cs
  cases e with
  | normal =>
    obtain ⟨e₂, a₂, w₂, hq₂, harr₂⟩ := hL a₁ w₁ hq b k cs
    exact ⟨e₂, a₂, w₂, hq₂, .of_steps (Steps.trans harr (.one step_inLoop)) harr₂⟩
  | exit id => exact ⟨_, a₁, w₁, hq, .pass (x := .inLoop c) rfl (fun _ _ => .inl (by simp)) harr⟩
  | goto l => exact ⟨_, a₁, w₁, hq, .pass (x := .inLoop c) rfl (fun _ _ => .inl (by simp)) harr⟩
  | ret => exact ⟨_, a₁, w₁, hq, .pass (x := .inLoop c) rfl (fun _ _ => .inl (by simp)) harr⟩
  | panic ch => exact ⟨_, a₁, w₁, hq, .pass (x := .inLoop c) rfl (fun _ _ => .inl (by simp)) harr⟩
  | outgrown => exact ⟨_, a₁, w₁, hq, .pass (x := .inLoop c) rfl (fun _ _ => .inl (by simp)) harr⟩
theorem iter_succ (g : St → Out) (m : Nat) (s : St) : iter g (m + 1) s = match g s with | .norm s' => iter g m s' | .exit j s' => .exit j s' | .ret s' => .ret s' | .no => .no := by
  show (@Out.rec (fun _ => Out) (fun s => iter g m s) (fun j s => .exit j s) (fun s => .ret s) .no (g s)) = _
  rw [outrec]
theorem loop_ok {c : Code} {g : St → Out} (hc : ∀ {s : St} {β : Blk} {a : Act} {w : World}, g s ≠ .no → R n β s a w → c.wp P (post n β w (g s)) a w) :
    ∀ (m : Nat) {s : St} {β : Blk} {a : Act} {w : World}, iter g m s ≠ .no → R n β s a w →
      ∀ (b : Frame) (k : List Item) (cs : List Frame), ∃ e a' w', post n β w (iter g m s) e a' w' ∧ Arrives P (Go.lone (b.at a (.code c :: .inLoop c :: k)) cs w) b k cs e a' w'
  | 0, s, β, a, w, hno, hR => absurd rfl hno
  | m + 1, s, β, a, w, hno, hR => by
    rw [iter_succ] at hno ⊢
    have hgs : g s ≠ .no := fun h => by rw [h] at hno; exact hno rfl
    have h1 := hc hgs hR
    refine wp_loop_step (L := fun a' w' => ∃ β' s', g s = .norm s' ∧ R n β' s' a' w' ∧ Mv β w β' w') ?_ ?_
    · rintro a' w' ⟨β', s', hg, hR', hm⟩ b k cs
      rw [hg] at hno ⊢
      obtain ⟨e, a'', w'', hp, harr⟩ := loop_ok hc m hno hR' b k cs
      exact ⟨e, a'', w'', post_from hm hp, harr⟩
    · refine wp_mono h1 (fun e a' w' hp => ?_)
      cases e with
      | normal => exact hp
      | exit j => obtain ⟨β', s', hg, r⟩ := hp; rw [hg]; exact ⟨β', s', rfl, r⟩
      | ret => obtain ⟨β', s', hg, r⟩ := hp; rw [hg]; exact ⟨β', s', rfl, r⟩
      | goto l => exact hp
      | panic ch => exact hp
      | outgrown => exact hp
end
end Go.Proofs.YtiahijhpjloijaaGreat.V
