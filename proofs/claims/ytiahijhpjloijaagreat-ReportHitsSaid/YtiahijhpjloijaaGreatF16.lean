/- Operations that may be done in another order: objects. -/
import Derived.Test.YtiahijhpjloijaaGreatF15
set_option linter.unusedVariables false
set_option linter.unusedSimpArgs false
namespace Go.Proofs.YtiahijhpjloijaaGreat.V
open Go Go.RowKit
/-- 0: no objects; 1: reads; 2: makes one; 3: writes; 4: a call -/
def cls : I → Nat
  | .ld .. | .b2s _ => 1
  | .alloc .. | .box .. | .bsl .. | .mk .. | .s2b .. => 2
  | .st .. | .ap .. | .aps .. | .apz .. => 3
  | .call .. => 4
  | _ => 0
def agree (a b : Tr Ob) : Acc → Prop
  | (_, q, none) => Tr.get q a = Tr.get q b
  | (_, q, some (o, k)) => Tr.get q a = Tr.get q b ∨ ∃ e cs ds, Tr.get q a = some (.ob e cs) ∧ Tr.get q b = some (.ob e ds) ∧ cs.length = ds.length ∧ (cs.drop o).take k = (ds.drop o).take k
section
variable {P : Program} {tm : Tr D} {a b : Tr Ob}
theorem objc_of {q : Pos} (h : Tr.get q a = Tr.get q b) : objc a q = objc b q := by unfold objc; rw [h]
theorem objc_some {q : Pos} {e : Nat} {cs : List C} (h : Tr.get q a = some (.ob e cs)) : objc a q = some cs := by unfold objc; rw [h]
theorem agree_all {w : Bool} {q : Pos} (h : agree a b (w, q, none)) : Tr.get q a = Tr.get q b := h
theorem elems_congr {c : C} (h : ∀ x ∈ accC false c, agree a b x) : elems a c = elems b c := by
  cases c <;> simp only [elems] <;> try rfl
  case own id k n => rw [objc_of (agree_all (h (false, id, none) (by simp [accC])))]
  case sl id k o n => rw [objc_of (agree_all (h (false, id, none) (by simp [accC])))]
theorem grow_congr {nid : Pos} {e k b' m : Nat} {c : C} {cs : List C} (h : ∀ x ∈ accC true c, agree a b x) : grow nid e k b' c m cs a = grow nid e k b' c m cs b := by
  cases c <;> simp only [grow] <;> try rfl
  case own id j n => rw [agree_all (h (true, id, none) (by simp [accC]))]
theorem rd_agree {nid : Pos} {i : I} (h : ∀ x ∈ foot nid i tm, agree a b x) : rd P nid i tm a = rd P nid i tm b := by
  cases i <;> simp only [rd] <;> try rfl
  case ld k ag x =>
    simp only [foot] at h
    split
    · rename_i id off hc
      simp only [hc] at h
      rcases h _ (List.mem_singleton.2 rfl) with h | ⟨e, cs, ds, h1, h2, h3, h4⟩
      · rw [objc_of h]
      · rw [objc_some h1, objc_some h2]
        simp only [take_eq, drop_eq, h4]
    · rfl
  case st k x y =>
    simp only [foot] at h
    split
    · rename_i id off hc
      simp only [hc] at h
      rcases h _ (List.mem_singleton.2 rfl) with h | ⟨e, cs, ds, h1, h2, h3, h4⟩
      · rw [objc_of h]
      · rw [objc_some h1, objc_some h2]
        simp only [len_eq, h3]
    · rfl
  case len s x => cases s <;> rfl
  case ap e k b' x y =>
    simp only [foot, app_eq] at h
    split
    · rename_i cx cy hx hy
      have h1 : ∀ z ∈ accC true cx, agree a b z := fun z hz => h z (List.mem_append_left _ (by unfold accX; rw [hx]; exact List.mem_cons_of_mem _ hz))
      have h2 : ∀ z ∈ accC false cy, agree a b z := fun z hz => h z (List.mem_append_right _ (by unfold accY; rw [hy]; exact hz))
      rw [elems_congr h2]
      split
      · rw [grow_congr h1]
      · rfl
    · rfl
  case aps e b' x y =>
    simp only [foot] at h
    split
    · rename_i cx l hx hy
      exact grow_congr (fun z hz => h z (by unfold accX; rw [hx]; exact List.mem_cons_of_mem _ hz))
    · rfl
  case apz e k b' zs x y =>
    simp only [foot] at h
    split
    · rename_i cx kk m hx hy
      rw [grow_congr (fun z hz => h z (by unfold accX; rw [hx]; exact List.mem_cons_of_mem _ hz))]
    · rfl
  case b2s x =>
    simp only [foot] at h
    split
    · rename_i c hx
      rw [elems_congr (fun z hz => h z (by unfold accY; rw [hx]; exact hz))]
    · rfl
/-- what is written is among what is touched -/
def within (nid : Pos) (f : Ef) (l : List Acc) : Prop :=
  match f with
  | .no => True
  | .new _ => (true, nid, none) ∈ l
  | .st id off cs => (true, id, some (off, cs.length)) ∈ l
  | .mv id _ => (true, nid, none) ∈ l ∧ (true, id, none) ∈ l
theorem grow_ef {nid : Pos} {e k b' m : Nat} {c : C} {cs : List C} {d : D} {f : Ef} (h : grow nid e k b' c m cs a = some (d, f)) : within nid f ((true, nid, none) :: accC true c) ∧ (∀ o, f = .new o → ∃ l, o = .ob e l) := by
  unfold grow at h
  split at h
  · split at h
    · rw [brec'] at h
      split at h
      · cases h; exact ⟨⟨List.mem_cons_self, by simp [accC]⟩, fun o ho => by cases ho⟩
      · cases h
    · cases h
  · split at h
    · cases h; exact ⟨trivial, fun o ho => by cases ho⟩
    · rw [brec'] at h
      split at h
      · cases h; exact ⟨List.mem_cons_self, fun o ho => by cases ho; exact ⟨_, rfl⟩⟩
      · cases h
  · cases h
theorem rd_ef {nid : Pos} {i : I} {d : D} {f : Ef} (h : rd P nid i tm a = some (d, f)) :
    within nid f (foot nid i tm) ∧ (cls i ≤ 1 → f = .no) ∧ (cls i = 2 → ∃ e l, f = .new (.ob e l)) ∧ ((∃ id off l, f = .st id off l) ∨ (∃ id o, f = .mv id o) → cls i = 3) := by
  have pure0 : ∀ {i : I} {f : Ef}, f = .no → cls i ≠ 2 → within nid f (foot nid i tm) ∧ (cls i ≤ 1 → f = .no) ∧ (cls i = 2 → ∃ e l, f = .new (.ob e l)) ∧ ((∃ id off l, f = .st id off l) ∨ (∃ id o, f = .mv id o) → cls i = 3) := by
    intro i f hf hne
    subst hf
    exact ⟨trivial, fun _ => rfl, fun h => absurd h hne, fun h => by rcases h with ⟨_, _, _, h⟩ | ⟨_, _, h⟩ <;> cases h⟩
  cases i
  case alloc e zs => simp only [rd] at h; cases h; exact ⟨List.mem_singleton.2 rfl, fun h => absurd h (by simp [cls]), fun _ => ⟨_, _, rfl⟩, fun h => by rcases h with ⟨_, _, _, h⟩ | ⟨_, _, h⟩ <;> cases h⟩
  case box e k x =>
    simp only [rd] at h
    split at h
    · rw [brec'] at h
      split at h
      · cases h; exact ⟨List.mem_singleton.2 rfl, fun h => absurd h (by simp [cls]), fun _ => ⟨_, _, rfl⟩, fun h => by rcases h with ⟨_, _, _, h⟩ | ⟨_, _, h⟩ <;> cases h⟩
      · cases h
    · cases h
  case bsl e k n zs ps =>
    simp only [rd] at h
    split at h
    · cases h; exact ⟨List.mem_singleton.2 rfl, fun h => absurd h (by simp [cls]), fun _ => ⟨_, _, rfl⟩, fun h => by rcases h with ⟨_, _, _, h⟩ | ⟨_, _, h⟩ <;> cases h⟩
    · cases h
  case mk e k n zs => simp only [rd] at h; cases h; exact ⟨List.mem_singleton.2 rfl, fun h => absurd h (by simp [cls]), fun _ => ⟨_, _, rfl⟩, fun h => by rcases h with ⟨_, _, _, h⟩ | ⟨_, _, h⟩ <;> cases h⟩
  case s2b e x =>
    simp only [rd] at h
    split at h
    · cases h; exact ⟨List.mem_singleton.2 rfl, fun h => absurd h (by simp [cls]), fun _ => ⟨_, _, rfl⟩, fun h => by rcases h with ⟨_, _, _, h⟩ | ⟨_, _, h⟩ <;> cases h⟩
    · cases h
  case st k x y =>
    simp only [rd] at h
    split at h
    · rename_i id off hc
      split at h
      · split at h
        · rename_i l hl
          rw [brec'] at h
          split at h
          · rename_i hcond
            cases h
            refine ⟨?_, fun h => absurd h (by simp [cls]), fun h => absurd h (by simp [cls]), fun _ => rfl⟩
            rw [brec'] at hcond
            split at hcond
            · rename_i hk
              rw [beq_iff, len_eq] at hk
              simp only [foot, hc, within, hk]
              exact List.mem_singleton.2 rfl
            · cases hcond
          · cases h
        · cases h
      · cases h
    · cases h
  case ap e k b' x y =>
    simp only [rd] at h
    split at h
    · rename_i cx cy hx hy
      split at h
      · rw [brec'] at h
        split at h
        · obtain ⟨h1, h2⟩ := grow_ef h
          refine ⟨?_, fun h => absurd h (by simp [cls]), fun h => absurd h (by simp [cls]), fun _ => rfl⟩
          have hsub : ∀ z ∈ ((true, nid, none) :: accC true cx), z ∈ foot nid (.ap e k b' x y) tm := fun z hz => by
            simp only [foot, app_eq]; exact List.mem_append_left _ (by unfold accX; rw [hx]; exact hz)
          cases f with
          | no => trivial
          | new o => exact hsub _ h1
          | st id off l => exact hsub _ h1
          | mv id o => exact ⟨hsub _ h1.1, hsub _ h1.2⟩
        · cases h
      · cases h
    · cases h
  case aps e b' x y =>
    simp only [rd] at h
    split at h
    · rename_i cx l hx hy
      obtain ⟨h1, h2⟩ := grow_ef h
      refine ⟨?_, fun h => absurd h (by simp [cls]), fun h => absurd h (by simp [cls]), fun _ => rfl⟩
      have hsub : ∀ z ∈ ((true, nid, none) :: accC true cx), z ∈ foot nid (.aps e b' x y) tm := fun z hz => by
        simp only [foot]; unfold accX; rw [hx]; exact hz
      cases f with
      | no => trivial
      | new o => exact hsub _ h1
      | st id off l => exact hsub _ h1
      | mv id o => exact ⟨hsub _ h1.1, hsub _ h1.2⟩
    · cases h
  case apz e k b' zs x y =>
    simp only [rd] at h
    split at h
    · rename_i cx kk m hx hy
      rw [brec'] at h
      split at h
      · obtain ⟨h1, h2⟩ := grow_ef h
        refine ⟨?_, fun h => absurd h (by simp [cls]), fun h => absurd h (by simp [cls]), fun _ => rfl⟩
        have hsub : ∀ z ∈ ((true, nid, none) :: accC true cx), z ∈ foot nid (.apz e k b' zs x y) tm := fun z hz => by
          simp only [foot]; unfold accX; rw [hx]; exact hz
        cases f with
        | no => trivial
        | new o => exact hsub _ h1
        | st id off l => exact hsub _ h1
        | mv id o => exact ⟨hsub _ h1.1, hsub _ h1.2⟩
      · cases h
    · cases h
  case call g as => simp only [rd] at h; cases h
  case len s x =>
    refine pure0 ?_ (by simp [cls])
    cases s <;> simp only [rd] at h <;> (repeat' split at h) <;> first | (cases h; rfl) | cases h
  all_goals
    refine pure0 ?_ (by simp [cls])
    simp only [rd, brec'] at h
    (repeat' split at h) <;> first | (cases h; rfl) | cases h
end
end Go.Proofs.YtiahijhpjloijaaGreat.V
