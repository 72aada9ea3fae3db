/- Steps in the other order, calls among them; an object that a call does not know is nothing to it. -/
import Derived.Test.YtiahijhpjloijaaGreatF17
set_option linter.unusedVariables false
set_option linter.unusedSimpArgs false
namespace Go.Proofs.YtiahijhpjloijaaGreat.V
open Go Go.RowKit
theorem sameC_spec {x y : C} (h : sameC x y = true) : x = y := by
  unfold sameC at h
  split at h
  · simp only [brec'] at h
    split at h
    · rename_i hk
      rw [ieq_eq, decide_eq_true_iff] at h
      rw [kn_inj hk, h]
    · cases h
  · rename_i a b; cases a <;> cases b <;> first | rfl | cases h
  · rw [leq_eq, decide_eq_true_iff] at h; rw [h]
  · rw [beq_iff] at h; rw [h]
  · rfl
  · rfl
  · rfl
  · rfl
  · rfl
  · simp only [brec'] at h
    split at h
    · rename_i h1
      split at h
      · rename_i h2
        rw [beq_iff] at h h2
        rw [Pos.same_spec.1 h1, h2, h]
      · cases h
    · cases h
  · simp only [brec'] at h
    split at h
    · rename_i h1
      split at h
      · rename_i h2
        split at h
        · rename_i h3
          rw [beq_iff] at h h2 h3
          rw [Pos.same_spec.1 h1, h2, h3, h]
        · cases h
      · cases h
    · cases h
  · simp only [brec'] at h
    split at h
    · rename_i h1
      rw [beq_iff] at h
      rw [Pos.same_spec.1 h1, h]
    · cases h
  · cases h
theorem sameL_nil : sameL [] [] = true := rfl
theorem sameL_cons (x y : C) (l m : List C) : sameL (x :: l) (y :: m) = if sameC x y = true then sameL l m else false := by
  show (Bool.rec false (sameL l m) (sameC x y) : Bool) = _
  rw [brec']
theorem sameL_spec : ∀ {l m : List C}, sameL l m = true → l = m
  | [], [], _ => rfl
  | [], _ :: _, h => by cases h
  | _ :: _, [], h => by cases h
  | x :: l, y :: m, h => by
    rw [sameL_cons] at h
    split at h
    · rename_i hc; rw [sameC_spec hc, sameL_spec h]
    · cases h
/-- no float that is no number among what a call may have turned: then a list is like itself -/
theorem leaves_agree {a b : Tr Ob} {x : Acc} (h : leaves a b x = true) (hx : x.1 = false) : agree a b x := by
  obtain ⟨w, q, r⟩ := x
  have hx : w = false := hx
  subst hx
  cases r with
  | none =>
    simp only [leaves] at h
    split at h
    · rename_i e l f m h1 h2
      rw [brec'] at h
      split at h
      · rename_i he
        rw [beq_iff] at he
        have := sameL_spec h
        show Tr.get q a = Tr.get q b
        rw [h1, h2, he, this]
      · cases h
    · rename_i h1 h2; show Tr.get q a = Tr.get q b; rw [h1, h2]
    · cases h
  | some ok =>
    obtain ⟨o, k⟩ := ok
    simp only [leaves] at h
    split at h
    · rename_i e l f m h1 h2
      rw [brec'] at h
      split at h
      · rename_i he
        rw [brec'] at h
        split at h
        · rename_i hl
          rw [beq_iff] at he
          rw [beq_iff, len_eq, len_eq] at hl
          have := sameL_spec h
          rw [take_eq, drop_eq, take_eq, drop_eq] at this
          subst he
          exact .inr ⟨e, l, m, h1, h2, hl, this⟩
        · cases h
      · cases h
    · rename_i h1 h2; exact .inl (by rw [h1, h2])
    · cases h
inductive FtLe : Ft → Ft → Prop where
  | acc (l : List Acc) : FtLe (.acc l) (.acc l)
  | call {a b a' b' : Tr Ob} (h : ∀ x, leaves a b x = true → leaves a' b' x = true) : FtLe (.call a b) (.call a' b')
theorem FtLe.refl (f : Ft) : FtLe f f := by cases f with
  | acc l => exact .acc l
  | call a b => exact .call fun _ h => h
theorem FtLe.trans {f g h : Ft} (h1 : FtLe f g) (h2 : FtLe g h) : FtLe f h := by
  cases h1 with
  | acc l => exact h2
  | call k => cases h2 with
    | call k' => exact .call fun x hx => k' x (k x hx)
theorem clashes_mono {f f' g g' : Ft} (h1 : FtLe f f') (h2 : FtLe g g') (h : clashes f g = false) : clashes f' g' = false := by
  cases h1 with
  | acc l => cases h2 with
    | acc m => exact h
    | call k =>
      have := all_true (bnot h)
      show (Bool.rec true false (all _ _) : Bool) = false
      rw [all_of fun x hx => k x (this x hx)]
  | call k => cases h2 with
    | acc m =>
      have := all_true (bnot h)
      show (Bool.rec true false (all _ _) : Bool) = false
      rw [all_of fun x hx => k x (this x hx)]
    | call k' => cases h
section
variable {P : Program} {tm : Tr D} {hp h1 h2 : Tr Ob}
theorem foot_reads {nid : Pos} {i : I} (h : cls i ≤ 1) : ∀ x ∈ foot nid i tm, x.1 = false := by
  intro x hx
  have hC : ∀ c, ∀ z ∈ accC false c, z.1 = false := by
    intro c z hz
    cases c <;> simp [accC] at hz
    all_goals subst hz; rfl
  cases i <;> simp only [cls] at h <;> try (exfalso; omega)
  all_goals simp only [foot] at hx
  case ld k ag y =>
    split at hx
    · simp at hx; subst hx; rfl
    · cases hx
  case b2s y =>
    unfold accY at hx
    split at hx
    · exact hC _ x hx
    · cases hx
  all_goals cases hx
/-- more objects -/
def more (a b : Tr Ob) : Prop := ∀ q o, Tr.get q a = some o → Tr.get q b = some o
theorem objc_mono {a b : Tr Ob} (h : more a b) {q : Pos} {cs : List C} (ho : objc a q = some cs) : objc b q = some cs := by
  obtain ⟨e, hg⟩ := objc_eq ho
  exact objc_some (h q _ hg)
theorem elems_mono {a b : Tr Ob} (h : more a b) {c : C} {r : Nat × Nat × List C} (he : elems a c = some r) : elems b c = some r := by
  cases c <;> simp only [elems] at he ⊢ <;> try exact he
  case own id k n =>
    split at he
    · rename_i cs ho; rw [objc_mono h ho]; exact he
    · cases he
  case sl id k o n =>
    split at he
    · rename_i cs ho; rw [objc_mono h ho]; exact he
    · cases he
theorem grow_mono {a b : Tr Ob} (h : more a b) {nid : Pos} {e k b' m : Nat} {c : C} {cs : List C} {r : D × Ef} (hg : grow nid e k b' c m cs a = some r) : grow nid e k b' c m cs b = some r := by
  cases c <;> simp only [grow] at hg ⊢ <;> try exact hg
  case own id j n =>
    split at hg
    · rename_i e' old ho; rw [h id _ ho]; exact hg
    · cases hg
theorem rd_mono {a b : Tr Ob} (h : more a b) {nid : Pos} {i : I} {r : D × Ef} (hr : rd P nid i tm a = some r) : rd P nid i tm b = some r := by
  cases i <;> simp only [rd] at hr ⊢ <;> try exact hr
  case ld k ag x =>
    split at hr
    · rename_i id off hc
      split at hr
      · rename_i cs ho; rw [objc_mono h ho]; exact hr
      · cases hr
    · cases hr
  case st k x y =>
    split at hr
    · rename_i id off hc
      split at hr
      · rename_i cs ho; rw [objc_mono h ho]; exact hr
      · cases hr
    · cases hr
  case len s x => cases s <;> exact hr
  case ap e k b' x y =>
    split at hr
    · rename_i cx cy hx hy
      split at hr
      · rename_i k' m cs he
        rw [elems_mono h he]
        simp only [brec'] at hr ⊢
        split at hr
        · rename_i hm; rw [if_pos hm]; exact grow_mono h hr
        · cases hr
      · cases hr
    · cases hr
  case aps e b' x y =>
    split at hr
    · exact grow_mono h hr
    · cases hr
  case apz e k b' zs x y =>
    split at hr
    · rw [brec'] at hr ⊢
      split at hr
      · rename_i hm; rw [if_pos hm]; exact grow_mono h hr
      · cases hr
    · cases hr
  case b2s x =>
    split at hr
    · rename_i c hx
      split at hr
      · rename_i m cs he; rw [elems_mono h he]; exact hr
      · cases hr
    · cases hr
theorem more_set {id : Pos} {o : Ob} (h : Tr.get id hp = none) : more hp (Tr.set id o hp) := by
  intro q ob hq
  by_cases e : id = q
  · subst e; rw [h] at hq; cases hq
  · rw [Tr.get_set_ne _ _ e]; exact hq
theorem fit_keeps {nid : Pos} {f : Ef} {hp' : Tr Ob} (hf : fit nid f hp = some hp') : ∀ id, Tr.get id hp ≠ none → Tr.get id hp' ≠ none := by
  intro id hid
  have key : ∀ (q : Pos) (o : Ob) (g : Tr Ob), Tr.get id g ≠ none → Tr.get id (Tr.set q o g) ≠ none := by
    intro q o g hg
    by_cases e : q = id
    · subst e; rw [Tr.get_set_eq]; intro h; cases h
    · rw [Tr.get_set_ne _ _ e]; exact hg
  cases f with
  | no => cases hf; exact hid
  | new o => obtain ⟨_, rfl⟩ := fit_new hf; exact key _ _ _ hid
  | mv q o => obtain ⟨_, rfl⟩ := fit_mv hf; exact key _ _ _ (key _ _ _ hid)
  | st q off l =>
    simp only [fit] at hf
    split at hf
    · cases hf; exact key _ _ _ hid
    · cases hf
theorem fit_frame {nid : Pos} {f : Ef} {hp' : Tr Ob} (hf : fit nid f hp = some hp') {id : Pos} (o : Ob) (hn : Tr.get id hp' = none) : fit nid f (Tr.set id o hp) = some (Tr.set id o hp') := by
  cases f with
  | no => cases hf; rfl
  | new ob =>
    obtain ⟨h0, rfl⟩ := fit_new hf
    have hne : id ≠ nid := fun e => by subst e; rw [Tr.get_set_eq] at hn; cases hn
    simp only [fit, Tr.get_set_ne _ _ hne, h0]
    rw [Tr.set_comm _ _ _ hne]
  | mv q ob =>
    obtain ⟨h0, rfl⟩ := fit_mv hf
    have hne : id ≠ nid := fun e => by subst e; rw [Tr.get_set_eq] at hn; cases hn
    rw [Tr.get_set_ne _ _ (Ne.symm hne)] at hn
    have hne' : id ≠ q := fun e => by subst e; rw [Tr.get_set_eq] at hn; cases hn
    simp only [fit, Tr.get_set_ne _ _ hne, h0]
    rw [Tr.set_comm _ _ _ hne, Tr.set_comm _ _ _ hne']
  | st q off l =>
    simp only [fit] at hf
    split at hf
    · rename_i e cs hg
      cases hf
      have hne : id ≠ q := fun e => by subst e; rw [Tr.get_set_eq] at hn; cases hn
      simp only [fit, Tr.get_set_ne _ _ hne, hg]
      rw [Tr.set_comm _ _ _ hne]
    · cases hf
/-- an object that is new to it is nothing to a call -/
def Fr (O : Oracle) : Prop := ∀ f ds hp nx d hp' nx', O f ds hp nx = some (d, hp', nx') →
  (∀ id, Tr.get id hp ≠ none → Tr.get id hp' ≠ none) ∧ (∀ id e cs, Tr.get id hp' = none → O f ds (Tr.set id (.ob e cs) hp) nx = some (d, Tr.set id (.ob e cs) hp', nx'))
theorem none_of {id : Pos} {a b : Tr Ob} (h : ∀ id, Tr.get id a ≠ none → Tr.get id b ≠ none) (hb : Tr.get id b = none) : Tr.get id a = none := by
  cases ha : Tr.get id a with
  | none => rfl
  | some o => exact absurd hb (h id (by rw [ha]; intro h; cases h))
theorem stepD_frame {O : Oracle} (hO : Fr O) {base : Pos} {x : Ins} {nx nx' : Pos} {d : D} {hp' : Tr Ob} (h : stepD P O base x tm hp nx = some (d, hp', nx')) :
    (∀ id, Tr.get id hp ≠ none → Tr.get id hp' ≠ none) ∧ (∀ id e cs, Tr.get id hp' = none → stepD P O base x tm (Tr.set id (.ob e cs) hp) nx = some (d, Tr.set id (.ob e cs) hp', nx')) := by
  unfold stepD at h
  split at h
  · rename_i hg; cases h; exact ⟨fun _ h => h, fun id e cs _ => by unfold stepD; simp only [hg]⟩
  · cases h
  · rename_i hg
    split at h
    · rename_i f as hxo
      split at h
      · rename_i ds hds
        obtain ⟨k1, k2⟩ := hO f ds hp nx d hp' nx' h
        exact ⟨k1, fun id e cs hn => by unfold stepD; simp only [hg, hxo, hds]; exact k2 id e cs hn⟩
      · cases h
    · rename_i hxo
      split at h
      · rename_i d0 f hr
        split at h
        · rename_i hp0 hf
          cases h
          have keep := fit_keeps hf
          refine ⟨keep, fun id e cs hn => ?_⟩
          generalize Ob.ob e cs = o
          have h0 := none_of keep hn
          have hr' := rd_mono (more_set (o := o) h0) hr
          have hf' := fit_frame hf o hn
          unfold stepD
          simp only [hg]
          cases hxo' : x.op
          case call f as => exact absurd hxo' (hxo f as)
          all_goals
            rw [hxo'] at hr'
            simp only [hr', hf']
        · cases h
      · cases h
end
end Go.Proofs.YtiahijhpjloijaaGreat.V
