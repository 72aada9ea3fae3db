/- Numbering what is handed; answers that are known. -/
import Derived.Test.YtiahijhpjloijaaGreatF26
set_option linter.unusedVariables false
set_option linter.unusedSimpArgs false
namespace Go.Proofs.YtiahijhpjloijaaGreat.V
open Go Go.RowKit
/-- the object that a cell leads to -/
def idC : C → Option Pos
  | .own p _ _ => some p
  | .sl p _ _ _ => some p
  | .loc p _ => some p
  | _ => none
abbrev Fo := Pos × Pos × Nat × List C
/-- the objects that these cells lead to, numbered from here on -/
noncomputable def walk (hp : Tr Ob) (n : Nat) : List C → Tr Pos → Pos → List Fo → Option (Tr Pos × Pos × List Fo) :=
  Nat.rec (fun _ _ _ _ => none) (fun _ ih l τ nx acc =>
    match l with
    | [] => some (τ, nx, acc)
    | c :: l => match idC c with
      | none => ih l τ nx acc
      | some p => match Tr.get p τ with
        | some _ => ih l τ nx acc
        | none => match Tr.get p hp with
          | some (.ob e cs) => ih (app cs l) (Tr.set p nx τ) (Pos.succ nx) ((p, nx, e, cs) :: acc)
          | _ => none) n
noncomputable def flatX (l : List X) : List C := List.rec [] (fun x _ ih => X.rec (fun c => c :: ih) (fun m => app m ih) x) l
noncomputable def flat1 (d : D) : List C := D.rec (fun c => [c]) (fun l => l) (fun l => flatX l) d
noncomputable def flat (l : List D) : List C := List.rec [] (fun d _ ih => app (flat1 d) ih) l
noncomputable def can (fuel : Nat) (ds : List D) (hp : Tr Ob) : Option (List D × List En × Pos) :=
  match walk hp fuel (flat ds) .e .h [] with
  | some (τ, nx, acc) => (match each (renD τ) ds, each (fun x : Fo => match each (renC τ) x.2.2.2 with | some cs => some (x.2.1, x.1, Ob.ob x.2.2.1 cs) | none => none) acc with
    | some ds0, some en => some (ds0, en, nx)
    | _, _ => none)
  | none => none
noncomputable def lay (fuel : Nat) (σ : Tr Pos) (nx : Pos) (d : D) (h2 : Tr Ob) : Option (D × List En × Pos) :=
  match walk h2 fuel (flat1 d) σ nx [] with
  | some (σ2, nx', acc) => (match renD σ2 d, each (fun x : Fo => match each (renC σ2) x.2.2.2 with | some cs => some (x.1, x.2.1, Ob.ob x.2.2.1 cs) | none => none) acc with
    | some d', some ne => some (d', ne, nx')
    | _, _ => none)
  | none => none
noncomputable def subO (fuel : Nat) (O : Oracle) : Oracle := fun f ds hp nx =>
  match can fuel ds hp with
  | some (ds0, en, nxs) => sub1 O f ds hp nx ds0 en nxs (lay fuel (up en .e) nx)
  | none => none
section
variable {P : Program} {O : Oracle}
theorem walk_succ (hp : Tr Ob) (n : Nat) (l : List C) (τ : Tr Pos) (nx : Pos) (acc : List Fo) : walk hp (n + 1) l τ nx acc =
    match l with
    | [] => some (τ, nx, acc)
    | c :: l => match idC c with
      | none => walk hp n l τ nx acc
      | some p => match Tr.get p τ with
        | some _ => walk hp n l τ nx acc
        | none => match Tr.get p hp with
          | some (.ob e cs) => walk hp n (app cs l) (Tr.set p nx τ) (Pos.succ nx) ((p, nx, e, cs) :: acc)
          | _ => none := rfl
theorem walk_mono {a b : Tr Ob} (h : more a b) : ∀ {n : Nat} {l : List C} {τ : Tr Pos} {nx : Pos} {acc : List Fo} {r : Tr Pos × Pos × List Fo}, walk a n l τ nx acc = some r → walk b n l τ nx acc = some r
  | 0, _, _, _, _, _, h => by cases h
  | n + 1, l, τ, nx, acc, r, hw => by
    rw [walk_succ] at hw ⊢
    cases l with
    | nil => exact hw
    | cons c l =>
      cases hi : idC c with
      | none =>
        simp only [hi] at hw ⊢
        exact walk_mono h hw
      | some p =>
        simp only [hi] at hw ⊢
        cases hq : Tr.get p τ with
        | some q =>
          simp only [hq] at hw ⊢
          exact walk_mono h hw
        | none =>
          simp only [hq] at hw ⊢
          cases hg : Tr.get p a with
          | none => rw [hg] at hw; cases hw
          | some o =>
            rw [hg] at hw
            rw [h p o hg]
            cases o with
            | dead => cases hw
            | ob e cs => exact walk_mono h hw
theorem can_mono {a b : Tr Ob} (h : more a b) {fuel : Nat} {ds : List D} {r : List D × List En × Pos} (hc : can fuel ds a = some r) : can fuel ds b = some r := by
  unfold can at hc ⊢
  split at hc
  · rename_i τ nx acc hw; rw [walk_mono h hw]; exact hc
  · cases hc
theorem subO_good (hG : Good P O) (fuel : Nat) : Good P (subO fuel O) := by
  intro f ds hp nx d hp' nx' h β w vs hH hv
  unfold subO at h
  split at h
  · exact sub1_ok hG h hH hv
  · cases h
theorem okIn_mono {a b : Tr Ob} (h : more a b) {σ τ : Tr Pos} {x : En} (hx : okIn a σ τ x = true) : okIn b σ τ x = true := by
  obtain ⟨k, q, o⟩ := x
  cases o with
  | dead => cases hx
  | ob e cs =>
    simp only [okIn] at hx ⊢
    split at hx
    · rename_i f ds cs' k' h1 h2 h3
      simp only [h q _ h1, h2, h3]
      exact hx
    · cases hx
theorem hb_keep (l : List En) (t : Tr Ob) : Keep t (hb l t) := by
  intro id hid
  rcases hb_dn id t .e l with ⟨x, _, _, h, _⟩ | ⟨_, h, _⟩
  · rw [h]; intro h; cases h
  · rw [h]; exact hid
theorem hb_set (id : Pos) (o : Ob) (t : Tr Ob) : ∀ {l : List En}, (∀ x ∈ l, x.2.1 ≠ id) → hb l (Tr.set id o t) = Tr.set id o (hb l t)
  | [], _ => rfl
  | y :: l, h => by
    rw [hb_cons, hb_cons, hb_set id o t (fun x hx => h x (List.mem_cons_of_mem _ hx)), Tr.set_comm _ _ _ (h y List.mem_cons_self)]
theorem subO_fr (fuel : Nat) : Fr (subO fuel O) := by
  intro f ds hp nx d hp' nx' h
  have key : Keep hp hp' ∧ (∀ id e cs, Tr.get id hp' = none → subO fuel O f ds (Tr.set id (.ob e cs) hp) nx = some (d, Tr.set id (.ob e cs) hp', nx')) := by
    unfold subO at h ⊢
    split at h
    case h_2 => cases h
    rename_i ds0 en nxs hcan
    unfold sub1 at h
    rw [brec'] at h
    split at h
    case isFalse => cases h
    rename_i hc1
    split at h
    case h_2 => cases h
    rename_i d0 h2 nx2 hO
    split at h
    case h_2 => cases h
    rename_i d1 ne nx1 hlay
    split at h
    case h_2 => cases h
    rename_i d2 hren
    rw [brec'] at h
    split at h
    case isFalse => cases h
    rename_i hc2
    cases h
    refine ⟨hb_keep _ _, fun id e cs hn => ?_⟩
    have h0 := none_of (hb_keep ne hp) hn
    have hmore : more hp (Tr.set id (.ob e cs) hp) := more_set h0
    have hne : ∀ x ∈ ne, x.2.1 ≠ id := by
      intro x hx e'
      rcases hb_dn id hp .e ne with ⟨y, _, _, h, _⟩ | ⟨h, _, _⟩
      · rw [hn] at h; cases h
      · exact h x hx e'
    rw [can_mono hmore hcan]
    simp only []
    unfold sub1
    have hc1' : (Bool.rec false (all (okIn (Tr.set id (.ob e cs) hp) (up en .e) (dn en .e)) en) (okArgs (up en .e) ds0 ds) : Bool) = true := by
      rw [brec'] at hc1 ⊢
      split at hc1
      · rename_i ha
        rw [if_pos ha]
        have := all_true hc1
        exact all_of fun x hx => okIn_mono hmore (this x hx)
      · cases hc1
    have hc2' : (Bool.rec false (Bool.rec false (all (okNew (Tr.set id (.ob e cs) hp) h2 (up en .e) (up ne (up en .e)) (dn ne .e)) ne) (all (okSt h2) en) : Bool) (sameD d2 d) : Bool) = true := by
      rw [brec'] at hc2 ⊢
      split at hc2
      · rename_i ha
        rw [if_pos ha]
        rw [brec'] at hc2 ⊢
        split at hc2
        · rename_i hb'
          rw [if_pos hb']
          have := all_true hc2
          refine all_of fun x hx => ?_
          have hx' := this x hx
          obtain ⟨j, b, o⟩ := x
          have hbne : id ≠ b := fun e' => hne _ hx e'.symm
          cases o with
          | dead => cases hx'
          | ob e' cs' =>
            simp only [okNew, Tr.get_set_ne _ _ hbne] at hx' ⊢
            exact hx'
        · cases hc2
      · cases hc2
    rw [brec', if_pos hc1', hO]
    simp only [hlay, hren]
    rw [brec', if_pos hc2', hb_set _ _ _ hne]
  exact key
/-! ## Answers that are known -/
noncomputable def sameT (t : Tr Ob) : Tr Ob → Bool :=
  Tr.rec (fun u => Tr.rec true (fun _ _ _ _ _ => false) u)
    (fun _ v _ il ir u => Tr.rec false (fun l' v' r' _ _ =>
      Bool.rec false (Bool.rec false (il l') (ir r')) (Option.rec (Option.rec true (fun _ => false) v') (fun o => Option.rec false (fun o' => sameO o o') v') v)) u) t
noncomputable def sameP (p q : Pos) : Bool := Pos.same p q
theorem sameT_spec : ∀ {t u : Tr Ob}, sameT t u = true → t = u
  | .e, .e, _ => rfl
  | .e, .n _ _ _, h => by cases h
  | .n _ _ _, .e, h => by cases h
  | .n l v r, .n l' v' r', h => by
    have h : (Bool.rec false (Bool.rec false (sameT l l') (sameT r r') : Bool) (Option.rec (Option.rec true (fun _ => false) v' : Bool) (fun o => (Option.rec false (fun o' => sameO o o') v' : Bool)) v : Bool) : Bool) = true := h
    rw [brec'] at h
    split at h
    · rename_i hv
      rw [brec'] at h
      split at h
      · rename_i hr
        have e1 := sameT_spec h
        have e2 := sameT_spec hr
        have e3 : v = v' := by
          cases v with
          | none => cases v' with
            | none => rfl
            | some o => cases hv
          | some o => cases v' with
            | none => cases hv
            | some o' => exact congrArg some (sameO_spec hv)
        rw [e1, e2, e3]
      · cases h
    · cases h
structure Known where
  f : Nat
  ds : List D
  hp : Tr Ob
  nx : Pos
  d : D
  hp' : Tr Ob
  nx' : Pos
noncomputable def hit (k : Known) (f : Nat) (ds : List D) (hp : Tr Ob) (nx : Pos) : Bool :=
  Bool.rec false (Bool.rec false (Bool.rec false (sameT k.hp hp) (sameG sameD k.ds ds)) (Pos.same k.nx nx)) (Nat.beq k.f f)
noncomputable def memo (l : List Known) (O : Oracle) : Oracle := fun f ds hp nx =>
  List.rec (O f ds hp nx) (fun k _ ih => Bool.rec ih (some (k.d, k.hp', k.nx')) (hit k f ds hp nx)) l
def KnownOk (O : Oracle) (k : Known) : Prop := O k.f k.ds k.hp k.nx = some (k.d, k.hp', k.nx')
theorem memo_eq : ∀ {l : List Known}, (∀ k ∈ l, KnownOk O k) → memo l O = O
  | [], _ => rfl
  | k :: l, h => by
    funext f ds hp nx
    show (Bool.rec (memo l O f ds hp nx) (some (k.d, k.hp', k.nx')) (hit k f ds hp nx) : Option (D × Tr Ob × Pos)) = _
    rw [brec', memo_eq (fun x hx => h x (List.mem_cons_of_mem _ hx))]
    split
    · rename_i hh
      unfold hit at hh
      rw [brec'] at hh
      split at hh
      · rename_i h1
        rw [brec'] at hh
        split at hh
        · rename_i h2
          rw [brec'] at hh
          split at hh
          · rename_i h3
            rw [beq_iff] at h1
            have h2 := Pos.same_spec.1 h2
            have h3 := sameG_spec (fun _ _ => sameD_spec) h3
            have h4 := sameT_spec hh
            have := h k List.mem_cons_self
            unfold KnownOk at this
            rw [← h1, ← h2, ← h3, ← h4]
            exact this.symm
          · cases hh
        · cases hh
      · cases hh
    · rfl
end
end Go.Proofs.YtiahijhpjloijaaGreat.V
