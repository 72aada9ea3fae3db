/- A call among its own objects alone: what it is handed is numbered anew, what it gives is laid back. -/
import Derived.Test.YtiahijhpjloijaaGreatF24
set_option linter.unusedVariables false
set_option linter.unusedSimpArgs false
namespace Go.Proofs.YtiahijhpjloijaaGreat.V
open Go Go.RowKit
/-- an object: its small number, its great number, what it is -/
abbrev En := Pos × Pos × Ob
noncomputable def hs (l : List En) (t : Tr Ob) : Tr Ob := List.rec t (fun x _ ih => Tr.set x.1 x.2.2 ih) l
noncomputable def hb (l : List En) (t : Tr Ob) : Tr Ob := List.rec t (fun x _ ih => Tr.set x.2.1 x.2.2 ih) l
noncomputable def up (l : List En) (t : Tr Pos) : Tr Pos := List.rec t (fun x _ ih => Tr.set x.1 x.2.1 ih) l
noncomputable def dn (l : List En) (t : Tr Pos) : Tr Pos := List.rec t (fun x _ ih => Tr.set x.2.1 x.1 ih) l
noncomputable def renC (σ : Tr Pos) (c : C) : Option C :=
  match c with
  | .own p k n => match Tr.get p σ with | some q => some (.own q k n) | none => none
  | .sl p k o n => match Tr.get p σ with | some q => some (.sl q k o n) | none => none
  | .loc p o => match Tr.get p σ with | some q => some (.loc q o) | none => none
  | c => some c
noncomputable def renX (σ : Tr Pos) (x : X) : Option X :=
  match x with
  | .one c => match renC σ c with | some c => some (.one c) | none => none
  | .ag l => match each (renC σ) l with | some l => some (.ag l) | none => none
noncomputable def renD (σ : Tr Pos) (d : D) : Option D :=
  match d with
  | .one c => match renC σ c with | some c => some (.one c) | none => none
  | .ag l => match each (renC σ) l with | some l => some (.ag l) | none => none
  | .tup l => match each (renX σ) l with | some l => some (.tup l) | none => none
noncomputable def sameX (x y : X) : Bool :=
  match x, y with
  | .one c, .one d => sameC c d
  | .ag l, .ag m => sameL l m
  | _, _ => false
noncomputable def sameG {α : Type} (g : α → α → Bool) (l : List α) : List α → Bool :=
  List.rec (fun m => List.rec true (fun _ _ _ => false) m)
    (fun x _ ih m => List.rec false (fun y t _ => Bool.rec false (ih t) (g x y)) m) l
noncomputable def sameD (x y : D) : Bool :=
  match x, y with
  | .one c, .one d => sameC c d
  | .ag l, .ag m => sameL l m
  | .tup l, .tup m => sameG sameX l m
  | _, _ => false
noncomputable def sameO (x y : Ob) : Bool :=
  match x, y with
  | .ob e l, .ob f m => Bool.rec false (sameL l m) (Nat.beq e f)
  | .dead, .dead => true
  | _, _ => false
theorem sameG_spec {α : Type} {g : α → α → Bool} (hg : ∀ x y, g x y = true → x = y) : ∀ {l m : List α}, sameG g l m = true → l = m
  | [], [], _ => rfl
  | [], _ :: _, h => by cases h
  | _ :: _, [], h => by cases h
  | x :: l, y :: m, h => by
    have h : (Bool.rec false (sameG g l m) (g x y) : Bool) = true := h
    rw [brec'] at h
    split at h
    · rename_i hc; rw [hg x y hc, sameG_spec hg h]
    · cases h
theorem sameX_spec {x y : X} (h : sameX x y = true) : x = y := by
  unfold sameX at h
  split at h
  · rw [sameC_spec h]
  · rw [sameL_spec h]
  · cases h
theorem sameD_spec {x y : D} (h : sameD x y = true) : x = y := by
  unfold sameD at h
  split at h
  · rw [sameC_spec h]
  · rw [sameL_spec h]
  · rw [sameG_spec (fun _ _ => sameX_spec) h]
  · cases h
theorem sameO_spec {x y : Ob} (h : sameO x y = true) : x = y := by
  unfold sameO at h
  split at h
  · rw [brec'] at h
    split at h
    · rename_i he; rw [beq_iff] at he; rw [he, sameL_spec h]
    · cases h
  · rfl
  · cases h
theorem CV_ren {σ : Tr Pos} {β γ : Blk} (h : ∀ k b x, Tr.get k σ = some b → β b = some x → γ k = some x) {c c' : C} {v : Value} (hr : renC σ c = some c') (hc : CV β c' v) : CV γ c v := by
  unfold renC at hr
  split at hr
  · split at hr
    · rename_i q hq; cases hr; obtain ⟨b, sz, cap, hb, r⟩ := hc; exact ⟨b, sz, cap, h _ _ _ hq hb, r⟩
    · cases hr
  · split at hr
    · rename_i q hq; cases hr; obtain ⟨b, sz, cap, hb, r⟩ := hc; exact ⟨b, sz, cap, h _ _ _ hq hb, r⟩
    · cases hr
  · split at hr
    · rename_i q hq; cases hr; obtain ⟨b, sz, hb, r⟩ := hc; exact ⟨b, sz, h _ _ _ hq hb, r⟩
    · cases hr
  · rename_i h1 h2 h3
    cases hr
    cases c <;> first | exact hc | (exact absurd rfl (h1 _ _ _)) | (exact absurd rfl (h2 _ _ _ _)) | (exact absurd rfl (h3 _ _))
theorem CV_ren2 {σ : Tr Pos} {β γ : Blk} (h : ∀ k b x, Tr.get k σ = some b → β k = some x → γ b = some x) {c c' : C} {v : Value} (hr : renC σ c = some c') (hc : CV β c v) : CV γ c' v := by
  unfold renC at hr
  split at hr
  · split at hr
    · rename_i q hq; cases hr; obtain ⟨b, sz, cap, hb, r⟩ := hc; exact ⟨b, sz, cap, h _ _ _ hq hb, r⟩
    · cases hr
  · split at hr
    · rename_i q hq; cases hr; obtain ⟨b, sz, cap, hb, r⟩ := hc; exact ⟨b, sz, cap, h _ _ _ hq hb, r⟩
    · cases hr
  · split at hr
    · rename_i q hq; cases hr; obtain ⟨b, sz, hb, r⟩ := hc; exact ⟨b, sz, h _ _ _ hq hb, r⟩
    · cases hr
  · rename_i h1 h2 h3
    cases hr
    cases c <;> first | exact hc | (exact absurd rfl (h1 _ _ _)) | (exact absurd rfl (h2 _ _ _ _)) | (exact absurd rfl (h3 _ _))
theorem renC_un {σ : Tr Pos} {c c' : C} (hr : renC σ c = some c') : c = .un ↔ c' = .un := by
  unfold renC at hr
  split at hr
  · split at hr
    · cases hr; exact ⟨(fun h => by cases h), (fun h => by cases h)⟩
    · cases hr
  · split at hr
    · cases hr; exact ⟨(fun h => by cases h), (fun h => by cases h)⟩
    · cases hr
  · split at hr
    · cases hr; exact ⟨(fun h => by cases h), (fun h => by cases h)⟩
    · cases hr
  · cases hr; exact Iff.rfl
theorem ck_ren {σ : Tr Pos} {β γ : Blk} (h : ∀ k b x, Tr.get k σ = some b → β b = some x → γ k = some x) {c c' : C} {v : Value} (hr : renC σ c = some c') (hc : CK β c' v) : CK γ c v :=
  ⟨CV_ren h hr hc.1, fun e => hc.2 ((renC_un hr).1 e)⟩
theorem ck_ren2 {σ : Tr Pos} {β γ : Blk} (h : ∀ k b x, Tr.get k σ = some b → β k = some x → γ b = some x) {c c' : C} {v : Value} (hr : renC σ c = some c') (hc : CK β c v) : CK γ c' v :=
  ⟨CV_ren2 h hr hc.1, fun e => hc.2 ((renC_un hr).2 e)⟩
theorem Al.comp {α β γ : Type} {R : α → β → Prop} {S : β → γ → Prop} {T : α → γ → Prop} (h : ∀ x y z, R x y → S y z → T x z) : ∀ {l : List α} {m : List β} {n : List γ}, Al R l m → Al S m n → Al T l n
  | _, _, _, .nil, .nil => .nil
  | _, _, _, .cons a b, .cons c d => .cons (h _ _ _ a c) (Al.comp h b d)
theorem Al.flip {α β : Type} {R : α → β → Prop} : ∀ {l : List α} {m : List β}, Al R l m → Al (fun y x => R x y) m l
  | _, _, .nil => .nil
  | _, _, .cons a b => .cons a (Al.flip b)
theorem DV_ren {σ : Tr Pos} {β γ : Blk} (h : ∀ k b x, Tr.get k σ = some b → β b = some x → γ k = some x) {d d' : D} {v : Value} (hr : renD σ d = some d') (hd : DV β d' v) : DV γ d v := by
  have hL : ∀ {l l' : List C} {vs : List Value}, each (renC σ) l = some l' → Al (CK β) l' vs → Al (CK γ) l vs := fun he ha => Al.comp (S := CK β) (T := CK γ) (fun x y z a b => ck_ren h a b) (each_spec _ _ _ he) ha
  have hX : ∀ {x x' : X} {v : Value}, renX σ x = some x' → XV β x' v → XV γ x v := by
    intro x x' v hx hv
    cases x with
    | one c =>
      simp only [renX] at hx
      split at hx
      · rename_i c' hc; cases hx; exact CV_ren h hc hv
      · cases hx
    | ag l =>
      simp only [renX] at hx
      split at hx
      · rename_i l' hl; cases hx; obtain ⟨vs, e, ha⟩ := hv; exact ⟨vs, e, hL hl ha⟩
      · cases hx
  cases d with
  | one c =>
    simp only [renD] at hr
    split at hr
    · rename_i c' hc; cases hr; exact CV_ren h hc hd
    · cases hr
  | ag l =>
    simp only [renD] at hr
    split at hr
    · rename_i l' hl; cases hr; obtain ⟨vs, e, ha⟩ := hd; exact ⟨vs, e, hL hl ha⟩
    · cases hr
  | tup l =>
    simp only [renD] at hr
    split at hr
    · rename_i l' hl; cases hr; obtain ⟨vs, e, ha⟩ := hd; exact ⟨vs, e, Al.comp (S := XV β) (T := XV γ) (fun x y z a b => hX a b) (each_spec _ _ _ hl) ha⟩
    · cases hr
theorem DV_ren2 {σ : Tr Pos} {β γ : Blk} (h : ∀ k b x, Tr.get k σ = some b → β k = some x → γ b = some x) {d d' : D} {v : Value} (hr : renD σ d = some d') (hd : DV β d v) : DV γ d' v := by
  have hL : ∀ {l l' : List C} {vs : List Value}, each (renC σ) l = some l' → Al (CK β) l vs → Al (CK γ) l' vs := fun he ha => Al.comp (S := CK β) (T := CK γ) (fun x y z a b => ck_ren2 h a b) (Al.flip (each_spec _ _ _ he)) ha
  have hX : ∀ {x x' : X} {v : Value}, renX σ x = some x' → XV β x v → XV γ x' v := by
    intro x x' v hx hv
    cases x with
    | one c =>
      simp only [renX] at hx
      split at hx
      · rename_i c' hc; cases hx; exact CV_ren2 h hc hv
      · cases hx
    | ag l =>
      simp only [renX] at hx
      split at hx
      · rename_i l' hl; cases hx; obtain ⟨vs, e, ha⟩ := hv; exact ⟨vs, e, hL hl ha⟩
      · cases hx
  cases d with
  | one c =>
    simp only [renD] at hr
    split at hr
    · rename_i c' hc; cases hr; exact CV_ren2 h hc hd
    · cases hr
  | ag l =>
    simp only [renD] at hr
    split at hr
    · rename_i l' hl; cases hr; obtain ⟨vs, e, ha⟩ := hd; exact ⟨vs, e, hL hl ha⟩
    · cases hr
  | tup l =>
    simp only [renD] at hr
    split at hr
    · rename_i l' hl; cases hr; obtain ⟨vs, e, ha⟩ := hd; exact ⟨vs, e, Al.comp (S := XV β) (T := XV γ) (fun x y z a b => hX a b) (Al.flip (each_spec _ _ _ hl)) ha⟩
    · cases hr
/-- what is handed, as the callee's own small heap has it -/
noncomputable def okIn (hp : Tr Ob) (σ τ : Tr Pos) (x : En) : Bool :=
  match x with
  | (k, b, .ob e cs) => match Tr.get b hp, each (renC σ) cs, Tr.get b τ with
    | some (.ob f ds), some cs', some k' => Bool.rec false (Bool.rec false (sameL cs' ds) (Nat.beq e f)) (Pos.same k k')
    | _, _, _ => false
  | _ => false
/-- what was handed is as it was -/
noncomputable def okSt (h2 : Tr Ob) (x : En) : Bool := match Tr.get x.1 h2 with | some o => sameO x.2.2 o | none => false
/-- what is new -/
noncomputable def okNew (hp h2 : Tr Ob) (σ σ2 τn : Tr Pos) (x : En) : Bool :=
  match x with
  | (j, b, .ob e cs) => match Tr.get j h2, Tr.get b hp, Tr.get j σ, Tr.get j σ2, Tr.get b τn with
    | some (.ob f ds), none, none, some b', some j' => (match each (renC σ2) ds with
      | some ds' => Bool.rec false (Bool.rec false (Bool.rec false (sameL ds' cs) (Nat.beq e f)) (Pos.same b b')) (Pos.same j j')
      | none => false)
    | _, _, _, _, _ => false
  | _ => false
noncomputable def okArgs (σ : Tr Pos) (l : List D) : List D → Bool := sameG (fun x y => match renD σ x with | some d => sameD d y | none => false) l
/-- the call among its own objects: what is handed and how it is numbered are given, and looked at -/
noncomputable def sub1 (O : Oracle) (f : Nat) (ds : List D) (hp : Tr Ob) (nx : Pos) (ds0 : List D) (en : List En) (nxs : Pos) (lay : D → Tr Ob → Option (D × List En × Pos)) : Option (D × Tr Ob × Pos) :=
  Bool.rec none
    (match O f ds0 (hs en .e) nxs with
    | some (d, h2, _) => match lay d h2 with
      | some (d', ne, nx') =>
        (match renD (up ne (up en .e)) d with
        | some d'' => Bool.rec none (some (d', hb ne hp, nx'))
          (Bool.rec false (Bool.rec false (all (okNew hp h2 (up en .e) (up ne (up en .e)) (dn ne .e)) ne) (all (okSt h2) en)) (sameD d'' d'))
        | none => none)
      | none => none
    | none => none)
    (Bool.rec false (all (okIn hp (up en .e) (dn en .e)) en) (okArgs (up en .e) ds0 ds))
end Go.Proofs.YtiahijhpjloijaaGreat.V
