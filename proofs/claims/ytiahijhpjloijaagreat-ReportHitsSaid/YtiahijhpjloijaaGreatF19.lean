/- Steps in the other order: the whole step; a run; the next step of a run, done first. -/
import Derived.Test.YtiahijhpjloijaaGreatF18
set_option linter.unusedVariables false
set_option linter.unusedSimpArgs false
namespace Go.Proofs.YtiahijhpjloijaaGreat.V
open Go Go.RowKit
def allowed (a b : Nat) : Bool := (Nat.blt a 3 || Nat.blt b 3) && !(Nat.beq a 2 && Nat.beq b 4)
theorem sameC_refl (c : C) : sameC c c = true := by
  have hp : ∀ p : Pos, Pos.same p p = true := fun p => Pos.same_spec.2 rfl
  cases c
  case int k n => show (Bool.rec false (ieq n n) (Nat.beq (kn k) (kn k)) : Bool) = true; rw [Nat.beq_refl, ieq_eq]; simp
  case bool b => cases b <;> rfl
  case str l => show leq l l = true; rw [leq_eq]; simp
  case flt b => exact Nat.beq_refl b
  case own p k n => show (Bool.rec false (Bool.rec false (Nat.beq n n) (Nat.beq k k) : Bool) (Pos.same p p) : Bool) = true; rw [hp, Nat.beq_refl, Nat.beq_refl]
  case sl p k o n => show (Bool.rec false (Bool.rec false (Bool.rec false (Nat.beq n n) (Nat.beq o o) : Bool) (Nat.beq k k) : Bool) (Pos.same p p) : Bool) = true; rw [hp, Nat.beq_refl, Nat.beq_refl, Nat.beq_refl]
  case loc p o => show (Bool.rec false (Nat.beq o o) (Pos.same p p) : Bool) = true; rw [hp, Nat.beq_refl]
  all_goals rfl
theorem sameL_refl : ∀ l : List C, sameL l l = true
  | [] => rfl
  | x :: l => by rw [sameL_cons, if_pos (sameC_refl x)]; exact sameL_refl l
theorem leaves_set {a b : Tr Ob} {id : Pos} {e : Nat} {cs : List C} (ha : Tr.get id a = none) (hb : Tr.get id b = none) {x : Acc} (h : leaves a b x = true) : leaves (Tr.set id (.ob e cs) a) (Tr.set id (.ob e cs) b) x = true := by
  obtain ⟨w, q, r⟩ := x
  cases w with
  | true => rfl
  | false =>
    by_cases e' : id = q
    · subst e'
      cases r with
      | none => simp only [leaves, Tr.get_set_eq, Nat.beq_refl]; exact sameL_refl _
      | some ok => obtain ⟨o, k⟩ := ok; simp only [leaves, Tr.get_set_eq, Nat.beq_refl]; exact sameL_refl _
    · cases r with
      | none => simp only [leaves, Tr.get_set_ne _ _ e'] at h ⊢; exact h
      | some ok => obtain ⟨o, k⟩ := ok; simp only [leaves, Tr.get_set_ne _ _ e'] at h ⊢; exact h
section
variable {P : Program} {tm : Tr D} {hp h1 h2 : Tr Ob}
/-- what an operation that is no call does -/
theorem stepD_local {O : Oracle} {base : Pos} {x : Ins} {nx nx' : Pos} {d : D} {hp' : Tr Ob} (hg : guard x.gd tm = .run) (hx : ∀ f as, x.op ≠ .call f as) :
    stepD P O base x tm hp nx = some (d, hp', nx') ↔ ∃ f, rd P (Pos.plus x.r base) x.op tm hp = some (d, f) ∧ fit (Pos.plus x.r base) f hp = some hp' ∧ nx' = nx := by
  have key : stepD P O base x tm hp nx = (match rd P (Pos.plus x.r base) x.op tm hp with
      | some (d, f) => (match fit (Pos.plus x.r base) f hp with | some hp' => some (d, hp', nx) | none => none)
      | none => none) := by
    unfold stepD
    simp only [hg]
    cases hxo : x.op
    case call f as => exact absurd hxo (hx f as)
    all_goals rfl
  rw [key]
  constructor
  · intro h
    split at h
    · rename_i d0 f hr
      split at h
      · rename_i hp0 hf
        cases h
        exact ⟨f, hr, hf, rfl⟩
      · cases h
    · cases h
  · rintro ⟨f, hr, hf, rfl⟩
    simp only [hr, hf]
theorem stepD_call {O : Oracle} {base : Pos} {x : Ins} {nx : Pos} {f : Nat} {as : List A} (hg : guard x.gd tm = .run) (hx : x.op = .call f as) :
    stepD P O base x tm hp nx = (match each (val tm) as with | some ds => O f ds hp nx | none => none) := by
  unfold stepD; simp only [hg, hx]; rfl
theorem ftD_local {base : Pos} {x : Ins} {a b : Tr Ob} (hg : guard x.gd tm = .run) (hx : ∀ f as, x.op ≠ .call f as) : ftD base x tm a b = .acc (foot (Pos.plus x.r base) x.op tm) := by
  unfold ftD
  simp only [hg]
theorem ftD_call {base : Pos} {x : Ins} {a b : Tr Ob} {f : Nat} {as : List A} (hg : guard x.gd tm = .run) (hx : x.op = .call f as) : ftD base x tm a b = .call a b := by
  unfold ftD; simp only [hg, hx]
theorem isCall (i : I) : (∃ f as, i = .call f as) ∨ (∀ f as, i ≠ .call f as) := by
  cases i
  case call f as => exact .inl ⟨f, as, rfl⟩
  all_goals exact .inr fun _ _ h => by cases h
theorem swapD {O : Oracle} (hO : Fr O) {base : Pos} {x y : Ins} {nx nx1 nx2 : Pos} {d1 d2 : D} (hal : allowed (cls x.op) (cls y.op) = true)
    (hx : stepD P O base x tm hp nx = some (d1, h1, nx1)) (hy : stepD P O base y tm h1 nx1 = some (d2, h2, nx2))
    (hc : clashes (ftD base x tm hp h1) (ftD base y tm h1 h2) = false) :
    ∃ h1' nx1', stepD P O base y tm hp nx = some (d2, h1', nx1') ∧ stepD P O base x tm h1' nx1' = some (d1, h2, nx2) ∧ ftD base y tm hp h1' = ftD base y tm h1 h2 ∧ FtLe (ftD base x tm hp h1) (ftD base x tm h1' h2) := by
  cases gx : guard x.gd tm with
  | bad => unfold stepD at hx; simp only [gx] at hx; cases hx
  | skip =>
    have hx' := hx
    unfold stepD at hx'
    simp only [gx] at hx'
    cases hx'
    refine ⟨h2, nx2, hy, ?_, rfl, ?_⟩
    · unfold stepD; simp only [gx]
    · have e : ∀ a b, ftD base x tm a b = .acc [] := fun a b => by unfold ftD; simp only [gx]
      rw [e, e]; exact .refl _
  | run => cases gy : guard y.gd tm with
    | bad => unfold stepD at hy; simp only [gy] at hy; cases hy
    | skip =>
      have hy' := hy
      unfold stepD at hy'
      simp only [gy] at hy'
      cases hy'
      refine ⟨hp, nx, ?_, hx, ?_, .refl _⟩
      · unfold stepD; simp only [gy]
      · have e : ∀ a b, ftD base y tm a b = .acc [] := fun a b => by unfold ftD; simp only [gy]
        rw [e, e]
    | run =>
      rcases isCall x.op with ⟨f, as, hxo⟩ | hxo
      · rcases isCall y.op with ⟨g, bs, hyo⟩ | hyo
        · rw [hxo, hyo] at hal; exact absurd hal (show ¬ (allowed 4 4 = true) by decide)
        · -- a call, then one that is none
          have cy : cls y.op < 3 := by
            rw [hxo] at hal
            have h4 : cls (.call f as) = 4 := rfl
            rw [h4] at hal
            simp only [allowed, Bool.and_eq_true, Bool.or_eq_true, blt_iff] at hal
            omega
          rw [ftD_call gx hxo, ftD_local gy hyo] at hc
          have hlv := all_true (bnot hc)
          obtain ⟨f2, hr2, hf2, rfl⟩ := (stepD_local gy hyo).1 hy
          obtain ⟨keep, frame⟩ := stepD_frame hO hx
          obtain ⟨w2, c1, c2, _⟩ := rd_ef hr2
          by_cases hc1 : cls y.op ≤ 1
          · have hno := c1 hc1
            subst hno
            cases hf2
            have ag : ∀ z ∈ foot (Pos.plus y.r base) y.op tm, agree hp h1 z := fun z hz => leaves_agree (hlv z hz) (foot_reads hc1 z hz)
            refine ⟨hp, nx, (stepD_local gy hyo).2 ⟨.no, by rw [rd_agree ag]; exact hr2, rfl, rfl⟩, hx, by rw [ftD_local gy hyo, ftD_local gy hyo], .refl _⟩
          · have hc2 : cls y.op = 2 := by omega
            obtain ⟨e, l, hf⟩ := c2 hc2
            subst hf
            obtain ⟨a2, rfl⟩ := fit_new hf2
            have a1 := none_of keep a2
            have hr2' : rd P (Pos.plus y.r base) y.op tm hp = some (d2, .new (.ob e l)) := by
              rw [← hr2]
              refine rd_agree fun z hz => ?_
              have hz' : z = (true, Pos.plus y.r base, none) := by
                revert hz
                cases hyo' : y.op <;> rw [hyo'] at hc2 <;> simp [cls] at hc2 <;> simp [foot]
              subst hz'
              show Tr.get _ hp = Tr.get _ h1
              rw [a1, a2]
            refine ⟨Tr.set (Pos.plus y.r base) (.ob e l) hp, nx, (stepD_local gy hyo).2 ⟨_, hr2', by simp only [fit, a1], rfl⟩, frame _ _ _ a2, by rw [ftD_local gy hyo, ftD_local gy hyo], ?_⟩
            rw [ftD_call gx hxo, ftD_call gx hxo]
            exact .call fun z hz => leaves_set a1 a2 hz
      · obtain ⟨f1, hr1, hf1, rfl⟩ := (stepD_local gx hxo).1 hx
        rcases isCall y.op with ⟨g, bs, hyo⟩ | hyo
        · -- one that is none, then a call
          have cx : cls x.op ≤ 1 := by
            rw [hyo] at hal
            have h4 : cls (.call g bs) = 4 := rfl
            rw [h4] at hal
            simp only [allowed, Bool.and_eq_true, Bool.or_eq_true, blt_iff, Bool.not_eq_true', Bool.and_eq_false_iff] at hal
            have h2 : cls x.op ≠ 2 := fun h => by
              rcases hal.2 with h' | h'
              · rw [h] at h'; cases h'
              · cases h'
            omega
          rw [ftD_local gx hxo, ftD_call gy hyo] at hc
          have hlv := all_true (bnot hc)
          have hno := (rd_ef hr1).2.1 cx
          subst hno
          cases hf1
          have ag : ∀ z ∈ foot (Pos.plus x.r base) x.op tm, agree hp h2 z := fun z hz => leaves_agree (hlv z hz) (foot_reads cx z hz)
          refine ⟨h2, nx2, hy, (stepD_local gx hxo).2 ⟨.no, by rw [← rd_agree ag]; exact hr1, rfl, rfl⟩, rfl, by rw [ftD_local gx hxo, ftD_local gx hxo]; exact .refl _⟩
        · obtain ⟨f2, hr2, hf2, rfl⟩ := (stepD_local gy hyo).1 hy
          rw [ftD_local gx hxo, ftD_local gy hyo] at hc
          have h33 : ¬ (cls x.op = 3 ∧ cls y.op = 3) := fun ⟨e1, e2⟩ => by rw [e1, e2] at hal; exact absurd hal (by decide)
          obtain ⟨h1', q1, q2, q3, q4⟩ := swapL hr1 hf1 hr2 hf2 (fun a ha b hb => any_false (any_false hc a ha) b hb) h33
          exact ⟨h1', nx2, (stepD_local gy hyo).2 ⟨f2, q1, q2, rfl⟩, (stepD_local gx hxo).2 ⟨f1, q3, q4, rfl⟩, by rw [ftD_local gy hyo, ftD_local gy hyo], by rw [ftD_local gx hxo, ftD_local gx hxo]; exact .refl _⟩
end
end Go.Proofs.YtiahijhpjloijaaGreat.V
