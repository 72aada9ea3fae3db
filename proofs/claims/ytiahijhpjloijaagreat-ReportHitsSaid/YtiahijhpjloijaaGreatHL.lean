/- Single steps, and what a piece of code leaves alone. -/
import Derived.Test.YtiahijhpjloijaaGreatHP
set_option linter.unusedVariables false
set_option linter.unusedSimpArgs false
namespace Go.Proofs.YtiahijhpjloijaaGreat.V
open Go Go.RowKit
section
variable {P : Program} {O : Oracle} {base : Pos}
theorem step_mv {dst : Option Pos} {g : Option (Pos × Bool)} {r fr : Nat} {x : A} {d : D} {s : St} (hg : guard g s.tm = .run) (h : val s.tm x = some d) :
    step1 P O base ⟨dst, g, r, fr, .mv x⟩ s = some { s with tm := put dst d s.tm } := by
  unfold step1
  simp only [hg, rd, h, fit]
theorem step_bin {dst : Option Pos} {g : Option (Pos × Bool)} {r fr : Nat} {op : BinOp} {t : TypeId} {x y : A} {a b c : C} {s : St} (hg : guard g s.tm = .run) (hx : val s.tm x = some (.one a)) (hy : val s.tm y = some (.one b)) (hc : cbin op a b = some c) :
    step1 P O base ⟨dst, g, r, fr, .bin op t x y⟩ s = some { s with tm := put dst (.one c) s.tm } := by
  unfold step1
  simp only [hg, rd, hx, hy, hc, fit]
theorem cel_of {tm : Tr D} {x : A} {c : C} (h : val tm x = some (.one c)) : cel tm x = some c := by unfold cel; rw [h]
theorem step_cvi {dst : Option Pos} {g : Option (Pos × Bool)} {r fr : Nat} {k k' : IntKind} {x : A} {n : Int} {s : St} (hg : guard g s.tm = .run) (hx : val s.tm x = some (.one (.int k' n))) :
    step1 P O base ⟨dst, g, r, fr, .cvi k x⟩ s = some { s with tm := put dst (.one (.int k (wrapC k n))) s.tm } := by
  unfold step1
  simp only [hg, rd, cel_of hx, fit]
theorem step_pick {dst : Option Pos} {g : Option (Pos × Bool)} {r fr : Nat} {c x y : A} {t : Bool} {d : D} {s : St} (hg : guard g s.tm = .run) (hc : val s.tm c = some (.one (.bool t))) (hx : val s.tm (bif t then x else y) = some d) :
    step1 P O base ⟨dst, g, r, fr, .pick c x y⟩ s = some { s with tm := put dst d s.tm } := by
  unfold step1
  simp only [hg, rd, cel_of hc, hx, fit]
/-- no operation of it writes this temporary -/
noncomputable def nowI (p : Pos) (x : Ins) : Bool := match x.dst with | none => true | some q => !(Pos.same q p)
noncomputable def nowK (p : Pos) : K → Bool
  | .blk _ l => l.all (nowI p)
  | .dblk _ l _ => l.all (fun z => nowI p z.2)
  | .seq a b => nowK p a && nowK p b
  | .cond _ a b => nowK p a && nowK p b
  | .block _ a => nowK p a
  | .loop a => nowK p a
  | _ => true
theorem put_now {p : Pos} {x : Ins} (h : nowI p x = true) (d : D) (tm : Tr D) : Tr.get p (put x.dst d tm) = Tr.get p tm := by
  unfold nowI at h
  cases hd : x.dst with
  | none => rfl
  | some q =>
    rw [hd] at h
    have h : (!(Pos.same q p)) = true := h
    have hne : q ≠ p := fun e => by rw [Pos.same_spec.2 e] at h; cases h
    exact Tr.get_set_ne _ _ hne
theorem step1_now {p : Pos} {x : Ins} (h : nowI p x = true) {s s' : St} (hs : step1 P O base x s = some s') : Tr.get p s'.tm = Tr.get p s.tm := by
  rw [step1_eq] at hs
  split at hs
  · cases hs; exact put_now h _ _
  · cases hs
theorem steps_now {p : Pos} : ∀ {l : List Ins} {s s' : St}, l.all (nowI p) = true → steps P O base l s = some s' → Tr.get p s'.tm = Tr.get p s.tm
  | [], s, s', _, h => by cases h; rfl
  | x :: l, s, s', ha, h => by
    simp only [List.all_cons, Bool.and_eq_true] at ha
    rw [steps_cons] at h
    split at h
    · rename_i s1 h1; rw [steps_now ha.2 h, step1_now ha.1 h1]
    · cases h
theorem stepsF_now {p : Pos} : ∀ {l : List (Nat × Ins)} {s s' : St} {fs gs : List Ft}, l.all (fun z => nowI p z.2) = true → stepsF P O base l s fs = some (s', gs) → Tr.get p s'.tm = Tr.get p s.tm
  | [], s, s', fs, gs, _, h => by have h : some (s, fs) = some (s', gs) := h; cases h; rfl
  | x :: l, s, s', fs, gs, ha, h => by
    simp only [List.all_cons, Bool.and_eq_true] at ha
    rw [stepsF_cons] at h
    split at h
    · rename_i s1 h1; rw [stepsF_now ha.2 h, step1_now ha.1 h1]
    · cases h
theorem ev_now {p : Pos} {m : Nat} : ∀ {k : K} {s t : St}, nowK p k = true → outSt (ev P O m k s) = some t → Tr.get p t.tm = Tr.get p s.tm := by
  intro k
  induction k with
  | blk na l =>
    intro s t hk h
    rw [ev_blk] at h
    split at h
    · rename_i s' hs; cases h; rw [steps_now hk hs, (reserve_hp na s).2]
    · cases h
  | dblk na l chk =>
    intro s t hk h
    have he : ev P O m (.dblk na l chk) s = (match stepsF P O s.nx l (reserve na s) [] with
      | some (s', fs) => (Bool.rec .no (.norm s') (okF fs (len l) chk) : Out)
      | none => .no) := rfl
    rw [he] at h
    split at h
    · rename_i s' fs hs
      rw [brec'] at h
      split at h
      · cases h; rw [stepsF_now hk hs, (reserve_hp na s).2]
      · cases h
    · cases h
  | seq a b iha ihb =>
    intro s t hk h
    simp only [nowK, Bool.and_eq_true] at hk
    rw [ev_seq] at h
    cases hgs : ev P O m a s with
    | norm s' => rw [hgs] at h; rw [ihb hk.2 h, iha hk.1 (by rw [hgs]; rfl)]
    | exit j s' => rw [hgs] at h; cases h; exact iha hk.1 (by rw [hgs]; rfl)
    | ret s' => rw [hgs] at h; cases h; exact iha hk.1 (by rw [hgs]; rfl)
    | no => rw [hgs] at h; cases h
  | cond c a b iha ihb =>
    intro s t hk h
    simp only [nowK, Bool.and_eq_true] at hk
    rw [ev_cond] at h
    split at h
    · split at h
      · exact iha hk.1 h
      · exact ihb hk.2 h
    · cases h
  | block i a ih =>
    intro s t hk h
    rw [ev_block] at h
    cases hgs : ev P O m a s with
    | norm s' => rw [hgs] at h; cases h; exact ih hk (by rw [hgs]; rfl)
    | exit j s' =>
      rw [hgs] at h
      have ht : s' = t := by
        simp only [] at h
        split at h <;> exact Option.some.inj h
      subst ht
      exact ih hk (by rw [hgs]; rfl)
    | ret s' => rw [hgs] at h; cases h; exact ih hk (by rw [hgs]; rfl)
    | no => rw [hgs] at h; cases h
  | loop a ih =>
    intro s t hk h
    have key : ∀ (q : Nat) (s t : St), outSt (iter (ev P O m a) q s) = some t → Tr.get p t.tm = Tr.get p s.tm := by
      intro q
      induction q with
      | zero => intro s t h; cases h
      | succ q ihq =>
        intro s t h
        rw [iter_succ] at h
        cases hgs : ev P O m a s with
        | norm s' => rw [hgs] at h; rw [ihq s' t h, ih hk (by rw [hgs]; rfl)]
        | exit j s' => rw [hgs] at h; cases h; exact ih hk (by rw [hgs]; rfl)
        | ret s' => rw [hgs] at h; cases h; exact ih hk (by rw [hgs]; rfl)
        | no => rw [hgs] at h; cases h
    exact key m s t h
  | exit i => intro s t _ h; cases h; rfl
  | ret => intro s t _ h; cases h; rfl
  | skip => intro s t _ h; cases h; rfl
end
end Go.Proofs.YtiahijhpjloijaaGreat.V
