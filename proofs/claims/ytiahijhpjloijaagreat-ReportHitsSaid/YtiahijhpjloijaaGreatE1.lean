/- Computations that touch no memory, draw nothing and ask nothing: what they give is the same in every world. -/
import Derived.WalkKit
set_option linter.unusedVariables false
set_option linter.unusedSimpArgs false
namespace Go.Proofs.YtiahijhpjloijaaGreat.E
open Go
/-- what a computation gives that needs no world (the pieces of memory it could ask for are not there) -/
def still {α : Type} (P : Program) : Sem α → Option α
  | .pure a => some a
  | .program k => still P (k P)
  | .choose q k => if q.forced then still P (k 0) else none
  | .mark _ k => still P k
  | _ => none
theorem still_run {α : Type} {P : Program} : ∀ {s : Sem α} {a : α}, still P s = some a → ∀ w, s.run P w = .ok a w := by
  intro s
  induction s with
  | pure a => intro b h w; simp only [still, Option.some.injEq] at h; subst h; rfl
  | program k ih => intro b h w; exact ih P h w
  | choose q k ih =>
    intro b h w
    simp only [still] at h
    split at h
    · rename_i hq
      simp only [Sem.run, hq, if_true]
      exact ih 0 h w
    · cases h
  | mark m k ih => intro b h w; exact ih h w
  | _ => intro b h w; simp [still] at h
theorem still_bind {α β : Type} {P : Program} (f : α → Sem β) : ∀ (s : Sem α), still P (s >>= f) = (still P s).bind fun a => still P (f a) := by
  intro s
  show still P (s.bind f) = _
  induction s with
  | pure a => rfl
  | program k ih => exact ih P
  | choose q k ih =>
    simp only [Sem.bind, still]
    split
    · exact ih 0
    · rfl
  | mark m k ih => exact ih
  | _ => rfl
end Go.Proofs.YtiahijhpjloijaaGreat.E
