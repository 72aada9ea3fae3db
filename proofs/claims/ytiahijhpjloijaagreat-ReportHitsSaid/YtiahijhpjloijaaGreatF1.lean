/- Keys, tries over keys, and the plain data of the evaluator. -/
import Derived.WalkKit
set_option linter.unusedVariables false
set_option linter.unusedSimpArgs false
namespace Go.Proofs.YtiahijhpjloijaaGreat.V
open Go
/-- a key: 1, twice a key, twice a key and one -/
inductive Pos where
  | h
  | o (p : Pos)
  | i (p : Pos)
  deriving DecidableEq, Inhabited
namespace Pos
noncomputable def num (p : Pos) : Nat := Pos.rec 1 (fun _ n => Nat.mul 2 n) (fun _ n => Nat.succ (Nat.mul 2 n)) p
noncomputable def succ (p : Pos) : Pos := Pos.rec (.o .h) (fun p _ => .i p) (fun _ ih => .o ih) p
noncomputable def same (p : Pos) : Pos → Bool :=
  Pos.rec (fun q => Pos.rec true (fun _ _ => false) (fun _ _ => false) q)
    (fun _ ih q => Pos.rec false (fun q _ => ih q) (fun _ _ => false) q)
    (fun _ ih q => Pos.rec false (fun _ _ => false) (fun q _ => ih q) q) p
noncomputable def plus (n : Nat) (p : Pos) : Pos := Nat.rec p (fun _ q => succ q) n
theorem num_pos : ∀ p : Pos, 0 < p.num
  | .h => by show 0 < 1; omega
  | .o p => by have := num_pos p; show 0 < 2 * p.num; omega
  | .i p => by show 0 < Nat.succ _; omega
theorem num_o (p : Pos) : num (.o p) = 2 * num p := rfl
theorem num_i (p : Pos) : num (.i p) = 2 * num p + 1 := rfl
theorem num_inj : ∀ {p q : Pos}, num p = num q → p = q
  | .h, .h, _ => rfl
  | .o p, .o q, e => by rw [num_o, num_o] at e; rw [num_inj (p := p) (q := q) (by omega)]
  | .i p, .i q, e => by rw [num_i, num_i] at e; rw [num_inj (p := p) (q := q) (by omega)]
  | .h, .o q, e => by have := num_pos q; rw [num_o] at e; simp only [num] at e; have : (1 : Nat) = 2 * num q := e; omega
  | .h, .i q, e => by have := num_pos q; rw [num_i] at e; have : (1 : Nat) = 2 * num q + 1 := e; omega
  | .o q, .h, e => by have := num_pos q; rw [num_o] at e; have : 2 * num q = (1 : Nat) := e; omega
  | .i q, .h, e => by have := num_pos q; rw [num_i] at e; have : 2 * num q + 1 = (1 : Nat) := e; omega
  | .o p, .i q, e => by rw [num_o, num_i] at e; omega
  | .i p, .o q, e => by rw [num_o, num_i] at e; omega
theorem same_spec : ∀ {p q : Pos}, same p q = true ↔ p = q
  | .h, .h => by simp [same]
  | .o p, .o q => by have := same_spec (p := p) (q := q); simpa [same] using this
  | .i p, .i q => by have := same_spec (p := p) (q := q); simpa [same] using this
  | .h, .o q => by simp [same]
  | .h, .i q => by simp [same]
  | .o q, .h => by simp [same]
  | .i q, .h => by simp [same]
  | .o p, .i q => by simp [same]
  | .i p, .o q => by simp [same]
end Pos
inductive Tr (α : Type) where
  | e
  | n (l : Tr α) (v : Option α) (r : Tr α)
  deriving Inhabited
namespace Tr
variable {α : Type}
noncomputable def get (p : Pos) : Tr α → Option α :=
  Pos.rec (fun t => Tr.rec none (fun _ v _ _ _ => v) t)
    (fun _ ih t => Tr.rec none (fun l _ _ _ _ => ih l) t)
    (fun _ ih t => Tr.rec none (fun _ _ r _ _ => ih r) t) p
noncomputable def set (p : Pos) (x : α) : Tr α → Tr α :=
  Pos.rec (fun t => Tr.rec (.n .e (some x) .e) (fun l _ r _ _ => .n l (some x) r) t)
    (fun _ ih t => Tr.rec (.n (ih .e) none .e) (fun l v r _ _ => .n (ih l) v r) t)
    (fun _ ih t => Tr.rec (.n .e none (ih .e)) (fun l v r _ _ => .n l v (ih r)) t) p
theorem get_e (p : Pos) : get p (.e : Tr α) = none := by cases p <;> rfl
theorem get_set_eq (x : α) : ∀ (p : Pos) (t : Tr α), get p (set p x t) = some x
  | .h, .e => rfl
  | .h, .n _ _ _ => rfl
  | .o p, .e => get_set_eq x p .e
  | .o p, .n l _ _ => get_set_eq x p l
  | .i p, .e => get_set_eq x p .e
  | .i p, .n _ _ r => get_set_eq x p r
theorem get_set_ne (x : α) : ∀ {p q : Pos} (t : Tr α), p ≠ q → get q (set p x t) = get q t
  | .h, .h, _, h => absurd rfl h
  | .h, .o q, .e, _ => get_e q
  | .h, .o q, .n _ _ _, _ => rfl
  | .h, .i q, .e, _ => get_e q
  | .h, .i q, .n _ _ _, _ => rfl
  | .o p, .h, .e, _ => rfl
  | .o p, .h, .n _ _ _, _ => rfl
  | .o p, .o q, .e, h => (get_set_ne x (p := p) (q := q) .e (fun e => h (e ▸ rfl))).trans (get_e q)
  | .o p, .o q, .n l _ _, h => get_set_ne x (p := p) (q := q) l (fun e => h (e ▸ rfl))
  | .o p, .i q, .e, _ => get_e q
  | .o p, .i q, .n _ _ _, _ => rfl
  | .i p, .h, .e, _ => rfl
  | .i p, .h, .n _ _ _, _ => rfl
  | .i p, .i q, .e, h => (get_set_ne x (p := p) (q := q) .e (fun e => h (e ▸ rfl))).trans (get_e q)
  | .i p, .i q, .n _ _ r, h => get_set_ne x (p := p) (q := q) r (fun e => h (e ▸ rfl))
  | .i p, .o q, .e, _ => get_e q
  | .i p, .o q, .n _ _ _, _ => rfl
theorem get_set (x : α) (p q : Pos) (t : Tr α) : get q (set p x t) = if p = q then some x else get q t := by
  split
  · rename_i h; subst h; exact get_set_eq x p t
  · rename_i h; exact get_set_ne x t h
theorem set_comm (x y : α) : ∀ {p q : Pos} (t : Tr α), p ≠ q → set p x (set q y t) = set q y (set p x t)
  | .h, .h, _, h => absurd rfl h
  | .h, .o q, .e, _ => rfl
  | .h, .o q, .n _ _ _, _ => rfl
  | .h, .i q, .e, _ => rfl
  | .h, .i q, .n _ _ _, _ => rfl
  | .o p, .h, .e, _ => rfl
  | .o p, .h, .n _ _ _, _ => rfl
  | .o p, .o q, .e, h => congrArg (Tr.n · none .e) (set_comm x y (p := p) (q := q) .e (fun e => h (e ▸ rfl)))
  | .o p, .o q, .n l v r, h => congrArg (Tr.n · v r) (set_comm x y (p := p) (q := q) l (fun e => h (e ▸ rfl)))
  | .o p, .i q, .e, _ => rfl
  | .o p, .i q, .n _ _ _, _ => rfl
  | .i p, .h, .e, _ => rfl
  | .i p, .h, .n _ _ _, _ => rfl
  | .i p, .i q, .e, h => congrArg (Tr.n .e none ·) (set_comm x y (p := p) (q := q) .e (fun e => h (e ▸ rfl)))
  | .i p, .i q, .n l v r, h => congrArg (Tr.n l v ·) (set_comm x y (p := p) (q := q) r (fun e => h (e ▸ rfl)))
  | .i p, .o q, .e, _ => rfl
  | .i p, .o q, .n _ _ _, _ => rfl
theorem set_set (x y : α) : ∀ (p : Pos) (t : Tr α), set p x (set p y t) = set p x t
  | .h, .e => rfl
  | .h, .n _ _ _ => rfl
  | .o p, .e => congrArg (Tr.n · none .e) (set_set x y p .e)
  | .o p, .n l v r => congrArg (Tr.n · v r) (set_set x y p l)
  | .i p, .e => congrArg (Tr.n .e none ·) (set_set x y p .e)
  | .i p, .n l v r => congrArg (Tr.n l v ·) (set_set x y p r)
end Tr
/-- what one cell holds: numbers, truths, texts (their bytes), floats; some float that is no number; the nil slice; the nil pointer; an empty slice; a whole slice of an object (cells an element, elements); a part of one (where, elements); an address in one; nothing; what nobody asks -/
inductive C where
  | int (k : IntKind) (n : Int)
  | bool (b : Bool)
  | str (l : List Nat)
  | flt (bits : Nat)
  | nan
  | nil
  | np
  | emp
  | own (id : Pos) (k n : Nat)
  | sl (id : Pos) (k off n : Nat)
  | loc (id : Pos) (off : Nat)
  | un
  deriving Inhabited
inductive X where
  | one (c : C)
  | ag (l : List C)
  deriving Inhabited
inductive D where
  | one (c : C)
  | ag (l : List C)
  | tup (l : List X)
  deriving Inhabited
/-- an object: its elements' type, its cells; dead: another has its place -/
inductive Ob where
  | ob (e : Nat) (cs : List C)
  | dead
  deriving Inhabited
end Go.Proofs.YtiahijhpjloijaaGreat.V
