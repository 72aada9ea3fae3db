/- What plain data says of values, objects of blocks; what is kept from one world to the next. -/
import Derived.Test.YtiahijhpjloijaaGreatF2
import Derived.Test.YtiahijhpjloijaaGreatFl
set_option linter.unusedVariables false
set_option linter.unusedSimpArgs false
namespace Go.Proofs.YtiahijhpjloijaaGreat.V
open Go Go.RowKit
/-! ## Lists -/
/-- two lists, alike each to each -/
inductive Al {α β : Type} (R : α → β → Prop) : List α → List β → Prop where
  | nil : Al R [] []
  | cons {x : α} {y : β} {l : List α} {m : List β} (h : R x y) (t : Al R l m) : Al R (x :: l) (y :: m)
section lists
variable {α β : Type}
theorem nth_eq : ∀ (l : List α) (n : Nat), nth l n = l[n]?
  | [], n => rfl
  | x :: l, 0 => rfl
  | x :: l, n + 1 => nth_eq l n
theorem len_eq : ∀ (l : List α), len l = l.length
  | [] => rfl
  | x :: l => congrArg Nat.succ (len_eq l)
theorem app_eq : ∀ (l m : List α), app l m = l ++ m
  | [], m => rfl
  | x :: l, m => congrArg (x :: ·) (app_eq l m)
theorem drop_eq : ∀ (n : Nat) (l : List α), drop n l = l.drop n
  | 0, l => rfl
  | n + 1, [] => rfl
  | n + 1, x :: l => drop_eq n l
theorem take_eq : ∀ (n : Nat) (l : List α), take n l = l.take n
  | 0, l => rfl
  | n + 1, [] => rfl
  | n + 1, x :: l => congrArg (x :: ·) (take_eq n l)
theorem maps_eq (f : α → β) : ∀ (l : List α), maps f l = l.map f
  | [] => rfl
  | x :: l => congrArg (f x :: ·) (maps_eq f l)
theorem rep_zero (l : List α) : rep 0 l = [] := rfl
theorem rep_succ (n : Nat) (l : List α) : rep (n + 1) l = l ++ rep n l := app_eq _ _
theorem each_nil (f : α → Option β) : each f [] = some [] := rfl
theorem each_cons (f : α → Option β) (x : α) (l : List α) : each f (x :: l) = match f x with | some y => (match each f l with | some ys => some (y :: ys) | none => none) | none => none := by
  have : each f (x :: l) = @Option.rec β (fun _ => Option (List β)) none (fun y => @Option.rec (List β) (fun _ => Option (List β)) none (fun ys => some (y :: ys)) (each f l)) (f x) := rfl
  rw [this]
  generalize each f l = e
  cases f x <;> cases e <;> rfl
theorem each_spec (f : α → Option β) : ∀ (l : List α) (m : List β), each f l = some m → Al (fun x y => f x = some y) l m
  | [], m, h => by rw [each_nil] at h; cases h; exact .nil
  | x :: l, m, h => by
    rw [each_cons] at h
    split at h
    · rename_i y hy
      split at h
      · rename_i ys hys
        cases h
        exact .cons hy (each_spec f l ys hys)
      · cases h
    · cases h
theorem splice_nil (n : Nat) (l : List α) : splice ([] : List α) n l = l := rfl
theorem splice_zero (x : α) (new : List α) (y : α) (l : List α) : splice (x :: new) 0 (y :: l) = x :: splice new 0 l := rfl
theorem splice_succ (x : α) (new : List α) (n : Nat) (y : α) (l : List α) : splice (x :: new) (n + 1) (y :: l) = y :: splice (x :: new) n l := rfl
theorem splice_e (x : α) (new : List α) : ∀ n, splice (x :: new) n ([] : List α) = []
  | 0 => rfl
  | n + 1 => rfl
theorem splice_len : ∀ (new : List α) (n : Nat) (l : List α), (splice new n l).length = l.length
  | [], n, l => rfl
  | x :: new, n, [] => by rw [splice_e]
  | x :: new, 0, y :: l => by rw [splice_zero]; simp [splice_len new 0 l]
  | x :: new, n + 1, y :: l => by rw [splice_succ]; simp [splice_len (x :: new) n l]
theorem splice_get : ∀ (new : List α) (n : Nat) (l : List α), n + new.length ≤ l.length → ∀ i, (splice new n l)[i]? = if n ≤ i ∧ i < n + new.length then new[i - n]? else l[i]?
  | [], n, l, _, i => by rw [splice_nil, if_neg (by simp)]
  | x :: new, n, [], h, i => by simp at h
  | x :: new, 0, y :: l, h, i => by
    rw [splice_zero]
    cases i with
    | zero => simp
    | succ i =>
      have := splice_get new 0 l (by simp at h; omega) i
      simp only [List.getElem?_cons_succ, this, List.length_cons]
      by_cases hi : i < new.length
      · rw [if_pos (by omega), if_pos (by omega)]; simp
      · rw [if_neg (by omega), if_neg (by omega)]
  | x :: new, n + 1, y :: l, h, i => by
    rw [splice_succ]
    cases i with
    | zero => rw [if_neg (by omega)]; rfl
    | succ i =>
      have := splice_get (x :: new) n l (by simp at h ⊢; omega) i
      simp only [List.getElem?_cons_succ, this]
      by_cases hi : n ≤ i ∧ i < n + (x :: new).length
      · rw [if_pos hi, if_pos (by omega)]; congr 1; omega
      · rw [if_neg hi, if_neg (by omega)]
theorem Al.len {R : α → β → Prop} {l : List α} {m : List β} (h : Al R l m) : l.length = m.length := by
  induction h with
  | nil => rfl
  | cons _ _ ih => simp [ih]
theorem Al.get {R : α → β → Prop} {l : List α} {m : List β} (h : Al R l m) : ∀ {i : Nat} {x : α}, l[i]? = some x → ∃ y, m[i]? = some y ∧ R x y := by
  induction h with
  | nil => intro i x h; simp at h
  | cons hr _ ih =>
    intro i x h
    cases i with
    | zero => simp at h; subst h; exact ⟨_, rfl, hr⟩
    | succ i => simp at h; simpa using ih h
theorem Al.of {R : α → β → Prop} : ∀ {l : List α} {m : List β}, l.length = m.length → (∀ (i : Nat) (x : α) (y : β), l[i]? = some x → m[i]? = some y → R x y) → Al R l m
  | [], [], _, _ => .nil
  | x :: l, y :: m, hl, h => .cons (h 0 x y rfl rfl) (Al.of (by simpa using hl) (fun i x y hx hy => h (i + 1) x y (by simpa using hx) (by simpa using hy)))
theorem Al.imp {R S : α → β → Prop} (hi : ∀ x y, R x y → S x y) {l : List α} {m : List β} (h : Al R l m) : Al S l m := by
  induction h with
  | nil => exact .nil
  | cons hr _ ih => exact .cons (hi _ _ hr) ih
theorem Al.app {R : α → β → Prop} {l l' : List α} {m m' : List β} (h : Al R l m) (h' : Al R l' m') : Al R (l ++ l') (m ++ m') := by
  induction h with
  | nil => exact h'
  | cons hr _ ih => exact .cons hr ih
theorem Al.take {R : α → β → Prop} {l : List α} {m : List β} (n : Nat) (h : Al R l m) : Al R (l.take n) (m.take n) := by
  induction h generalizing n with
  | nil => simpa using Al.nil
  | cons hr _ ih => cases n with
    | zero => simpa using Al.nil
    | succ n => exact .cons hr (ih n)
theorem Al.drop {R : α → β → Prop} {l : List α} {m : List β} (n : Nat) (h : Al R l m) : Al R (l.drop n) (m.drop n) := by
  induction h generalizing n with
  | nil => simpa using Al.nil
  | cons hr h' ih => cases n with
    | zero => exact .cons hr h'
    | succ n => simpa using ih n
end lists
/-! ## Values -/
abbrev Blk := Pos → Option (Nat × Nat)
def isNan (b : Nat) : Prop := Fl.isN b = true ∧ b < 18446744073709551616
def CV (β : Blk) : C → Value → Prop
  | .int k n, v => v = .int k n
  | .bool b, v => v = .bool b
  | .str l, v => v = .string (strB l) ∧ ∀ x ∈ l, x < 256
  | .flt b, v => v = .float .f64 b
  | .nan, v => ∃ b, v = .float .f64 b ∧ isNan b
  | .nil, v => v = .slice none 0 0
  | .np, v => v = .pointer none
  | .emp, v => ∃ a cap, v = .slice (some a) 0 cap
  | .own id k n, v => ∃ b sz cap, β id = some (b, sz) ∧ v = .slice (some ⟨b, 0, none⟩) n cap ∧ n ≤ cap ∧ cap * k ≤ sz ∧ 0 < k
  | .sl id k off n, v => ∃ b sz cap, β id = some (b, sz) ∧ v = .slice (some ⟨b, off, none⟩) n cap ∧ n ≤ cap ∧ 0 < k
  | .loc id off, v => ∃ b sz, β id = some (b, sz) ∧ v = .pointer (some ⟨b, off, none⟩)
  | .un, v => v = undef
/-- what a cell in a row holds -/
def CK (β : Blk) (c : C) (v : Value) : Prop := CV β c v ∧ c ≠ .un
def XV (β : Blk) : X → Value → Prop
  | .one c, v => CV β c v
  | .ag l, v => ∃ vs, v = .agg vs ∧ Al (CK β) l vs.toList
def DV (β : Blk) : D → Value → Prop
  | .one c, v => CV β c v
  | .ag l, v => ∃ vs, v = .agg vs ∧ Al (CK β) l vs.toList
  | .tup l, v => ∃ vs, v = .tuple vs ∧ Al (XV β) l vs.toList
def Ext (β β' : Blk) : Prop := ∀ id x, β id = some x → β' id = some x
theorem CV.ext {β β' : Blk} (h : Ext β β') : ∀ {c : C} {v : Value}, CV β c v → CV β' c v := by
  intro c v hc
  cases c <;> simp only [CV] at hc ⊢ <;> first
    | exact hc
    | (obtain ⟨b, sz, cap, hb, r⟩ := hc; exact ⟨b, sz, cap, h _ _ hb, r⟩)
    | (obtain ⟨b, sz, hb, r⟩ := hc; exact ⟨b, sz, h _ _ hb, r⟩)
theorem CK.ext {β β' : Blk} (h : Ext β β') {c : C} {v : Value} (hc : CK β c v) : CK β' c v := ⟨hc.1.ext h, hc.2⟩
theorem XV.ext {β β' : Blk} (h : Ext β β') : ∀ {c : X} {v : Value}, XV β c v → XV β' c v := by
  intro c v hc
  cases c with
  | one c => exact CV.ext h hc
  | ag l => obtain ⟨vs, e, hf⟩ := hc; exact ⟨vs, e, Al.imp (fun _ _ => CK.ext h) hf⟩
theorem DV.ext {β β' : Blk} (h : Ext β β') : ∀ {c : D} {v : Value}, DV β c v → DV β' c v := by
  intro c v hc
  cases c with
  | one c => exact CV.ext h hc
  | ag l => obtain ⟨vs, e, hf⟩ := hc; exact ⟨vs, e, Al.imp (fun _ _ => CK.ext h) hf⟩
  | tup l => obtain ⟨vs, e, hf⟩ := hc; exact ⟨vs, e, Al.imp (fun _ _ => XV.ext h) hf⟩
theorem CV.one {β : Blk} {c : C} {v : Value} (h : CV β c v) : v.oneCell' = true ∨ c = .un := by
  cases c <;> simp only [CV] at h
  case un => exact .inr rfl
  all_goals left
  case int => subst h; rfl
  case bool => subst h; rfl
  case str => obtain ⟨rfl, _⟩ := h; rfl
  case flt => subst h; rfl
  case nan => obtain ⟨b, rfl, _⟩ := h; rfl
  case nil => subst h; rfl
  case np => subst h; rfl
  case emp => obtain ⟨a, c, rfl⟩ := h; rfl
  case own => obtain ⟨b, sz, c, _, rfl, _⟩ := h; rfl
  case sl => obtain ⟨b, sz, c, _, rfl, _⟩ := h; rfl
  case loc => obtain ⟨b, sz, _, rfl⟩ := h; rfl
theorem CK.one {β : Blk} {c : C} {v : Value} (h : CK β c v) : v.oneCell' = true := h.1.one.resolve_right h.2
theorem Al.one {β : Blk} {l : List C} {vs : List Value} (h : Al (CK β) l vs) : ∀ v ∈ vs, v.oneCell' = true := by
  induction h with
  | nil => intro v hv; cases hv
  | cons hr _ ih => intro v hv; cases hv with
    | head => exact hr.one
    | tail _ hv => exact ih v hv
/-! ## Objects and blocks -/
def free (fz : Nat × Nat) (n : Nat) : Prop := ∀ off, off < n → ¬ (fz.1 ≤ off ∧ off < fz.2)
structure HV (β : Blk) (hp : Tr Ob) (w : World) : Prop where
  dom : ∀ id x, β id = some x → ∃ o, Tr.get id hp = some o
  inj : ∀ id id' e cs e' cs' b sz sz', Tr.get id hp = some (.ob e cs) → Tr.get id' hp = some (.ob e' cs') → β id = some (b, sz) → β id' = some (b, sz') → id = id'
  obj : ∀ id e cs, Tr.get id hp = some (.ob e cs) → ∃ b c fz, β id = some (b, c.size) ∧ w.heap[b]? = some (.cells c e fz) ∧ cs.length ≤ c.size ∧
    (∀ (i : Nat) (x : C), cs[i]? = some x → ∃ v : Value, c[i]? = some v ∧ CK β x v) ∧ free fz c.size
/-- what turns between two worlds: blocks that are nobody's stay -/
structure Mv (β : Blk) (w : World) (β' : Blk) (w' : World) : Prop where
  ext : Ext β β'
  src : ∀ id b sz, β' id = some (b, sz) → (∃ id0 sz0, β id0 = some (b, sz0)) ∨ w.heap.size ≤ b
  os : w'.os = w.os
  tape : w'.tape = w.tape
  output : w'.output = w.output
  size : w.heap.size ≤ w'.heap.size
  block : ∀ k, k < w.heap.size → (∀ id sz, β id ≠ some (k, sz)) → w'.heap[k]? = w.heap[k]?
theorem Mv.refl (β : Blk) (w : World) : Mv β w β w :=
  ⟨fun _ _ h => h, fun id b sz h => .inl ⟨id, sz, h⟩, rfl, rfl, rfl, Nat.le_refl _, fun _ _ _ => rfl⟩
theorem Mv.trans {β β' β'' : Blk} {w w' w'' : World} (h : Mv β w β' w') (k : Mv β' w' β'' w'') : Mv β w β'' w'' where
  ext := fun id x hx => k.ext id x (h.ext id x hx)
  src := fun id b sz hb => by
    rcases k.src id b sz hb with ⟨id0, sz0, h0⟩ | hlt
    · exact h.src id0 b sz0 h0
    · exact .inr (Nat.le_trans h.size hlt)
  os := k.os.trans h.os
  tape := k.tape.trans h.tape
  output := k.output.trans h.output
  size := Nat.le_trans h.size k.size
  block := fun j hj hn => by
    rw [k.block j (Nat.lt_of_lt_of_le hj h.size) (fun id sz hb => by
      rcases h.src id j sz hb with ⟨id0, sz0, h0⟩ | hlt
      · exact hn id0 sz0 h0
      · omega), h.block j hj hn]
theorem Mv.below {β : Blk} {w w' : World} (h : Mv (fun _ => none) w β w') : Below w.heap.size w w' :=
  ⟨h.os, h.tape, h.output, h.size, fun k hk => h.block k hk (fun _ _ h => by cases h)⟩
/-- a draw -/
theorem Mv.drew {β : Blk} {w : World} (n : Nat) : Mv β w β { w with drawn := n } :=
  ⟨fun _ _ h => h, fun id b sz h => .inl ⟨id, sz, h⟩, rfl, rfl, rfl, Nat.le_refl _, fun _ _ _ => rfl⟩
theorem HV.drew {β : Blk} {hp : Tr Ob} {w : World} (h : HV β hp w) (n : Nat) : HV β hp { w with drawn := n } := ⟨h.dom, h.inj, h.obj⟩
theorem HV.lt {β : Blk} {hp : Tr Ob} {w : World} (h : HV β hp w) {id : Pos} {e : Nat} {cs : List C} (hg : Tr.get id hp = some (.ob e cs)) {b sz : Nat} (hb : β id = some (b, sz)) : b < w.heap.size := by
  obtain ⟨b', c, fz, hb', hh, _⟩ := h.obj id e cs hg
  rw [hb] at hb'; cases hb'
  exact (Array.getElem?_eq_some_iff.1 hh).1
theorem objc_eq {hp : Tr Ob} {id : Pos} {cs : List C} (h : objc hp id = some cs) : ∃ e, Tr.get id hp = some (.ob e cs) := by
  unfold objc at h
  cases hg : Tr.get id hp with
  | none => rw [hg] at h; cases h
  | some o => rw [hg] at h; cases o with
    | ob e cs' => exact ⟨e, by cases h; rfl⟩
    | dead => cases h
def Blk.add (β : Blk) (id : Pos) (x : Nat × Nat) : Blk := fun j => if j = id then some x else β j
theorem Blk.add_self (β : Blk) (id : Pos) (x : Nat × Nat) : β.add id x id = some x := by simp [Blk.add]
theorem Blk.add_ext {β : Blk} {id : Pos} {x : Nat × Nat} (h : β id = none) : Ext β (β.add id x) := by
  intro j y hj
  unfold Blk.add
  split
  · rename_i e; subst e; rw [h] at hj; cases hj
  · exact hj
theorem HV.absent {β : Blk} {hp : Tr Ob} {w : World} (h : HV β hp w) {id : Pos} (hn : Tr.get id hp = none) : β id = none := by
  cases hb : β id with
  | none => rfl
  | some x => obtain ⟨o, ho⟩ := h.dom id x hb; rw [hn] at ho; cases ho
/-- a new object in a new block -/
theorem HV.new {β : Blk} {hp : Tr Ob} {w w' : World} {nid : Pos} {e : Nat} {cs : List C} {c : Array Value} {fz : Nat × Nat}
    (h : HV β hp w) (hn : Tr.get nid hp = none) (hlen : cs.length ≤ c.size) (hc : ∀ (i : Nat) (x : C), cs[i]? = some x → ∃ v : Value, c[i]? = some v ∧ CK β x v) (hf : free fz c.size)
    (hsz : w.heap.size < w'.heap.size) (hold : ∀ k, k < w.heap.size → w'.heap[k]? = w.heap[k]?) (hnew : w'.heap[w.heap.size]? = some (.cells c e fz))
    (hos : w'.os = w.os) (htape : w'.tape = w.tape) (hout : w'.output = w.output) :
    HV (β.add nid (w.heap.size, c.size)) (Tr.set nid (.ob e cs) hp) w' ∧ Mv β w (β.add nid (w.heap.size, c.size)) w' := by
  have hb0 := h.absent hn
  have hext := Blk.add_ext (x := (w.heap.size, c.size)) hb0
  constructor
  · refine ⟨fun id x hx => ?_, ?_, ?_⟩
    · by_cases hid : nid = id
      · subst hid; exact ⟨_, Tr.get_set_eq _ _ _⟩
      · rw [Tr.get_set_ne _ _ hid]
        simp only [Blk.add, if_neg (Ne.symm hid)] at hx
        exact h.dom id x hx
    · intro id id' e1 cs1 e2 cs2 b sz sz' h1 h2 hb hb'
      by_cases hid : nid = id
      · by_cases hid' : nid = id'
        · exact hid.symm.trans hid'
        · subst hid
          rw [Tr.get_set_ne _ _ hid'] at h2
          simp only [Blk.add, if_neg (Ne.symm hid')] at hb'
          have := h.lt h2 hb'
          rw [Blk.add_self] at hb; cases hb; omega
      · by_cases hid' : nid = id'
        · subst hid'
          rw [Tr.get_set_ne _ _ hid] at h1
          simp only [Blk.add, if_neg (Ne.symm hid)] at hb
          have := h.lt h1 hb
          rw [Blk.add_self] at hb'; cases hb'; omega
        · rw [Tr.get_set_ne _ _ hid] at h1
          rw [Tr.get_set_ne _ _ hid'] at h2
          simp only [Blk.add, if_neg (Ne.symm hid)] at hb
          simp only [Blk.add, if_neg (Ne.symm hid')] at hb'
          exact h.inj id id' _ _ _ _ b sz sz' h1 h2 hb hb'
    · intro id e1 cs1 hg
      by_cases hid : nid = id
      · subst hid
        rw [Tr.get_set_eq] at hg; cases hg
        exact ⟨w.heap.size, c, fz, Blk.add_self _ _ _, hnew, hlen, fun i x hx => let ⟨v, hv, hcv⟩ := hc i x hx; ⟨v, hv, hcv.ext hext⟩, hf⟩
      · rw [Tr.get_set_ne _ _ hid] at hg
        obtain ⟨b, c', fz', hb, hh, hl, hcs, hfr⟩ := h.obj id e1 cs1 hg
        have hlt := h.lt hg hb
        exact ⟨b, c', fz', hext _ _ hb, (hold b hlt).trans hh, hl, fun i x hx => let ⟨v, hv, hcv⟩ := hcs i x hx; ⟨v, hv, hcv.ext hext⟩, hfr⟩
  · refine ⟨hext, fun id b sz hb => ?_, hos, htape, hout, Nat.le_of_lt hsz, fun k hk _ => hold k hk⟩
    by_cases hid : id = nid
    · subst hid; rw [Blk.add_self] at hb; cases hb; exact .inr (Nat.le_refl _)
    · simp only [Blk.add, if_neg hid] at hb; exact .inl ⟨id, sz, hb⟩
theorem heap_setRow_other (w : World) (g k : Nat) (cs : Array Value) (h : k ≠ g) : (w.setRow g cs).heap[k]? = w.heap[k]? := by
  simp only [World.setRow, Array.getElem?_modify]
  rw [if_neg (fun e => h e.symm)]
/-- cells of an object are written -/
theorem HV.put {β : Blk} {hp : Tr Ob} {w : World} {id : Pos} {e : Nat} {cs l : List C} {off b : Nat} {c : Array Value} {fz : Nat × Nat} {vs : List Value}
    (h : HV β hp w) (hg : Tr.get id hp = some (.ob e cs)) (hb : β id = some (b, c.size)) (hh : w.heap[b]? = some (.cells c e fz))
    (hl : off + l.length ≤ cs.length) (hv : Al (CK β) l vs) :
    HV β (Tr.set id (.ob e (splice l off cs)) hp) (w.setRow b (c.toList.take off ++ vs ++ c.toList.drop (off + vs.length)).toArray) ∧
    Mv β w β (w.setRow b (c.toList.take off ++ vs ++ c.toList.drop (off + vs.length)).toArray) := by
  have hlv := Al.len hv
  obtain ⟨b', c', fz', hb', hh', hlen, hcs, hfr⟩ := h.obj id e cs hg
  rw [hb] at hb'
  have ebb : b = b' := congrArg Prod.fst (Option.some.inj hb')
  subst ebb
  rw [hh] at hh'
  obtain ⟨ecc, _, eff⟩ : c = c' ∧ e = e ∧ fz = fz' := by injection hh' with hh'; injection hh' with h1 h2 h3; exact ⟨h1, rfl, h3⟩
  subst ecc; subst eff
  have hsz : (c.toList.take off ++ vs ++ c.toList.drop (off + vs.length)).toArray.size = c.size := by simp; omega
  constructor
  · refine ⟨fun j x hx => ?_, ?_, ?_⟩
    · by_cases hid : id = j
      · subst hid; exact ⟨_, Tr.get_set_eq _ _ _⟩
      · rw [Tr.get_set_ne _ _ hid]; exact h.dom j x hx
    · intro i1 i2 e1 cs1 e2 cs2 b1 sz sz' h1 h2 hb1 hb2
      have up : ∀ j e1 cs1, Tr.get j (Tr.set id (.ob e (splice l off cs)) hp) = some (.ob e1 cs1) → ∃ e2 cs2, Tr.get j hp = some (.ob e2 cs2) := by
        intro j e1 cs1 hj
        by_cases hid : id = j
        · subst hid; exact ⟨e, cs, hg⟩
        · rw [Tr.get_set_ne _ _ hid] at hj; exact ⟨e1, cs1, hj⟩
      obtain ⟨_, _, k1⟩ := up _ _ _ h1
      obtain ⟨_, _, k2⟩ := up _ _ _ h2
      exact h.inj i1 i2 _ _ _ _ b1 sz sz' k1 k2 hb1 hb2
    · intro j e1 cs1 hj
      by_cases hid : id = j
      · subst hid
        rw [Tr.get_set_eq] at hj; cases hj
        refine ⟨b, _, fz, by rw [hsz]; exact hb, setRow_heap w b c _ e fz hh, by rw [splice_len, hsz]; exact hlen, fun i x hx => ?_, by rw [hsz]; exact hfr⟩
        rw [splice_get l off cs hl] at hx
        split at hx
        · rename_i hi
          obtain ⟨v, hv', hcv⟩ := Al.get hv hx
          refine ⟨v, ?_, hcv⟩
          rw [List.getElem?_toArray, List.getElem?_append_left (by simp; omega), List.getElem?_append_right (by simp; omega)]
          simpa [Nat.min_eq_left (show off ≤ c.size by omega)] using hv'
        · rename_i hi
          obtain ⟨v, hv', hcv⟩ := hcs i x hx
          refine ⟨v, ?_, hcv⟩
          have hix : i < cs.length := (List.getElem?_eq_some_iff.1 hx).1
          rw [List.getElem?_toArray]
          by_cases hio : i < off
          · rw [List.getElem?_append_left (by simp; omega), List.getElem?_append_left (by simp; omega), List.getElem?_take_of_lt hio]
            simpa using hv'
          · rw [List.getElem?_append_right (by simp; omega), List.getElem?_drop]
            simp only [List.length_append, List.length_take, Array.length_toList]
            rw [show off + vs.length + (i - (min off c.size + vs.length)) = i from by omega]
            simpa using hv'
      · rw [Tr.get_set_ne _ _ hid] at hj
        obtain ⟨b2, c2, fz2, hb2, hh2, hl2, hc2, hf2⟩ := h.obj j e1 cs1 hj
        have hne : b2 ≠ b := fun eb => hid (h.inj id j _ _ _ _ b _ _ hg hj hb (eb ▸ hb2))
        exact ⟨b2, c2, fz2, hb2, (heap_setRow_other w b b2 _ hne).trans hh2, hl2, hc2, hf2⟩
  · refine ⟨fun _ _ h => h, fun j b sz h => .inl ⟨j, sz, h⟩, rfl, rfl, rfl, by simp, fun k hk hn => heap_setRow_other w b k _ (fun e => hn id c.size (e ▸ hb))⟩
/-- an object that goes: nothing is said of it any more -/
theorem HV.die {β : Blk} {hp : Tr Ob} {w : World} (h : HV β hp w) (id : Pos) : HV β (Tr.set id .dead hp) w := by
  have up : ∀ j e1 cs1, Tr.get j (Tr.set id Ob.dead hp) = some (.ob e1 cs1) → id ≠ j ∧ Tr.get j hp = some (.ob e1 cs1) := by
    intro j e1 cs1 hj
    by_cases hid : id = j
    · subst hid; rw [Tr.get_set_eq] at hj; cases hj
    · rw [Tr.get_set_ne _ _ hid] at hj; exact ⟨hid, hj⟩
  refine ⟨fun j x hx => ?_, fun i1 i2 e1 cs1 e2 cs2 b sz sz' h1 h2 => h.inj i1 i2 e1 cs1 e2 cs2 b sz sz' (up _ _ _ h1).2 (up _ _ _ h2).2, fun j e1 cs1 hj => h.obj j e1 cs1 (up _ _ _ hj).2⟩
  by_cases hid : id = j
  · subst hid; exact ⟨_, Tr.get_set_eq _ _ _⟩
  · rw [Tr.get_set_ne _ _ hid]; exact h.dom j x hx
/-- an object takes another's block, with more in it -/
theorem HV.move {β : Blk} {hp : Tr Ob} {w : World} {id nid : Pos} {e : Nat} {cs l : List C} {b : Nat} {c : Array Value} {fz : Nat × Nat} {vs : List Value}
    (h : HV β hp w) (hn : Tr.get nid hp = none) (hg : Tr.get id hp = some (.ob e cs)) (hb : β id = some (b, c.size)) (hh : w.heap[b]? = some (.cells c e fz))
    (hl : cs.length + l.length ≤ c.size) (hv : Al (CK β) l vs) :
    HV (β.add nid (b, c.size)) (Tr.set nid (.ob e (cs ++ l)) (Tr.set id .dead hp)) (w.setRow b (c.toList.take cs.length ++ vs ++ c.toList.drop (cs.length + vs.length)).toArray) ∧
    Mv β w (β.add nid (b, c.size)) (w.setRow b (c.toList.take cs.length ++ vs ++ c.toList.drop (cs.length + vs.length)).toArray) := by
  have hlv := Al.len hv
  have hb0 := h.absent hn
  have hext := Blk.add_ext (x := (b, c.size)) hb0
  have hni : nid ≠ id := fun e => by subst e; rw [hn] at hg; cases hg
  obtain ⟨b', c', fz', hb', hh', hlen, hcs, hfr⟩ := h.obj id e cs hg
  rw [hb] at hb'
  have ebb : b = b' := congrArg Prod.fst (Option.some.inj hb')
  subst ebb
  rw [hh] at hh'
  obtain ⟨ecc, _, eff⟩ : c = c' ∧ e = e ∧ fz = fz' := by injection hh' with hh'; injection hh' with h1 h2 h3; exact ⟨h1, rfl, h3⟩
  subst ecc; subst eff
  have hsz : (c.toList.take cs.length ++ vs ++ c.toList.drop (cs.length + vs.length)).toArray.size = c.size := by simp; omega
  have up : ∀ j e1 cs1, j ≠ nid → Tr.get j (Tr.set nid (.ob e (cs ++ l)) (Tr.set id Ob.dead hp)) = some (.ob e1 cs1) → id ≠ j ∧ Tr.get j hp = some (.ob e1 cs1) := by
    intro j e1 cs1 hjn hj
    rw [Tr.get_set_ne _ _ (Ne.symm hjn)] at hj
    by_cases hid : id = j
    · subst hid; rw [Tr.get_set_eq] at hj; cases hj
    · rw [Tr.get_set_ne _ _ hid] at hj; exact ⟨hid, hj⟩
  constructor
  · refine ⟨fun j x hx => ?_, ?_, ?_⟩
    · by_cases hid : nid = j
      · subst hid; exact ⟨_, Tr.get_set_eq _ _ _⟩
      · rw [Tr.get_set_ne _ _ hid]
        simp only [Blk.add, if_neg (Ne.symm hid)] at hx
        by_cases hid2 : id = j
        · subst hid2; exact ⟨_, Tr.get_set_eq _ _ _⟩
        · rw [Tr.get_set_ne _ _ hid2]; exact h.dom j x hx
    · intro i1 i2 e1 cs1 e2 cs2 b1 sz sz' h1 h2 hb1 hb2
      by_cases e1 : i1 = nid
      · by_cases e2 : i2 = nid
        · exact e1.trans e2.symm
        · obtain ⟨hd, hj⟩ := up _ _ _ e2 h2
          simp only [Blk.add, if_neg e2] at hb2
          subst e1; rw [Blk.add_self] at hb1; cases hb1
          exact absurd (h.inj id i2 _ _ _ _ b _ _ hg hj hb hb2) hd
      · obtain ⟨hd1, hj1⟩ := up _ _ _ e1 h1
        simp only [Blk.add, if_neg e1] at hb1
        by_cases e2 : i2 = nid
        · subst e2; rw [Blk.add_self] at hb2; cases hb2
          exact absurd (h.inj id i1 _ _ _ _ b _ _ hg hj1 hb hb1) hd1
        · obtain ⟨hd2, hj2⟩ := up _ _ _ e2 h2
          simp only [Blk.add, if_neg e2] at hb2
          exact h.inj i1 i2 _ _ _ _ b1 sz sz' hj1 hj2 hb1 hb2
    · intro j e1 cs1 hj
      by_cases hid : j = nid
      · subst hid
        rw [Tr.get_set_eq] at hj; cases hj
        refine ⟨b, _, fz, by rw [hsz]; exact Blk.add_self _ _ _, setRow_heap w b c _ e fz hh, by rw [hsz]; simp; omega, fun i x hx => ?_, by rw [hsz]; exact hfr⟩
        rw [List.getElem?_toArray]
        by_cases hi : i < cs.length
        · rw [List.getElem?_append_left hi] at hx
          obtain ⟨v, hv', hcv⟩ := hcs i x hx
          refine ⟨v, ?_, hcv.ext hext⟩
          rw [List.getElem?_append_left (by simp; omega), List.getElem?_append_left (by simp; omega), List.getElem?_take_of_lt hi]
          simpa using hv'
        · rw [List.getElem?_append_right (by omega)] at hx
          obtain ⟨v, hv', hcv⟩ := Al.get hv hx
          have hil : i - cs.length < l.length := (List.getElem?_eq_some_iff.1 hx).1
          refine ⟨v, ?_, hcv.ext hext⟩
          rw [List.getElem?_append_left (by simp; omega), List.getElem?_append_right (by simp; omega)]
          simpa [Nat.min_eq_left hlen] using hv'
      · obtain ⟨hd, hj'⟩ := up _ _ _ hid hj
        obtain ⟨b2, c2, fz2, hb2, hh2, hl2, hc2, hf2⟩ := h.obj j e1 cs1 hj'
        have hne : b2 ≠ b := fun eb => hd (h.inj id j _ _ _ _ b _ _ hg hj' hb (eb ▸ hb2))
        exact ⟨b2, c2, fz2, hext _ _ hb2, (heap_setRow_other w b b2 _ hne).trans hh2, hl2, fun i x hx => let ⟨v, hv, hcv⟩ := hc2 i x hx; ⟨v, hv, hcv.ext hext⟩, hf2⟩
  · refine ⟨hext, fun j b1 sz hb1 => ?_, rfl, rfl, rfl, by simp, fun k hk hn => heap_setRow_other w b k _ (fun e => hn id c.size (e ▸ hb))⟩
    by_cases hid : j = nid
    · subst hid; rw [Blk.add_self] at hb1; cases hb1; exact .inl ⟨id, _, hb⟩
    · simp only [Blk.add, if_neg hid] at hb1; exact .inl ⟨j, sz, hb1⟩
end Go.Proofs.YtiahijhpjloijaaGreat.V
