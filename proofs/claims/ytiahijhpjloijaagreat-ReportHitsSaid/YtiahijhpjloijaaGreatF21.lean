/- What is checked of a region whose order is drawn; control. -/
import Derived.Test.YtiahijhpjloijaaGreatF20
set_option linter.unusedVariables false
set_option linter.unusedSimpArgs false
namespace Go.Proofs.YtiahijhpjloijaaGreat.V
open Go Go.RowKit
noncomputable def maskOf (l : List (Nat × Ins)) (i : Nat) : Nat := List.rec 0 (fun z _ ih => Bool.rec ih z.2.fr (Nat.beq z.1 i)) l
noncomputable def freeL (l : List (Nat × Ins)) (j i : Nat) : Bool := Bool.rec (Nat.testBit (maskOf l j) i) (Nat.testBit (maskOf l i) j) (Nat.blt j i)
def dyn (a b : Nat) : Bool := Nat.blt 0 a && (Nat.blt 0 b && (Nat.blt 1 a || Nat.blt 1 b))
noncomputable def inL (p q : Nat) (l : List (Nat × Nat)) : Bool := any (fun z => Nat.beq z.1 p && Nat.beq z.2 q) l
noncomputable def pair1 (free : Nat → Nat → Bool) (chk : List (Nat × Nat)) (p q : Nat) (z y : Nat × Ins) : Bool :=
  !(Nat.beq z.1 y.1) && ((!(free z.1 y.1) || (pairOk z.2 y.2 && (!(dyn (cls z.2.op) (cls y.2.op)) || inL p q chk))) && (!(Nat.blt y.1 z.1) || free z.1 y.1))
noncomputable def pairR (free : Nat → Nat → Bool) (chk : List (Nat × Nat)) (p : Nat) (z : Nat × Ins) : Nat → List (Nat × Ins) → Bool
  | _, [] => true
  | q, y :: l => pair1 free chk p q z y && pairR free chk p z (q + 1) l
noncomputable def pairsB (free : Nat → Nat → Bool) (chk : List (Nat × Nat)) : Nat → List (Nat × Ins) → Bool
  | _, [] => true
  | p, z :: l => pairR free chk p z (p + 1) l && pairsB free chk (p + 1) l
noncomputable def viaB (free : Nat → Nat → Bool) : Nat → List Oper → Bool
  | _, [] => true
  | i, o :: l => (o.after.all (fun e => !(Region.binds .any e) || Nat.blt e.on i) &&
      (List.range i).all (fun j => free j i || o.after.any (fun e => Region.binds .any e && (Nat.beq e.on j || (Nat.blt j e.on && !(free j e.on)))))) && viaB free (i + 1) l
noncomputable def fitDr (P : Program) (n : Nat) (ops : Array Oper) (l : List (Nat × Ins)) (chk : List (Nat × Nat)) : Bool :=
  l.all (fun z => match ops[z.1]? with | some o => fitIns P n ops z.2 o | none => false) &&
  ((List.range ops.size).all (fun i => l.any (fun z => Nat.beq z.1 i)) && (viaB (freeL l) 0 ops.toList && (pairsB (freeL l) chk 0 l && Nat.beq l.length ops.size)))
section
variable {P : Program} {O : Oracle} {base : Pos}
theorem viaB_ok {free : Nat → Nat → Bool} : ∀ {l : List Oper} {k i : Nat} {o : Oper}, viaB free k l = true → l[i]? = some o →
    (∀ e ∈ o.after, Region.binds .any e = true → e.on < k + i) ∧ (∀ j, j < k + i → free j (k + i) = false → ∃ e ∈ o.after, Region.binds .any e = true ∧ (e.on = j ∨ (j < e.on ∧ free j e.on = false)))
  | [], _, _, _, _, h => by simp at h
  | o' :: l, k, 0, o, h, hi => by
    simp only [List.getElem?_cons_zero, Option.some.injEq] at hi
    subst hi
    simp only [viaB, Bool.and_eq_true] at h
    obtain ⟨⟨h1, h2⟩, _⟩ := h
    rw [Array.all_eq_true_iff_forall_mem] at h1
    rw [List.all_eq_true] at h2
    refine ⟨fun e he hb => ?_, fun j hj hf => ?_⟩
    · have := h1 e he
      rw [hb] at this
      simp only [Bool.not_true, Bool.false_or, blt_iff] at this
      simpa using this
    · have := h2 j (List.mem_range.2 (by simpa using hj))
      rw [Nat.add_zero] at hf
      rw [hf, Bool.false_or, Array.any_eq_true'] at this
      obtain ⟨e, he, hb⟩ := this
      simp only [Bool.and_eq_true, Bool.or_eq_true, beq_iff, blt_iff, Bool.not_eq_true'] at hb
      exact ⟨e, he, hb.1, hb.2⟩
  | o' :: l, k, i + 1, o, h, hi => by
    simp only [List.getElem?_cons_succ] at hi
    simp only [viaB, Bool.and_eq_true] at h
    have := viaB_ok h.2 hi
    rw [show k + 1 + i = k + (i + 1) from by omega] at this
    exact this
theorem pairR_ok {free : Nat → Nat → Bool} {chk : List (Nat × Nat)} {p : Nat} {z : Nat × Ins} : ∀ {l : List (Nat × Ins)} {q k : Nat} {y : Nat × Ins}, pairR free chk p z q l = true → l[k]? = some y → pair1 free chk p (q + k) z y = true
  | [], _, _, _, _, h => by simp at h
  | y' :: l, q, 0, y, h, hk => by
    simp only [List.getElem?_cons_zero, Option.some.injEq] at hk
    subst hk
    simp only [pairR, Bool.and_eq_true] at h
    exact h.1
  | y' :: l, q, k + 1, y, h, hk => by
    simp only [List.getElem?_cons_succ] at hk
    simp only [pairR, Bool.and_eq_true] at h
    have := pairR_ok h.2 hk
    rw [show q + 1 + k = q + (k + 1) from by omega] at this
    exact this
theorem pairsB_ok {free : Nat → Nat → Bool} {chk : List (Nat × Nat)} : ∀ {l : List (Nat × Ins)} {p i j : Nat} {z y : Nat × Ins}, pairsB free chk p l = true → i < j → l[i]? = some z → l[j]? = some y → pair1 free chk (p + i) (p + j) z y = true
  | [], _, _, _, _, _, _, _, h, _ => by simp at h
  | z' :: l, p, 0, 0, z, y, _, hij, _, _ => by omega
  | z' :: l, p, 0, j + 1, z, y, h, _, hi, hj => by
    simp only [List.getElem?_cons_zero, Option.some.injEq] at hi
    simp only [List.getElem?_cons_succ] at hj
    subst hi
    simp only [pairsB, Bool.and_eq_true] at h
    have := pairR_ok h.1 hj
    rw [show p + 1 + j = p + (j + 1) from by omega] at this
    exact this
  | z' :: l, p, i + 1, 0, z, y, _, hij, _, _ => by omega
  | z' :: l, p, i + 1, j + 1, z, y, h, hij, hi, hj => by
    simp only [List.getElem?_cons_succ] at hi hj
    simp only [pairsB, Bool.and_eq_true] at h
    have := pairsB_ok h.2 (by omega) hi hj
    rw [show p + 1 + i = p + (i + 1) from by omega, show p + 1 + j = p + (j + 1) from by omega] at this
    exact this
theorem inL_ok {p q : Nat} {l : List (Nat × Nat)} (h : inL p q l = true) : (p, q) ∈ l := by
  unfold inL at h
  induction l with
  | nil => cases h
  | cons z l ih =>
    have h : (Bool.rec (any (fun z => Nat.beq z.1 p && Nat.beq z.2 q) l) true (Nat.beq z.1 p && Nat.beq z.2 q) : Bool) = true := h
    rw [brec'] at h
    split at h
    · rename_i hz
      simp only [Bool.and_eq_true, beq_iff] at hz
      obtain ⟨a, b⟩ := z
      obtain ⟨rfl, rfl⟩ := hz
      exact List.mem_cons_self
    · exact List.mem_cons_of_mem _ (ih h)
theorem stepsF_run : ∀ {l : List (Nat × Ins)} {s t : St} {fs gs : List Ft}, stepsF P O base l s fs = some (t, gs) → ∃ L, Run P O base L s t ∧ L.map (·.1) = l ∧ gs = (L.map (·.2)).reverse ++ fs
  | [], s, t, fs, gs, h => by
    have h : some (s, fs) = some (t, gs) := h
    cases h
    exact ⟨[], .nil _, rfl, rfl⟩
  | z :: l, s, t, fs, gs, h => by
    have h : (@Option.rec St (fun _ => Option (St × List Ft)) none (fun s' => stepsF P O base l s' (ft base z.2 s s' :: fs)) (step1 P O base z.2 s)) = some (t, gs) := h
    rw [orec] at h
    split at h
    · cases h
    · rename_i s' hs
      obtain ⟨L, h1, h2, h3⟩ := stepsF_run h
      refine ⟨(z, ft base z.2 s s') :: L, .cons hs h1, by simp [h2], ?_⟩
      rw [h3]
      simp
theorem okF_ok {fs : List Ft} {n : Nat} {chk : List (Nat × Nat)} (h : okF fs n chk = true) : ∀ p q, (p, q) ∈ chk → ∃ x y, nth fs (n - 1 - p) = some x ∧ nth fs (n - 1 - q) = some y ∧ clashes x y = false := by
  induction chk with
  | nil => intro p q hm; cases hm
  | cons z chk ih =>
    have h : (match nth fs (n - 1 - z.1), nth fs (n - 1 - z.2) with
      | some x, some y => (Bool.rec (okF fs n chk) false (clashes x y) : Bool)
      | _, _ => false) = true := h
    intro p q hm
    split at h
    · rename_i x y hx hy
      rw [brec'] at h
      split at h
      · cases h
      · rename_i hc
        cases hm with
        | head => exact ⟨x, y, hx, hy, by simpa using hc⟩
        | tail _ hm => exact ih h p q hm
    · cases h
theorem run_ft {L : List ((Nat × Ins) × Ft)} {s t : St} (h : Run P O base L s t) : ∀ p ∈ L, ∃ s s', p.2 = ft base p.1.2 s s' := by
  induction h with
  | nil => intro p hp; cases hp
  | cons h r ih =>
    intro p hp
    cases hp with
    | head => exact ⟨_, _, rfl⟩
    | tail _ hp => exact ih p hp
theorem ft_low {x : Ins} {s s' : St} (h : cls x.op ≤ 1) : ∃ l, ft base x s s' = .acc l ∧ (∀ a ∈ l, a.1 = false) ∧ (cls x.op = 0 → l = []) := by
  unfold ft
  split
  · split
    · rename_i f as hxo
      rw [hxo] at h
      have : cls (.call f as) = 4 := rfl
      omega
    · rename_i hno
      refine ⟨_, rfl, foot_reads h, fun h0 => ?_⟩
      cases hxo : x.op <;> rw [hxo] at h0 <;> simp [cls] at h0 <;> rfl
  · exact ⟨[], rfl, (fun a ha => by cases ha), fun _ => rfl⟩
theorem any_of_false {α : Type} {g : α → Bool} : ∀ {l : List α}, (∀ x ∈ l, g x = false) → any g l = false
  | [], _ => rfl
  | y :: l, h => by
    show (Bool.rec (any g l) true (g y) : Bool) = false
    rw [h y List.mem_cons_self]
    exact any_of_false fun x hx => h x (List.mem_cons_of_mem _ hx)
theorem clashes_nil_l (g : Ft) : clashes (.acc []) g = false := by cases g <;> rfl
theorem clashes_nil_r (f : Ft) : clashes f (.acc []) = false := by
  cases f with
  | acc l => exact any_of_false fun x _ => rfl
  | call a b => rfl
theorem noclash {x y : Ins} {s s' t t' : St} (h : dyn (cls x.op) (cls y.op) = false) : clashes (ft base x s s') (ft base y t t') = false := by
  have h' : cls x.op = 0 ∨ cls y.op = 0 ∨ (cls x.op ≤ 1 ∧ cls y.op ≤ 1) := by
    simp only [dyn, Bool.and_eq_false_iff, Bool.or_eq_false_iff] at h
    have nb : ∀ a b, Nat.blt a b = false → b ≤ a := fun a b hb => by
      rcases Nat.lt_or_ge a b with h1 | h1
      · rw [(blt_iff a b).2 h1] at hb; cases hb
      · exact h1
    rcases h with h | h | ⟨h1, h2⟩
    · exact .inl (by have := nb _ _ h; omega)
    · exact .inr (.inl (by have := nb _ _ h; omega))
    · exact .inr (.inr ⟨nb _ _ h1, nb _ _ h2⟩)
  rcases h' with h0 | h0 | ⟨h1, h2⟩
  · obtain ⟨l, e, _, hl⟩ := ft_low (base := base) (s := s) (s' := s') (x := x) (by omega)
    rw [e, hl h0]; exact clashes_nil_l _
  · obtain ⟨l, e, _, hl⟩ := ft_low (base := base) (s := t) (s' := t') (x := y) (by omega)
    rw [e, hl h0]; exact clashes_nil_r _
  · obtain ⟨l, e, hl, _⟩ := ft_low (base := base) (s := s) (s' := s') h1
    obtain ⟨m, e', hm, _⟩ := ft_low (base := base) (s := t) (s' := t') h2
    rw [e, e']
    refine any_of_false fun u hu => any_of_false fun v hv => ?_
    obtain ⟨a, p, r⟩ := u
    obtain ⟨b, q, r'⟩ := v
    have ha : a = false := hl _ hu
    have hb : b = false := hm _ hv
    subst ha; subst hb
    rfl
theorem dblk_ok (hG : Good P O) (hO : Fr O) {n : Nat} {ops : Array Oper} {l : List (Nat × Ins)} {chk : List (Nat × Nat)} (hf : fitDr P n ops l chk = true) {s t : St} {fs : List Ft}
    (hs : stepsF P O base l s [] = some (t, fs)) (hok : okF fs (len l) chk = true) {β : Blk} {a : Act} {w : World} (hR : R n β s a w) {Q : Exit → Act → World → Prop}
    (hQ : ∀ β' a' w', R n β' t a' w' → Mv β w β' w' → Q .normal a' w') : wpAny P .any ops Q ops.size (Array.replicate ops.size false) a w := by
  simp only [fitDr, Bool.and_eq_true] at hf
  obtain ⟨h1, h2, h3, h4, h5⟩ := hf
  rw [List.all_eq_true] at h1 h2
  have h5 := Nat.eq_of_beq_eq_true h5
  obtain ⟨L, hrun, hmap, hfs⟩ := stepsF_run hs
  rw [List.append_nil] at hfs
  have hlen : L.length = l.length := by rw [← hmap]; simp
  have getL : ∀ {i : Nat} {p : (Nat × Ins) × Ft}, L[i]? = some p → l[i]? = some p.1 := by
    intro i p h
    rw [← hmap, List.getElem?_map, h]; rfl
  have hft := run_ft hrun
  have nthf : ∀ {i : Nat} {p : (Nat × Ins) × Ft}, L[i]? = some p → nth fs (len l - 1 - i) = some p.2 := by
    intro i p h
    have hi : i < L.length := (List.getElem?_eq_some_iff.1 h).1
    rw [nth_eq, len_eq, hfs, List.getElem?_reverse (by simp; omega), List.getElem?_map]
    rw [show (L.map (·.2)).length - 1 - (l.length - 1 - i) = i from by simp; omega, h]; rfl
  have hpw : L.Pairwise (PR (freeL l)) := by
    rw [List.pairwise_iff_getElem]
    intro i j hi hj hij
    have gi : L[i]? = some L[i] := List.getElem?_eq_getElem hi
    have gj : L[j]? = some L[j] := List.getElem?_eq_getElem hj
    have hp1 := pairsB_ok h4 hij (getL gi) (getL gj)
    rw [Nat.zero_add, Nat.zero_add] at hp1
    simp only [pair1, Bool.and_eq_true, Bool.or_eq_true, Bool.not_eq_true'] at hp1
    obtain ⟨hne, hfr, hlt⟩ := hp1
    refine ⟨fun hf => ?_, fun hj' => ?_⟩
    · rcases hfr with hfr | ⟨hpo, hd⟩
      · rw [hf] at hfr; cases hfr
      · refine ⟨hpo, ?_⟩
        rcases hd with hd | hd
        · obtain ⟨s1, s1', e1⟩ := hft _ (List.mem_of_getElem? gi)
          obtain ⟨s2, s2', e2⟩ := hft _ (List.mem_of_getElem? gj)
          rw [e1, e2]
          exact noclash hd
        · obtain ⟨x, y, hx, hy, hc⟩ := okF_ok hok i j (inL_ok hd)
          rw [nthf gi] at hx
          rw [nthf gj] at hy
          cases hx; cases hy
          exact hc
    · rcases hlt with hlt | hlt
      · rw [(blt_iff _ _).2 hj'] at hlt; cases hlt
      · exact hlt
  have hnd : (L.map (·.1.1)).Nodup := by
    unfold List.Nodup
    rw [List.pairwise_map, List.pairwise_iff_getElem]
    intro i j hi hj hij he
    have gi : L[i]? = some L[i] := List.getElem?_eq_getElem hi
    have gj : L[j]? = some L[j] := List.getElem?_eq_getElem hj
    have hp1 := pairsB_ok h4 hij (getL gi) (getL gj)
    simp only [pair1, Bool.and_eq_true, Bool.not_eq_true'] at hp1
    have := hp1.1
    rw [he, Nat.beq_refl] at this
    cases this
  have hD : Drawn P n ops (freeL l) l := by
    refine ⟨fun z hz => ?_, fun i o ho e he hb => ?_, fun i o ho j hj hf => ?_⟩
    · have := h1 z hz
      split at this
      · rename_i o ho; exact ⟨o, ho, this⟩
      · cases this
    · have := (viaB_ok h3 (show ops.toList[i]? = some o by simpa using ho)).1 e he hb
      omega
    · have := (viaB_ok h3 (show ops.toList[i]? = some o by simpa using ho)).2 j (by omega) (by rw [Nat.zero_add]; exact hf)
      exact this
  refine any_ok hG hO hD ops.size (Array.replicate ops.size false) L s β a w (by omega) hrun hpw (fun p hp => by rw [← hmap]; exact List.mem_map.2 ⟨p, hp, rfl⟩) hnd (by simp) ?_ ?_ hR hQ
  · intro i hi
    have hu : (Array.replicate ops.size false).getD i true = false := by simp [hi]
    refine ⟨fun _ => ?_, fun _ => hu⟩
    have := h2 i (List.mem_range.2 hi)
    rw [List.any_eq_true] at this
    obtain ⟨z, hz, hzi⟩ := this
    rw [beq_iff] at hzi
    rw [← hmap] at hz
    obtain ⟨p, hp, rfl⟩ := List.mem_map.1 hz
    exact List.mem_map.2 ⟨p, hp, hzi⟩
  · intro j i hj hi hl
    simp [hi] at hl
end
end Go.Proofs.YtiahijhpjloijaaGreat.V
