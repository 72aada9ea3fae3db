/- Two steps in the other order. -/
import Derived.Test.YtiahijhpjloijaaGreatF16
set_option linter.unusedVariables false
set_option linter.unusedSimpArgs false
namespace Go.Proofs.YtiahijhpjloijaaGreat.V
open Go Go.RowKit
theorem any_false {α : Type} {g : α → Bool} : ∀ {l : List α}, any g l = false → ∀ x ∈ l, g x = false
  | [], _, x, hx => by cases hx
  | y :: l, h, x, hx => by
    have h : (Bool.rec (any g l) true (g y) : Bool) = false := h
    cases hy : g y with
    | true => rw [hy] at h; cases h
    | false =>
      rw [hy] at h
      cases hx with
      | head => exact hy
      | tail _ hx => exact any_false h x hx
theorem all_true {α : Type} {g : α → Bool} : ∀ {l : List α}, all g l = true → ∀ x ∈ l, g x = true
  | [], _, x, hx => by cases hx
  | y :: l, h, x, hx => by
    have h : (Bool.rec false (all g l) (g y) : Bool) = true := h
    cases hy : g y with
    | false => rw [hy] at h; cases h
    | true =>
      rw [hy] at h
      cases hx with
      | head => exact hy
      | tail _ hx => exact all_true h x hx
theorem all_of {α : Type} {g : α → Bool} : ∀ {l : List α}, (∀ x ∈ l, g x = true) → all g l = true
  | [], _ => rfl
  | y :: l, h => by
    show (Bool.rec false (all g l) (g y) : Bool) = true
    rw [h y List.mem_cons_self]
    exact all_of fun x hx => h x (List.mem_cons_of_mem _ hx)
theorem bnot {b : Bool} (h : (Bool.rec true false b : Bool) = false) : b = true := by cases b with | true => rfl | false => cases h
theorem clash_spec {v w : Bool} {p q : Pos} {r s : Option (Nat × Nat)} (h : clash (v, p, r) (w, q, s) = false) (hw : v = true ∨ w = true) (hpq : p = q) : apartR r s = true := by
  have h : (Bool.rec false (Bool.rec false (Bool.rec true false (apartR r s) : Bool) (Pos.same p q) : Bool) (Bool.rec w true v : Bool) : Bool) = false := h
  have h1 : (Bool.rec w true v : Bool) = true := by rcases hw with rfl | rfl <;> first | rfl | (cases v <;> rfl)
  rw [h1, Pos.same_spec.2 hpq] at h
  exact bnot h
theorem apartR_spec {r s : Option (Nat × Nat)} (h : apartR r s = true) : ∃ a n b m, r = some (a, n) ∧ s = some (b, m) ∧ (a + n ≤ b ∨ b + m ≤ a) := by
  unfold apartR at h
  split at h
  · rename_i a n b m
    refine ⟨a, n, b, m, rfl, rfl, ?_⟩
    rw [brec'] at h
    split at h
    · rename_i h1; rw [ble_iff] at h1; exact .inl h1
    · rw [ble_iff] at h; exact .inr h
  · cases h
section
variable {P : Program} {tm : Tr D} {hp h1 h2 : Tr Ob}
theorem splice_apart {new l : List C} {off o k : Nat} (hle : off + new.length ≤ l.length) (h : off + new.length ≤ o ∨ o + k ≤ off) : ((splice new off l).drop o).take k = (l.drop o).take k := by
  apply List.ext_getElem?
  intro i
  by_cases hi : i < k
  · rw [List.getElem?_take_of_lt hi, List.getElem?_take_of_lt hi, List.getElem?_drop, List.getElem?_drop, splice_get new off l hle, if_neg (by omega)]
  · rw [List.getElem?_take_eq_none (by omega), List.getElem?_take_eq_none (by omega)]
theorem grow_st {nid : Pos} {e k b' m : Nat} {c : C} {cs : List C} {d : D} {id : Pos} {off : Nat} {l : List C} (h : grow nid e k b' c m cs hp = some (d, .st id off l)) : False := by
  unfold grow at h
  split at h
  · split at h
    · rw [brec'] at h
      split at h <;> cases h
    · cases h
  · split at h
    · cases h
    · rw [brec'] at h
      split at h <;> cases h
  · cases h
theorem st_len {nid : Pos} {i : I} {d : D} {id : Pos} {off : Nat} {l : List C} {e : Nat} {cs : List C} (hr : rd P nid i tm hp = some (d, .st id off l)) (hg : Tr.get id hp = some (.ob e cs)) : off + l.length ≤ cs.length := by
  have hc := (rd_ef hr).2.2.2 (.inl ⟨_, _, _, rfl⟩)
  cases i <;> first | (exfalso; revert hc; simp [cls]; done) | skip
  case st k ax x =>
    simp only [rd] at hr
    split at hr
    · split at hr
      · rename_i cs' ho
        split at hr
        · rw [brec'] at hr
          split at hr
          · rename_i hcond
            rw [brec'] at hcond
            split at hcond
            · rename_i hk
              rw [beq_iff, len_eq] at hk
              rw [ble_iff, len_eq] at hcond
              cases hr
              rw [objc_some hg] at ho
              cases ho
              omega
            · cases hcond
          · cases hr
        · cases hr
      · cases hr
    · cases hr
  case ap e k b' x y =>
    simp only [rd] at hr
    split at hr
    · split at hr
      · rw [brec'] at hr
        split at hr
        · exact (grow_st hr).elim
        · cases hr
      · cases hr
    · cases hr
  case aps e b' x y =>
    simp only [rd] at hr
    split at hr
    · exact (grow_st hr).elim
    · cases hr
  case apz e k b' zs x y =>
    simp only [rd] at hr
    split at hr
    · rw [brec'] at hr
      split at hr
      · exact (grow_st hr).elim
      · cases hr
    · cases hr
/-- an effect leaves alone what does not clash with it -/
theorem fit_agree {nid : Pos} {i : I} {d : D} {f : Ef} (hr : rd P nid i tm hp = some (d, f)) (hf : fit nid f hp = some h1) {x : Acc}
    (hc : ∀ y ∈ foot nid i tm, clash y x = false) : agree hp h1 x := by
  obtain ⟨hw, _, _, _⟩ := rd_ef hr
  obtain ⟨w, q, r⟩ := x
  have other : ∀ (id : Pos) (o : Ob) (g : Tr Ob), id ≠ q → (Tr.get q g = Tr.get q hp) → Tr.get q (Tr.set id o g) = Tr.get q hp := fun id o g hne hg => by rw [Tr.get_set_ne _ _ hne]; exact hg
  have ofEq : Tr.get q hp = Tr.get q h1 → agree hp h1 (w, q, r) := fun h => by
    cases r with
    | none => exact h
    | some ok => obtain ⟨o, k⟩ := ok; exact .inl h
  have ne : ∀ {id : Pos}, (true, id, none) ∈ foot nid i tm → id ≠ q := fun {id} hm e => by
    have := clash_spec (hc _ hm) (.inl rfl) e
    obtain ⟨_, _, _, _, h, _⟩ := apartR_spec this
    cases h
  cases f with
  | no => cases hf; exact ofEq rfl
  | new o =>
    obtain ⟨_, rfl⟩ := fit_new hf
    exact ofEq (other nid o hp (ne hw) rfl).symm
  | mv id o =>
    obtain ⟨_, rfl⟩ := fit_mv hf
    exact ofEq (other nid o _ (ne hw.1) (other id .dead hp (ne hw.2) rfl)).symm
  | st id off l =>
    simp only [fit] at hf
    split at hf
    · rename_i e cs hg
      cases hf
      by_cases hid : id = q
      · subst hid
        obtain ⟨a', n', b', m', e1, e2, e3⟩ := apartR_spec (clash_spec (hc _ hw) (.inl rfl) rfl)
        cases e1
        subst e2
        have hlen : off + l.length ≤ cs.length := st_len hr hg
        exact .inr ⟨e, cs, _, hg, Tr.get_set_eq _ _ _, (splice_len _ _ _).symm, (splice_apart hlen e3).symm⟩
      · exact ofEq (other id _ hp hid rfl).symm
    · cases hf
theorem agree_symm {a b : Tr Ob} {x : Acc} (h : agree a b x) : agree b a x := by
  obtain ⟨w, q, r⟩ := x
  cases r with
  | none => exact Eq.symm (agree_all (w := w) h)
  | some ok =>
    obtain ⟨o, k⟩ := ok
    rcases h with h | ⟨e, cs, ds, h1, h2, h3, h4⟩
    · exact .inl h.symm
    · exact .inr ⟨e, ds, cs, h2, h1, h3.symm, h4.symm⟩
theorem clash_symm {x y : Acc} (h : clash x y = false) : clash y x = false := by
  obtain ⟨v, p, r⟩ := x
  obtain ⟨w, q, s⟩ := y
  cases hc : clash (w, q, s) (v, p, r) with
  | false => rfl
  | true =>
    exfalso
    have hc : (Bool.rec false (Bool.rec false (Bool.rec true false (apartR s r) : Bool) (Pos.same q p) : Bool) (Bool.rec v true w : Bool) : Bool) = true := hc
    have hvw : v = true ∨ w = true := by
      cases v with
      | true => exact .inl rfl
      | false => cases w with
        | true => exact .inr rfl
        | false => cases hc
    have h1 : (Bool.rec v true w : Bool) = true := by rcases hvw with rfl | rfl <;> first | rfl | (cases w <;> rfl)
    rw [h1] at hc
    cases hs : Pos.same q p with
    | false => rw [hs] at hc; cases hc
    | true =>
      rw [hs] at hc
      have e := (Pos.same_spec.1 hs).symm
      obtain ⟨a, n, b, m, rfl, rfl, hd⟩ := apartR_spec (clash_spec h hvw e)
      have hc : (Bool.rec true false (apartR (some (b, m)) (some (a, n))) : Bool) = true := hc
      have : apartR (some (b, m)) (some (a, n)) = true := by
        show (Bool.rec (Nat.ble (a + n) b) true (Nat.ble (b + m) a) : Bool) = true
        rcases hd with hd | hd
        · rw [Nat.ble_eq_true_of_le hd]; cases Nat.ble (b + m) a <;> rfl
        · rw [Nat.ble_eq_true_of_le hd]
      rw [this] at hc
      cases hc
/-- two that write nothing of one another's, in the other order -/
theorem swapL {n1 n2 : Pos} {x y : I} {d1 d2 : D} {f1 f2 : Ef} (hx : rd P n1 x tm hp = some (d1, f1)) (e1 : fit n1 f1 hp = some h1) (hy : rd P n2 y tm h1 = some (d2, f2)) (e2 : fit n2 f2 h1 = some h2)
    (hc : ∀ a ∈ foot n1 x tm, ∀ b ∈ foot n2 y tm, clash a b = false) (h33 : ¬ (cls x = 3 ∧ cls y = 3)) :
    ∃ h1', rd P n2 y tm hp = some (d2, f2) ∧ fit n2 f2 hp = some h1' ∧ rd P n1 x tm h1' = some (d1, f1) ∧ fit n1 f1 h1' = some h2 := by
  have ag1 : ∀ b ∈ foot n2 y tm, agree hp h1 b := fun b hb => fit_agree hx e1 (fun a ha => hc a ha b hb)
  have hy' : rd P n2 y tm hp = some (d2, f2) := by rw [rd_agree ag1]; exact hy
  obtain ⟨w1, _, _, c1⟩ := rd_ef hx
  obtain ⟨w2, _, _, c2⟩ := rd_ef hy'
  have ne : ∀ {p q : Pos}, (true, p, none) ∈ foot n1 x tm → (true, q, none) ∈ foot n2 y tm → p ≠ q := fun hp hq e => by
    obtain ⟨_, _, _, _, h, _⟩ := apartR_spec (clash_spec (hc _ hp _ hq) (.inl rfl) e)
    cases h
  have ne1 : ∀ {p q : Pos} {r : Option (Nat × Nat)}, (true, p, none) ∈ foot n1 x tm → (true, q, r) ∈ foot n2 y tm → p ≠ q := fun hp hq e => by
    obtain ⟨_, _, _, _, h, _⟩ := apartR_spec (clash_spec (hc _ hp _ hq) (.inl rfl) e)
    cases h
  have ne2 : ∀ {p q : Pos} {r : Option (Nat × Nat)}, (true, p, r) ∈ foot n1 x tm → (true, q, none) ∈ foot n2 y tm → p ≠ q := fun hp hq e => by
    obtain ⟨_, _, _, _, _, h, _⟩ := apartR_spec (clash_spec (hc _ hp _ hq) (.inl rfl) e)
    cases h
  -- the second effect, first
  have hex : ∃ h1', fit n2 f2 hp = some h1' ∧ fit n1 f1 h1' = some h2 := by
    cases f1 with
    | no =>
      cases e1
      exact ⟨h2, e2, rfl⟩
    | new o1 =>
      obtain ⟨a1, rfl⟩ := fit_new e1
      cases f2 with
      | no => cases e2; exact ⟨hp, rfl, e1⟩
      | new o2 =>
        obtain ⟨a2, rfl⟩ := fit_new e2
        have hn := ne w1 w2
        rw [Tr.get_set_ne _ _ hn] at a2
        refine ⟨Tr.set n2 o2 hp, by simp only [fit, a2], ?_⟩
        simp only [fit, Tr.get_set_ne _ _ hn.symm, a1]
        rw [Tr.set_comm _ _ _ hn]
      | st id off l =>
        have hn := ne1 w1 w2
        simp only [fit, Tr.get_set_ne _ _ hn] at e2
        split at e2
        · rename_i e cs hg
          cases e2
          refine ⟨Tr.set id (.ob e (splice l off cs)) hp, by simp only [fit, hg], ?_⟩
          simp only [fit, Tr.get_set_ne _ _ hn.symm, a1]
          rw [Tr.set_comm _ _ _ hn]
        · cases e2
      | mv id o2 =>
        obtain ⟨a2, rfl⟩ := fit_mv e2
        have hn := ne w1 w2.1
        have hn' := ne w1 w2.2
        rw [Tr.get_set_ne _ _ hn] at a2
        refine ⟨Tr.set n2 o2 (Tr.set id .dead hp), by simp only [fit, a2], ?_⟩
        simp only [fit, Tr.get_set_ne _ _ hn.symm, Tr.get_set_ne _ _ hn'.symm, a1]
        rw [Tr.set_comm _ _ _ hn, Tr.set_comm _ _ _ hn']
    | st id1 off1 l1 =>
      have k1 := c1 (.inl ⟨_, _, _, rfl⟩)
      simp only [fit] at e1
      split at e1
      · rename_i e cs hg
        cases e1
        cases f2 with
        | no => cases e2; exact ⟨hp, rfl, by simp only [fit, hg]⟩
        | new o2 =>
          obtain ⟨a2, rfl⟩ := fit_new e2
          have hn := ne2 w1 w2
          rw [Tr.get_set_ne _ _ hn] at a2
          refine ⟨Tr.set n2 o2 hp, by simp only [fit, a2], ?_⟩
          simp only [fit, Tr.get_set_ne _ _ hn.symm, hg]
          rw [Tr.set_comm _ _ _ hn]
        | st id off l => exact absurd ⟨k1, c2 (.inl ⟨_, _, _, rfl⟩)⟩ h33
        | mv id o2 => exact absurd ⟨k1, c2 (.inr ⟨_, _, rfl⟩)⟩ h33
      · cases e1
    | mv id1 o1 =>
      have k1 := c1 (.inr ⟨_, _, rfl⟩)
      obtain ⟨a1, rfl⟩ := fit_mv e1
      cases f2 with
      | no => cases e2; exact ⟨hp, rfl, e1⟩
      | new o2 =>
        obtain ⟨a2, rfl⟩ := fit_new e2
        have hn := ne w1.1 w2
        have hn' := ne w1.2 w2
        rw [Tr.get_set_ne _ _ hn, Tr.get_set_ne _ _ hn'] at a2
        refine ⟨Tr.set n2 o2 hp, by simp only [fit, a2], ?_⟩
        simp only [fit, Tr.get_set_ne _ _ hn.symm, a1]
        rw [Tr.set_comm _ _ hp hn', Tr.set_comm _ _ _ hn]
      | st id off l => exact absurd ⟨k1, c2 (.inl ⟨_, _, _, rfl⟩)⟩ h33
      | mv id o2 => exact absurd ⟨k1, c2 (.inr ⟨_, _, rfl⟩)⟩ h33
  obtain ⟨h1', q1, q2⟩ := hex
  have ag2 : ∀ a ∈ foot n1 x tm, agree hp h1' a := fun a ha => fit_agree hy' q1 (fun b hb => clash_symm (hc a ha b hb))
  exact ⟨h1', hy', q1, by rw [← rd_agree ag2]; exact hx, q2⟩
end
end Go.Proofs.YtiahijhpjloijaaGreat.V
