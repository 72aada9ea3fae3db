/- A region whose order is drawn: whatever the order, it ends as in the one that is evaluated. -/
import Derived.Test.YtiahijhpjloijaaGreatF19
set_option linter.unusedVariables false
set_option linter.unusedSimpArgs false
namespace Go.Proofs.YtiahijhpjloijaaGreat.V
open Go Go.RowKit
noncomputable def noDst (p : Option Pos) (l : List Pos) : Bool := match p with | none => true | some p => all (fun q => !(Pos.same p q)) l
noncomputable def apartI (x y : Ins) : Bool :=
  noDst x.dst (reads y) && (noDst y.dst (reads x) && (match x.dst, y.dst with | some p, some q => !(Pos.same p q) | _, _ => true))
noncomputable def pairOk (x y : Ins) : Bool := apartI x y && allowed (cls x.op) (cls y.op)
section
variable {P : Program} {O : Oracle} {base : Pos}
theorem noDst_get {p : Option Pos} {l : List Pos} (h : noDst p l = true) (d : D) (tm : Tr D) : ∀ q ∈ l, Tr.get q (put p d tm) = Tr.get q tm := by
  intro q hq
  cases p with
  | none => rfl
  | some p =>
    have := all_true h q hq
    have hne : p ≠ q := fun e => by rw [Pos.same_spec.2 e] at this; cases this
    exact Tr.get_set_ne _ _ hne
theorem put_comm {x y : Ins} (h : apartI x y = true) (d1 d2 : D) (tm : Tr D) : put y.dst d2 (put x.dst d1 tm) = put x.dst d1 (put y.dst d2 tm) := by
  simp only [apartI, Bool.and_eq_true] at h
  have h3 := h.2.2
  cases hx : x.dst with
  | none => rfl
  | some p => cases hy : y.dst with
    | none => rfl
    | some q =>
      rw [hx, hy] at h3
      have h3 : (!(Pos.same p q)) = true := h3
      have hne : q ≠ p := fun e => by rw [Pos.same_spec.2 e.symm] at h3; cases h3
      exact Tr.set_comm _ _ _ hne
theorem swap1 (hO : Fr O) {x y : Ins} {s s1 s2 : St} (hp : pairOk x y = true) (e1 : step1 P O base x s = some s1) (e2 : step1 P O base y s1 = some s2)
    (hc : clashes (ft base x s s1) (ft base y s1 s2) = false) :
    ∃ s1', step1 P O base y s = some s1' ∧ step1 P O base x s1' = some s2 ∧ ft base y s s1' = ft base y s1 s2 ∧ FtLe (ft base x s s1) (ft base x s1' s2) := by
  simp only [pairOk, Bool.and_eq_true] at hp
  obtain ⟨hap, hal⟩ := hp
  have hap' := hap
  simp only [apartI, Bool.and_eq_true] at hap'
  rw [step1_eq] at e1
  split at e1
  case h_2 => cases e1
  rename_i d1 hp1 nx1 hx
  cases e1
  rw [step1_eq] at e2
  split at e2
  case h_2 => cases e2
  rename_i d2 hp2 nx2 hy
  cases e2
  simp only [] at hy
  have ry : ∀ q ∈ reads y, Tr.get q (put x.dst d1 s.tm) = Tr.get q s.tm := noDst_get hap'.1 d1 s.tm
  have rx : ∀ q ∈ reads x, Tr.get q (put y.dst d2 s.tm) = Tr.get q s.tm := noDst_get hap'.2.1 d2 s.tm
  rw [stepD_tm ry] at hy
  simp only [ft_eq] at hc ⊢
  rw [ftD_tm ry] at hc
  obtain ⟨h1', nx1', q1, q2, q3, q4⟩ := swapD hO hal hx hy hc
  refine ⟨{ tm := put y.dst d2 s.tm, hp := h1', nx := nx1' }, ?_, ?_, ?_, ?_⟩
  · rw [step1_eq, q1]
  · rw [step1_eq]
    simp only []
    rw [stepD_tm rx, q2]
    simp only [put_comm hap d1 d2 s.tm]
  · simp only []
    rw [q3, ftD_tm ry]
  · simp only []
    rw [ftD_tm rx]
    exact q4
/-- a run of steps, and what each touched -/
inductive Run (P : Program) (O : Oracle) (base : Pos) : List ((Nat × Ins) × Ft) → St → St → Prop where
  | nil (s : St) : Run P O base [] s s
  | cons {z : Nat × Ins} {l : List ((Nat × Ins) × Ft)} {s s' t : St} (h : step1 P O base z.2 s = some s') (r : Run P O base l s' t) : Run P O base ((z, ft base z.2 s s') :: l) s t
structure Le (p q : (Nat × Ins) × Ft) : Prop where
  z : p.1 = q.1
  f : FtLe p.2 q.2
theorem front (hO : Fr O) {z : Nat × Ins} {f : Ft} {post : List ((Nat × Ins) × Ft)} : ∀ {pre : List ((Nat × Ins) × Ft)} {s t : St}, Run P O base (pre ++ (z, f) :: post) s t →
    (∀ p ∈ pre, pairOk p.1.2 z.2 = true ∧ clashes p.2 f = false) → ∃ s1 pre', step1 P O base z.2 s = some s1 ∧ ft base z.2 s s1 = f ∧ Run P O base (pre' ++ post) s1 t ∧ Al Le pre pre'
  | [], s, t, hr, _ => by
    cases hr with
    | cons h r => exact ⟨_, [], h, rfl, r, .nil⟩
  | p :: pre, s, t, hr, hp => by
    cases hr with
    | cons h r =>
      rename_i y s'
      obtain ⟨s1, pre', h1, h2, h3, h4⟩ := front hO r (fun q hq => hp q (List.mem_cons_of_mem _ hq))
      obtain ⟨hok, hcl⟩ := hp _ List.mem_cons_self
      rw [← h2] at hcl
      obtain ⟨u, q1, q2, q3, q4⟩ := swap1 hO hok h h1 hcl
      refine ⟨u, (y, ft base y.2 u s1) :: pre', q1, q3.trans h2, .cons q2 h3, .cons ⟨rfl, q4⟩ h4⟩
/-- pairs of a run -/
def PR (free : Nat → Nat → Bool) (p q : (Nat × Ins) × Ft) : Prop :=
  (free p.1.1 q.1.1 = true → pairOk p.1.2 q.1.2 = true ∧ clashes p.2 q.2 = false) ∧ (q.1.1 < p.1.1 → free p.1.1 q.1.1 = true)
theorem PR.le {free : Nat → Nat → Bool} {p q p' q' : (Nat × Ins) × Ft} (h : PR free p q) (hp : Le p p') (hq : Le q q') : PR free p' q' := by
  unfold PR at *
  rw [← hp.z, ← hq.z]
  exact ⟨fun hf => ⟨(h.1 hf).1, clashes_mono hp.f hq.f (h.1 hf).2⟩, h.2⟩
theorem Le.refl (p : (Nat × Ins) × Ft) : Le p p := ⟨rfl, .refl _⟩
theorem Al.refl_le : ∀ l : List ((Nat × Ins) × Ft), Al Le l l
  | [] => .nil
  | p :: l => .cons (Le.refl p) (Al.refl_le l)
theorem Al.mem_r {l l' : List ((Nat × Ins) × Ft)} (h : Al Le l l') : ∀ q ∈ l', ∃ p ∈ l, Le p q := by
  induction h with
  | nil => intro q hq; cases hq
  | cons hr _ ih =>
    intro q hq
    cases hq with
    | head => exact ⟨_, List.mem_cons_self, hr⟩
    | tail _ hq => obtain ⟨p, hp, hl⟩ := ih q hq; exact ⟨p, List.mem_cons_of_mem _ hp, hl⟩
theorem pairs_le {free : Nat → Nat → Bool} {l l' : List ((Nat × Ins) × Ft)} (h : Al Le l l') (hp : l.Pairwise (PR free)) : l'.Pairwise (PR free) := by
  induction h with
  | nil => exact .nil
  | cons hr ht ih =>
    rw [List.pairwise_cons] at hp ⊢
    refine ⟨fun q hq => ?_, ih hp.2⟩
    obtain ⟨p, hpm, hl⟩ := Al.mem_r ht q hq
    exact (hp.1 p hpm).le hr hl
theorem idx_le {l l' : List ((Nat × Ins) × Ft)} (h : Al Le l l') : l'.map (·.1) = l.map (·.1) := by
  induction h with
  | nil => rfl
  | cons hr _ ih => simp only [List.map_cons, ih, hr.z]
structure Drawn (P : Program) (n : Nat) (ops : Array Oper) (free : Nat → Nat → Bool) (zs : List (Nat × Ins)) : Prop where
  fit : ∀ z ∈ zs, ∃ o, ops[z.1]? = some o ∧ fitIns P n ops z.2 o = true
  back : ∀ i o, ops[i]? = some o → ∀ e ∈ o.after, Region.binds .any e = true → e.on < i
  via : ∀ i o, ops[i]? = some o → ∀ j, j < i → free j i = false → ∃ e ∈ o.after, Region.binds .any e = true ∧ (e.on = j ∨ (j < e.on ∧ free j e.on = false))
theorem any_ok (hG : Good P O) (hO : Fr O) {n : Nat} {ops : Array Oper} {free : Nat → Nat → Bool} {zs : List (Nat × Ins)} (hD : Drawn P n ops free zs) {Q : Exit → Act → World → Prop} {sF : St} :
    ∀ (fuel : Nat) (listed : Array Bool) (L : List ((Nat × Ins) × Ft)) (s : St) (β : Blk) (a : Act) (w : World), L.length = fuel → Run P O base L s sF → L.Pairwise (PR free) → (∀ p ∈ L, p.1 ∈ zs) →
      (L.map (·.1.1)).Nodup → listed.size = ops.size → (∀ i, i < ops.size → (listed.getD i true = false ↔ i ∈ L.map (·.1.1))) →
      (∀ j i, j < i → i < ops.size → listed.getD i true = true → free j i = false → listed.getD j true = true) →
      R n β s a w → (∀ β' a' w', R n β' sF a' w' → Mv β w β' w' → Q .normal a' w') → wpAny P .any ops Q fuel listed a w := by
  intro fuel
  induction fuel with
  | zero =>
    intro listed L s β a w hlen hrun hpw hz hnd hsz hidx hcl hR hQ
    have hnil : L = [] := List.eq_nil_of_length_eq_zero hlen
    subst hnil
    cases hrun
    refine ⟨?_, hQ β a w hR (Mv.refl _ _)⟩
    cases hr : Region.ready .any ops listed with
    | nil => rfl
    | cons i rs =>
      have hi : i ∈ Region.ready .any ops listed := by rw [hr]; exact List.mem_cons_self
      obtain ⟨h0, o, ho, _⟩ := mem_ready.1 hi
      have := (hidx i (Array.getElem?_eq_some_iff.1 ho).1).1 h0
      cases this
  | succ fuel ih =>
    intro listed L s β a w hlen hrun hpw hz hnd hsz hidx hcl hR hQ
    have gd : ∀ i, i < ops.size → listed.getD i false = listed.getD i true := by
      intro i hi
      simp [Array.getD, hsz, hi]
    have via_listed : ∀ i o, ops[i]? = some o → (∀ e ∈ o.after, Region.binds .any e = true → listed.getD e.on false = true) → ∀ j, j < i → free j i = false → listed.getD j true = true := by
      intro i o ho hall j hj hf
      obtain ⟨e, he, hb, hor⟩ := hD.via i o ho j hj hf
      have hi := (Array.getElem?_eq_some_iff.1 ho).1
      have hon := hD.back i o ho e he hb
      have hle := hall e he hb
      rw [gd e.on (by omega)] at hle
      rcases hor with rfl | ⟨hlt, hf'⟩
      · exact hle
      · exact hcl j e.on hlt (by omega) hle hf'
    refine ⟨fun hr => ?_, fun i hi => ?_⟩
    · exfalso
      -- some operation is ready: the first one that is not listed
      have hex : ∃ i, i < ops.size ∧ listed.getD i true = false := by
        cases L with
        | nil => cases hlen
        | cons p L =>
          obtain ⟨o, ho, _⟩ := hD.fit p.1 (hz p List.mem_cons_self)
          have hi := (Array.getElem?_eq_some_iff.1 ho).1
          exact ⟨p.1.1, hi, (hidx _ hi).2 (by simp)⟩
      have hmin : ∀ m i, i < m → i < ops.size → listed.getD i true = false → ∃ k, k < ops.size ∧ listed.getD k true = false ∧ ∀ j, j < k → listed.getD j true = true := by
        intro m
        induction m with
        | zero => intro i hi; omega
        | succ m ihm =>
          intro i hi hlt hu
          by_cases hall : ∀ j, j < i → listed.getD j true = true
          · exact ⟨i, hlt, hu, hall⟩
          · have : ∃ j, j < i ∧ listed.getD j true = false := by
              apply Classical.byContradiction
              intro hno
              apply hall
              intro j hj
              cases hb : listed.getD j true with
              | true => rfl
              | false => exact absurd ⟨j, hj, hb⟩ hno
            obtain ⟨j, hj, hb⟩ := this
            exact ihm j (by omega) (by omega) hb
      obtain ⟨i, hi, hu⟩ := hex
      obtain ⟨k, hk, hku, hall⟩ := hmin (i + 1) i (by omega) hi hu
      have hmem : k ∈ Region.ready .any ops listed := by
        refine mem_ready.2 ⟨hku, ops[k], Array.getElem?_eq_getElem hk, fun e he hb => ?_⟩
        have hon := hD.back k _ (Array.getElem?_eq_getElem hk) e he hb
        rw [gd e.on (by omega)]
        exact hall e.on hon
      rw [hr] at hmem
      cases hmem
    · obtain ⟨h0, o, ho, hall⟩ := mem_ready.1 hi
      have hilt := (Array.getElem?_eq_some_iff.1 ho).1
      have hmem := (hidx i hilt).1 h0
      obtain ⟨p, hpL, hpi⟩ := List.mem_map.1 hmem
      obtain ⟨pre, post, hL⟩ := List.append_of_mem hpL
      obtain ⟨z, f⟩ := p
      have hzi : z.1 = i := hpi
      subst hL
      have hpw' := List.pairwise_append.1 hpw
      have hnd' : (pre.map (·.1.1) ++ z.1 :: post.map (·.1.1)).Nodup := by simpa using hnd
      have hndp := List.nodup_append.1 hnd'
      have hpreu : ∀ q ∈ pre, listed.getD q.1.1 true = false ∧ q.1.1 ≠ i := by
        intro q hq
        obtain ⟨oq, hoq, _⟩ := hD.fit q.1 (hz q (List.mem_append_left _ hq))
        refine ⟨(hidx _ (Array.getElem?_eq_some_iff.1 hoq).1).2 (List.mem_map.2 ⟨q, List.mem_append_left _ hq, rfl⟩), ?_⟩
        rw [← hzi]
        exact hndp.2.2 _ (List.mem_map.2 ⟨q, hq, rfl⟩) _ List.mem_cons_self
      have hpre : ∀ q ∈ pre, pairOk q.1.2 z.2 = true ∧ clashes q.2 f = false := by
        intro q hq
        have hpr := hpw'.2.2 q hq _ List.mem_cons_self
        refine hpr.1 ?_
        obtain ⟨hu, hne⟩ := hpreu q hq
        show free q.1.1 z.1 = true
        rw [hzi]
        rcases Nat.lt_or_ge q.1.1 i with hlt | hge
        · cases hf : free q.1.1 i with
          | true => rfl
          | false =>
            have := via_listed i o ho hall q.1.1 hlt hf
            rw [hu] at this; cases this
        · have h2 := hpr.2
          have h3 : z.1 < q.1.1 := by omega
          have := h2 h3
          rwa [hzi] at this
      obtain ⟨s1, pre', hs1, _, hrun', hal⟩ := front hO hrun hpre
      obtain ⟨o', ho', hfit⟩ := hD.fit z (hz (z, f) (by simp))
      rw [hzi] at ho'
      have hoo : o' = o := by rw [ho] at ho'; exact (Option.some.inj ho').symm
      subst hoo
      have hLe : Al Le (pre ++ post) (pre' ++ post) := Al.app hal (Al.refl_le post)
      have hmapLe := idx_le hLe
      have hmap1 : (pre' ++ post).map (·.1.1) = (pre ++ post).map (·.1.1) := by
        have := congrArg (List.map (·.1)) hmapLe
        simpa [List.map_map, Function.comp_def] using this
      refine step1_ok hG ho hfit hs1 hR (fun β' a' w' hR' hm => ?_)
      refine ih (listed.setIfInBounds i true) (pre' ++ post) s1 β' a' w' ?_ hrun' ?_ ?_ ?_ (by simpa using hsz) ?_ ?_ hR' (fun β'' a'' w'' hR'' hm' => hQ β'' a'' w'' hR'' (hm.trans hm'))
      · have := congrArg List.length hmap1
        simp at this hlen ⊢
        omega
      · refine pairs_le hLe ?_
        refine List.pairwise_append.2 ⟨hpw'.1, (List.pairwise_cons.1 hpw'.2.1).2, fun q hq r hr => hpw'.2.2 q hq r (List.mem_cons_of_mem _ hr)⟩
      · intro q hq
        obtain ⟨r, hr, hl⟩ := Al.mem_r hLe q hq
        rw [← hl.z]
        refine hz r ?_
        rcases List.mem_append.1 hr with h | h
        · exact List.mem_append_left _ h
        · exact List.mem_append_right _ (List.mem_cons_of_mem _ h)
      · rw [hmap1, List.map_append]
        refine List.nodup_append.2 ⟨hndp.1, (List.nodup_cons.1 hndp.2.1).2, fun x hx y hy => hndp.2.2 x hx y (List.mem_cons_of_mem _ hy)⟩
      · intro j hj
        rw [hmap1]
        by_cases hji : j = i
        · subst hji
          rw [show (listed.setIfInBounds j true).getD j true = true from by simp [Array.getD, hsz, hj]]
          constructor
          · intro h; cases h
          · intro h
            exfalso
            rw [List.map_append] at h
            rcases List.mem_append.1 h with h | h
            · exact hndp.2.2 _ h _ List.mem_cons_self hzi.symm
            · exact (List.nodup_cons.1 hndp.2.1).1 (hzi ▸ h)
        · rw [getD_set_ne true (Ne.symm hji), hidx j hj]
          simp only [List.map_append, List.map_cons, List.mem_append, List.mem_cons]
          constructor
          · rintro (h | h | h)
            · exact .inl h
            · exact absurd (h.trans hzi) hji
            · exact .inr h
          · rintro (h | h)
            · exact .inl h
            · exact .inr (.inr h)
      · intro j i' hj hi' hl hf
        by_cases hii : i' = i
        · subst hii
          have := via_listed i' o' ho hall j hj hf
          by_cases hji : j = i'
          · omega
          · rw [getD_set_ne true (Ne.symm hji)]; exact this
        · rw [getD_set_ne true (Ne.symm hii)] at hl
          have := hcl j i' hj hi' hl hf
          by_cases hji : j = i
          · subst hji; simp [Array.getD, hsz, hilt]
          · rw [getD_set_ne true (Ne.symm hji)]; exact this
end
end Go.Proofs.YtiahijhpjloijaaGreat.V
