/- A call among its own objects: it is sound. -/
import Derived.Test.YtiahijhpjloijaaGreatF25
set_option linter.unusedVariables false
set_option linter.unusedSimpArgs false
namespace Go.Proofs.YtiahijhpjloijaaGreat.V
open Go Go.RowKit
theorem hs_cons (x : En) (l : List En) (t : Tr Ob) : hs (x :: l) t = Tr.set x.1 x.2.2 (hs l t) := rfl
theorem hb_cons (x : En) (l : List En) (t : Tr Ob) : hb (x :: l) t = Tr.set x.2.1 x.2.2 (hb l t) := rfl
theorem up_cons (x : En) (l : List En) (t : Tr Pos) : up (x :: l) t = Tr.set x.1 x.2.1 (up l t) := rfl
theorem dn_cons (x : En) (l : List En) (t : Tr Pos) : dn (x :: l) t = Tr.set x.2.1 x.1 (dn l t) := rfl
theorem hs_up (k : Pos) (t : Tr Ob) (u : Tr Pos) : ∀ l : List En, (∃ x ∈ l, x.1 = k ∧ Tr.get k (hs l t) = some x.2.2 ∧ Tr.get k (up l u) = some x.2.1) ∨ ((∀ x ∈ l, x.1 ≠ k) ∧ Tr.get k (hs l t) = Tr.get k t ∧ Tr.get k (up l u) = Tr.get k u)
  | [] => .inr ⟨(fun x hx => by cases hx), rfl, rfl⟩
  | y :: l => by
    by_cases hk : y.1 = k
    · exact .inl ⟨y, List.mem_cons_self, hk, by rw [hs_cons, hk, Tr.get_set_eq], by rw [up_cons, hk, Tr.get_set_eq]⟩
    · rcases hs_up k t u l with ⟨x, hx, h1, h2, h3⟩ | ⟨h1, h2, h3⟩
      · exact .inl ⟨x, List.mem_cons_of_mem _ hx, h1, by rw [hs_cons, Tr.get_set_ne _ _ hk]; exact h2, by rw [up_cons, Tr.get_set_ne _ _ hk]; exact h3⟩
      · refine .inr ⟨fun x hx => ?_, by rw [hs_cons, Tr.get_set_ne _ _ hk]; exact h2, by rw [up_cons, Tr.get_set_ne _ _ hk]; exact h3⟩
        cases hx with
        | head => exact hk
        | tail _ hx => exact h1 x hx
theorem hb_dn (k : Pos) (t : Tr Ob) (u : Tr Pos) : ∀ l : List En, (∃ x ∈ l, x.2.1 = k ∧ Tr.get k (hb l t) = some x.2.2 ∧ Tr.get k (dn l u) = some x.1) ∨ ((∀ x ∈ l, x.2.1 ≠ k) ∧ Tr.get k (hb l t) = Tr.get k t ∧ Tr.get k (dn l u) = Tr.get k u)
  | [] => .inr ⟨(fun x hx => by cases hx), rfl, rfl⟩
  | y :: l => by
    by_cases hk : y.2.1 = k
    · exact .inl ⟨y, List.mem_cons_self, hk, by rw [hb_cons, hk, Tr.get_set_eq], by rw [dn_cons, hk, Tr.get_set_eq]⟩
    · rcases hb_dn k t u l with ⟨x, hx, h1, h2, h3⟩ | ⟨h1, h2, h3⟩
      · exact .inl ⟨x, List.mem_cons_of_mem _ hx, h1, by rw [hb_cons, Tr.get_set_ne _ _ hk]; exact h2, by rw [dn_cons, Tr.get_set_ne _ _ hk]; exact h3⟩
      · refine .inr ⟨fun x hx => ?_, by rw [hb_cons, Tr.get_set_ne _ _ hk]; exact h2, by rw [dn_cons, Tr.get_set_ne _ _ hk]; exact h3⟩
        cases hx with
        | head => exact hk
        | tail _ hx => exact h1 x hx
theorem okIn_ok {hp : Tr Ob} {σ τ : Tr Pos} {x : En} (h : okIn hp σ τ x = true) : ∃ e cs ds, x.2.2 = .ob e cs ∧ Tr.get x.2.1 hp = some (.ob e ds) ∧ each (renC σ) cs = some ds ∧ Tr.get x.2.1 τ = some x.1 := by
  obtain ⟨k, b, o⟩ := x
  cases o with
  | dead => cases h
  | ob e cs =>
    simp only [okIn] at h
    split at h
    · rename_i f ds cs' k' h1 h2 h3
      rw [brec'] at h
      split at h
      · rename_i hk
        rw [brec'] at h
        split at h
        · rename_i he
          rw [beq_iff] at he
          have := sameL_spec h
          subst this; subst he
          have := Pos.same_spec.1 hk
          subst this
          exact ⟨e, cs, cs', rfl, h1, h2, h3⟩
        · cases h
      · cases h
    · cases h
theorem okSt_ok {h2 : Tr Ob} {x : En} (h : okSt h2 x = true) : Tr.get x.1 h2 = some x.2.2 := by
  unfold okSt at h
  split at h
  · rename_i o ho; rw [ho, sameO_spec h]
  · cases h
theorem okNew_ok {hp h2 : Tr Ob} {σ σ2 τn : Tr Pos} {x : En} (h : okNew hp h2 σ σ2 τn x = true) : ∃ e cs ds, x.2.2 = .ob e cs ∧ Tr.get x.1 h2 = some (.ob e ds) ∧ each (renC σ2) ds = some cs ∧
    Tr.get x.2.1 hp = none ∧ Tr.get x.1 σ = none ∧ Tr.get x.1 σ2 = some x.2.1 ∧ Tr.get x.2.1 τn = some x.1 := by
  obtain ⟨j, b, o⟩ := x
  cases o with
  | dead => cases h
  | ob e cs =>
    simp only [okNew] at h
    split at h
    · rename_i f ds b' j' h1 h3 h4 h5 h6
      split at h
      · rename_i ds' h7
        rw [brec'] at h
        split at h
        · rename_i hj
          rw [brec'] at h
          split at h
          · rename_i hb
            rw [brec'] at h
            split at h
            · rename_i he
              rw [beq_iff] at he
              have := sameL_spec h
              subst this; subst he
              have := Pos.same_spec.1 hj
              subst this
              have := Pos.same_spec.1 hb
              subst this
              exact ⟨e, ds', ds, rfl, h1, h7, h3, h4, h5, h6⟩
            · cases h
          · cases h
        · cases h
      · cases h
    · cases h
theorem sameG_al {α : Type} {g : α → α → Bool} : ∀ {l m : List α}, sameG g l m = true → Al (fun x y => g x y = true) l m
  | [], [], _ => .nil
  | [], _ :: _, h => by cases h
  | _ :: _, [], h => by cases h
  | x :: l, y :: m, h => by
    have h : (Bool.rec false (sameG g l m) (g x y) : Bool) = true := h
    rw [brec'] at h
    split at h
    · rename_i hc; exact .cons hc (sameG_al h)
    · cases h
noncomputable def low (σ : Tr Pos) (β : Blk) : Blk := fun k => match Tr.get k σ with | some b => β b | none => none
noncomputable def high (τ : Tr Pos) (β0 β : Blk) : Blk := fun b => match Tr.get b τ with | some j => β0 j | none => β b
section
variable {P : Program} {O : Oracle} {β : Blk} {hp : Tr Ob} {w : World} {en : List En}
theorem low_HV (hH : HV β hp w) (hin : ∀ x ∈ en, okIn hp (up en .e) (dn en .e) x = true) : HV (low (up en .e) β) (hs en .e) w := by
  have get0 : ∀ {k : Pos} {o : Ob}, Tr.get k (hs en .e) = some o → ∃ x ∈ en, x.1 = k ∧ x.2.2 = o ∧ Tr.get k (up en .e) = some x.2.1 := by
    intro k o h
    rcases hs_up k .e .e en with ⟨x, hx, h1, h2, h3⟩ | ⟨_, h2, _⟩
    · rw [h] at h2; exact ⟨x, hx, h1, (Option.some.inj h2).symm, h3⟩
    · rw [h, Tr.get_e] at h2; cases h2
  refine ⟨fun k x hx => ?_, fun k k' e cs e' cs' b sz sz' h1 h2 hb hb' => ?_, fun k e cs h => ?_⟩
  · unfold low at hx
    split at hx
    · rename_i q hq
      rcases hs_up k .e .e en with ⟨y, hy, h1, h2, h3⟩ | ⟨_, _, h3⟩
      · exact ⟨_, h2⟩
      · rw [hq, Tr.get_e] at h3; cases h3
    · cases hx
  · obtain ⟨x, hx, rfl, hxo, hxu⟩ := get0 h1
    obtain ⟨y, hy, rfl, hyo, hyu⟩ := get0 h2
    obtain ⟨ex, cx, dx, _, gx, _, tx⟩ := okIn_ok (hin x hx)
    obtain ⟨ey, cy, dy, _, gy, _, ty⟩ := okIn_ok (hin y hy)
    simp only [low, hxu] at hb
    simp only [low, hyu] at hb'
    have := hH.inj _ _ _ _ _ _ b sz sz' gx gy hb hb'
    rw [this, ty] at tx
    exact (Option.some.inj tx).symm
  · obtain ⟨x, hx, rfl, hxo, hxu⟩ := get0 h
    obtain ⟨ex, cx, dx, e1, gx, rx, tx⟩ := okIn_ok (hin x hx)
    rw [hxo] at e1
    cases e1
    obtain ⟨b, c, fz, hb, hh, hlen, hcc, hfr⟩ := hH.obj _ _ _ gx
    have hsp := each_spec _ _ _ rx
    have hl := Al.len hsp
    refine ⟨b, c, fz, by simp only [low, hxu]; exact hb, hh, by omega, fun i z hz => ?_, hfr⟩
    obtain ⟨z', hz', hr⟩ := Al.get hsp hz
    obtain ⟨v, hv, hck⟩ := hcc i z' hz'
    exact ⟨v, hv, ck_ren (fun k q y hk hy => by simp only [low, hk]; exact hy) hr hck⟩
theorem low_DV (ds0 : List D) {ds : List D} {vs : List Value} (hok : okArgs (up en .e) ds0 ds = true) (hv : Al (DV β) ds vs) : Al (DV (low (up en .e) β)) ds0 vs := by
  refine Al.comp (S := DV β) (fun x y z a b => ?_) (sameG_al hok) hv
  split at a
  · rename_i d hd
    have := sameD_spec a
    subst this
    exact DV_ren (fun k q y hk hy => by simp only [low, hk]; exact hy) hd b
  · cases a
theorem sub_back (hH : HV β hp w) (hin : ∀ x ∈ en, okIn hp (up en .e) (dn en .e) x = true) {h2 : Tr Ob} {ne : List En} (hst : ∀ x ∈ en, okSt h2 x = true)
    (hnew : ∀ x ∈ ne, okNew hp h2 (up en .e) (up ne (up en .e)) (dn ne .e) x = true) {β0 : Blk} {w' : World} (hH2 : HV β0 h2 w') (hM : Mv (low (up en .e) β) w β0 w') :
    HV (high (dn ne .e) β0 β) (hb ne hp) w' ∧ Mv β w (high (dn ne .e) β0 β) w' ∧ (∀ k b x, Tr.get k (up ne (up en .e)) = some b → β0 k = some x → high (dn ne .e) β0 β b = some x) := by
  -- old objects are not among the new ones
  have oldT : ∀ {b : Pos} {o : Ob}, Tr.get b hp = some o → Tr.get b (dn ne .e) = none := by
    intro b o hb
    rcases hb_dn b hp .e ne with ⟨x, hx, h1, _, _⟩ | ⟨_, _, h3⟩
    · obtain ⟨e, cs, ds, _, _, _, h4, _⟩ := okNew_ok (hnew x hx)
      rw [h1, hb] at h4; cases h4
    · rw [h3]; exact Tr.get_e _
  have hext : Ext β (high (dn ne .e) β0 β) := by
    intro id x hx
    obtain ⟨o, ho⟩ := hH.dom id x hx
    simp only [high, oldT ho]; exact hx
  have kept : ∀ {k b : Pos}, Tr.get k (up en .e) = some b → ∃ bsz e cs ds, β b = some bsz ∧ β0 k = some bsz ∧ Tr.get b hp = some (.ob e ds) ∧ Tr.get k h2 = some (.ob e cs) ∧ each (renC (up en .e)) cs = some ds := by
    intro k b h
    rcases hs_up k .e .e en with ⟨x, hx, rfl, _, h3⟩ | ⟨_, _, h3⟩
    · rw [h] at h3
      have hb : b = x.2.1 := Option.some.inj h3
      subst hb
      obtain ⟨e, cs, ds, ho, g, r, t⟩ := okIn_ok (hin x hx)
      have hs2 := okSt_ok (hst x hx)
      rw [ho] at hs2
      obtain ⟨b, c, fz, hb, _⟩ := hH.obj _ _ _ g
      exact ⟨_, e, cs, ds, hb, hM.ext _ _ (by simp only [low, h]; exact hb), g, hs2, r⟩
    · rw [h, Tr.get_e] at h3; cases h3
  have hmap : ∀ k b x, Tr.get k (up ne (up en .e)) = some b → β0 k = some x → high (dn ne .e) β0 β b = some x := by
    intro k b x hk hx
    rcases hs_up k .e (up en .e) ne with ⟨y, hy, rfl, _, h3⟩ | ⟨_, _, h3⟩
    · rw [hk] at h3
      have hb : b = y.2.1 := Option.some.inj h3
      subst hb
      obtain ⟨e, cs, ds, _, _, _, _, _, _, t⟩ := okNew_ok (hnew y hy)
      simp only [high, t]; exact hx
    · rw [hk] at h3
      obtain ⟨bsz, e, cs, ds, h4, h5, h6, _⟩ := kept h3.symm
      rw [h5] at hx
      simp only [high, oldT h6]
      rw [h4]; exact hx
  have hlow : ∀ {id : Pos} {x : Nat × Nat}, low (up en .e) β id = some x → ∃ q, Tr.get id (up en .e) = some q ∧ β q = some x := by
    intro id x h
    unfold low at h
    split at h
    · rename_i q hq; exact ⟨q, hq, h⟩
    · cases h
  -- which objects are alive now
  have alive : ∀ {id : Pos} {e : Nat} {cs : List C}, Tr.get id (hb ne hp) = some (.ob e cs) →
      (∃ j ds, high (dn ne .e) β0 β id = β0 j ∧ Tr.get j h2 = some (.ob e ds) ∧ each (renC (up ne (up en .e))) ds = some cs ∧ Tr.get j (up en .e) = none ∧ Tr.get j (up ne (up en .e)) = some id) ∨
      (high (dn ne .e) β0 β id = β id ∧ Tr.get id hp = some (.ob e cs)) := by
    intro id e cs h
    rcases hb_dn id hp .e ne with ⟨x, hx, h1, hx2, hx3⟩ | ⟨_, hx2, hx3⟩
    · obtain ⟨e', cs', ds, ho, g2, r, g3, g4, g5, t⟩ := okNew_ok (hnew x hx)
      rw [h, ho] at hx2
      cases hx2
      rw [h1] at g5
      exact .inl ⟨x.1, ds, by simp only [high, hx3], g2, r, g4, g5⟩
    · rw [h] at hx2
      refine .inr ⟨?_, hx2.symm⟩
      have : Tr.get id (dn ne .e) = none := by rw [hx3]; exact Tr.get_e _
      simp only [high, this]
  have newOld : ∀ {j id : Pos} {e e' : Nat} {ds cs : List C} {b sz sz' : Nat}, Tr.get j h2 = some (.ob e ds) → Tr.get j (up en .e) = none → β0 j = some (b, sz) → Tr.get id hp = some (.ob e' cs) → β id = some (b, sz') → False := by
    intro j id e e' ds cs b sz sz' hj hjn hbj hid hbid
    have hlt := hH.lt hid hbid
    rcases hM.src j b sz hbj with ⟨id0, sz0, h0⟩ | hge
    · obtain ⟨q, hq, hbq⟩ := hlow h0
      obtain ⟨bsz, e2, cs2, ds2, h4, h5, _, h6, _⟩ := kept hq
      rw [hbq] at h4
      cases h4
      have := hH2.inj _ _ _ _ _ _ b sz sz0 hj h6 hbj h5
      rw [this, hq] at hjn
      cases hjn
    · omega
  refine ⟨⟨fun id x hx => ?_, fun i1 i2 e1 c1 e2 c2 b sz sz' g1 g2 hb1 hb2 => ?_, fun id e cs g => ?_⟩, ⟨hext, fun id b sz hb => ?_, hM.os, hM.tape, hM.output, hM.size, fun k hk hn => hM.block k hk fun id sz h => ?_⟩, hmap⟩
  · rcases hb_dn id hp .e ne with ⟨x', _, _, h2', _⟩ | ⟨_, h2', h3⟩
    · exact ⟨_, h2'⟩
    · rw [Tr.get_e] at h3
      simp only [high, h3] at hx
      obtain ⟨o, ho⟩ := hH.dom id x hx
      exact ⟨o, by rw [h2']; exact ho⟩
  · rcases alive g1 with ⟨j1, d1, a1, a2, a3, a4, a5⟩ | ⟨a1, a2⟩ <;> rcases alive g2 with ⟨j2, d2, b1, b2, b3, b4, b5⟩ | ⟨b1, b2⟩
    · rw [a1] at hb1
      rw [b1] at hb2
      have := hH2.inj _ _ _ _ _ _ b sz sz' a2 b2 hb1 hb2
      subst this
      rw [a5] at b5
      exact Option.some.inj b5
    · rw [a1] at hb1
      rw [b1] at hb2
      exact (newOld a2 a4 hb1 b2 hb2).elim
    · rw [a1] at hb1
      rw [b1] at hb2
      exact (newOld b2 b4 hb2 a2 hb1).elim
    · rw [a1] at hb1
      rw [b1] at hb2
      exact hH.inj _ _ _ _ _ _ b sz sz' a2 b2 hb1 hb2
  · rcases alive g with ⟨j, ds, a1, a2, a3, a4, a5⟩ | ⟨a1, a2⟩
    · obtain ⟨b, c, fz, hb, hh, hlen, hcc, hfr⟩ := hH2.obj _ _ _ a2
      have hsp := each_spec _ _ _ a3
      have hl := Al.len hsp
      refine ⟨b, c, fz, a1.trans hb, hh, by omega, fun i z hz => ?_, hfr⟩
      obtain ⟨z', hz', hr⟩ := Al.get (Al.flip hsp) hz
      obtain ⟨v, hv, hck⟩ := hcc i z' hz'
      exact ⟨v, hv, ck_ren2 hmap hr hck⟩
    · by_cases hk : ∃ k, Tr.get k (up en .e) = some id
      · obtain ⟨k, hk⟩ := hk
        obtain ⟨bsz, e', cs', ds, h4, h5, h6, h7, h8⟩ := kept hk
        rw [a2] at h6
        cases h6
        obtain ⟨b, c, fz, hb, hh, hlen, hcc, hfr⟩ := hH2.obj _ _ _ h7
        rw [h5] at hb
        have hsp := each_spec _ _ _ h8
        have hl := Al.len hsp
        refine ⟨b, c, fz, by rw [a1, h4]; exact hb, hh, by omega, fun i z hz => ?_, hfr⟩
        obtain ⟨z', hz', hr⟩ := Al.get (Al.flip hsp) hz
        obtain ⟨v, hv, hck⟩ := hcc i z' hz'
        refine ⟨v, hv, ck_ren2 (fun k' b' x' hk' hx' => ?_) hr hck⟩
        obtain ⟨bsz', e2, cs2, ds2, g4, g5, g6, _⟩ := kept hk'
        rw [hx'] at g5
        cases g5
        simp only [high, oldT g6]
        exact g4
      · obtain ⟨b, c, fz, hb, hh, hlen, hcc, hfr⟩ := hH.obj _ _ _ a2
        have hlt := hH.lt a2 hb
        have hblk := hM.block b hlt (fun id0 sz0 h0 => by
          obtain ⟨q, hq, hbq⟩ := hlow h0
          obtain ⟨bsz, e2, cs2, ds2, h4, _, h6, _⟩ := kept hq
          have := hH.inj _ _ _ _ _ _ b sz0 c.size h6 a2 hbq hb
          subst this
          exact hk ⟨id0, hq⟩)
        refine ⟨b, c, fz, a1.trans hb, hblk.trans hh, hlen, fun i z hz => ?_, hfr⟩
        obtain ⟨v, hv, hck⟩ := hcc i z hz
        exact ⟨v, hv, hck.ext hext⟩
  · unfold high at hb
    split at hb
    · rename_i j hj
      rcases hM.src j b sz hb with ⟨id0, sz0, h0⟩ | hge
      · obtain ⟨q, _, hbq⟩ := hlow h0
        exact .inl ⟨q, sz0, hbq⟩
      · exact .inr hge
    · exact .inl ⟨id, sz, hb⟩
  · obtain ⟨q, _, hbq⟩ := hlow h
    exact hn q sz hbq
theorem sub1_ok (hG : Good P O) {f : Nat} {ds ds0 : List D} {nx nxs nx' : Pos} {lay : D → Tr Ob → Option (D × List En × Pos)} {d' : D} {hp' : Tr Ob}
    (h : sub1 O f ds hp nx ds0 en nxs lay = some (d', hp', nx')) {vs : Array Value} (hH : HV β hp w) (hv : Al (DV β) ds vs.toList) :
    ((callFunc f vs).run P w = .ok (.enter f vs) w ∧ Calls P f vs w (fun e w' => ∃ v β', e = .returned v ∧ DV β' d' v ∧ HV β' hp' w' ∧ Mv β w β' w')) ∨
    (∃ v β' w', (callFunc f vs).run P w = .ok (.value v) w' ∧ DV β' d' v ∧ HV β' hp' w' ∧ Mv β w β' w') := by
  unfold sub1 at h
  rw [brec'] at h
  split at h
  case isFalse => cases h
  rename_i hc1
  rw [brec'] at hc1
  split at hc1
  case isFalse => cases hc1
  rename_i hargs
  have hin := all_true hc1
  split at h
  case h_2 => cases h
  rename_i d h2 nx2 hO
  split at h
  case h_2 => cases h
  rename_i d1 ne nx1 hlay
  split at h
  case h_2 => cases h
  rename_i d2 hren
  rw [brec'] at h
  split at h
  case isFalse => cases h
  rename_i hc2
  cases h
  rw [brec'] at hc2
  split at hc2
  case isFalse => cases hc2
  rename_i hd
  rw [brec'] at hc2
  split at hc2
  case isFalse => cases hc2
  rename_i hst
  have hst := all_true hst
  have hnew := all_true hc2
  have := sameD_spec hd
  subst this
  have fin : ∀ {v : Value} {β0 : Blk} {w' : World}, DV β0 d v → HV β0 h2 w' → Mv (low (up en .e) β) w β0 w' → ∃ β', DV β' d2 v ∧ HV β' (hb ne hp) w' ∧ Mv β w β' w' := by
    intro v β0 w' hd0 hh0 hm0
    obtain ⟨k1, k2, k3⟩ := sub_back hH hin hst hnew hh0 hm0
    exact ⟨_, DV_ren2 k3 hren hd0, k1, k2⟩
  rcases hG f ds0 (hs en .e) nxs d h2 nx2 hO (low (up en .e) β) w vs (low_HV hH hin) (low_DV ds0 hargs hv) with ⟨r1, r2⟩ | ⟨v, β0, w', r1, r2, r3, r4⟩
  · refine .inl ⟨r1, Calls.mono r2 ?_⟩
    rintro e w' ⟨v, β0, rfl, g1, g2, g3⟩
    obtain ⟨β', k1, k2, k3⟩ := fin g1 g2 g3
    exact ⟨v, β', rfl, k1, k2, k3⟩
  · obtain ⟨β', k1, k2, k3⟩ := fin r2 r3 r4
    exact .inr ⟨v, β', w', r1, k1, k2, k3⟩
end
end Go.Proofs.YtiahijhpjloijaaGreat.V
