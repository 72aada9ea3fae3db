/- Operations that may be done in another order: what a step looks at. -/
import Derived.Test.YtiahijhpjloijaaGreatF14
set_option linter.unusedVariables false
set_option linter.unusedSimpArgs false
namespace Go.Proofs.YtiahijhpjloijaaGreat.V
open Go Go.RowKit
def opnds : I → List A
  | .mv x | .box _ _ x | .ld _ _ x | .nilc x | .fa _ x | .fd _ _ _ x | .ex x _ | .len _ x | .s2b _ x | .b2s x | .not x | .neg x | .cvi _ x | .cvf x => [x]
  | .pick c a b => [c, a, b]
  | .alloc .. | .mk .. => []
  | .bld _ ps | .bsl _ _ _ _ ps => ps.map (·.2.2)
  | .st _ a x => [a, x]
  | .ias _ x y | .iaa _ _ x y | .ixs x y | .ap _ _ _ x y | .aps _ _ x y | .apz _ _ _ _ x y | .bin _ _ x y | .beq x y | .mn x y | .mx x y => [x, y]
  | .sl _ x lo hi | .sls x lo hi => x :: (lo.toList ++ hi.toList)
  | .call _ as => as
def keysA : A → List Pos
  | .t p => [p]
  | .c _ => []
def reads (x : Ins) : List Pos := (match x.gd with | some (p, _) => [p] | none => []) ++ (opnds x.op).flatMap keysA
section
variable {P : Program} {tm tm' : Tr D} {hp : Tr Ob}
theorem cel_congr {x : A} (h : val tm x = val tm' x) : cel tm x = cel tm' x := by unfold cel; rw [h]
theorem cells_congr {x : A} (h : val tm x = val tm' x) : cells tm x = cells tm' x := by unfold cells; rw [h]
theorem bnd_congr {x : Option A} (h : ∀ y ∈ x.toList, val tm y = val tm' y) (d n : Nat) : bnd tm x d n = bnd tm' x d n := by
  cases x with
  | none => rfl
  | some y => simp only [bnd]; rw [cel_congr (h y (by simp))]
theorem fill_congr : ∀ {ps : List (Nat × Nat × A)} {zs : List C}, (∀ y ∈ ps.map (·.2.2), val tm y = val tm' y) → fill tm zs ps = fill tm' zs ps
  | [], zs, _ => rfl
  | (o, k, x) :: ps, zs, h => by
    rw [fill_cons, fill_cons, cells_congr (h x (by simp))]
    cases cells tm' x with
    | none => rfl
    | some l => simp only []; rw [fill_congr (fun y hy => h y (by simp at hy ⊢; exact .inr hy))]
theorem rd_tm {nid : Pos} {i : I} (h : ∀ x ∈ opnds i, val tm x = val tm' x) : rd P nid i tm hp = rd P nid i tm' hp := by
  have hc : ∀ x ∈ opnds i, cel tm x = cel tm' x := fun x hx => cel_congr (h x hx)
  have hl : ∀ x ∈ opnds i, cells tm x = cells tm' x := fun x hx => cells_congr (h x hx)
  cases i <;> simp only [rd]
  case len s x => cases s <;> simp only [rd] <;> simp [opnds] at hc <;> rw [hc]
  case bld zs ps => rw [fill_congr h]
  case bsl e k n zs ps => rw [fill_congr h]
  case sl k x lo hi =>
    have h1 : ∀ d n, bnd tm lo d n = bnd tm' lo d n := fun d n => bnd_congr (fun y hy => h y (by simp only [opnds]; exact List.mem_cons_of_mem _ (List.mem_append_left _ hy))) d n
    have h2 : ∀ d n, bnd tm hi d n = bnd tm' hi d n := fun d n => bnd_congr (fun y hy => h y (by simp only [opnds]; exact List.mem_cons_of_mem _ (List.mem_append_right _ hy))) d n
    rw [hc x (by simp [opnds])]
    simp only [h1, h2]
  case sls x lo hi =>
    have h1 : ∀ d n, bnd tm lo d n = bnd tm' lo d n := fun d n => bnd_congr (fun y hy => h y (by simp only [opnds]; exact List.mem_cons_of_mem _ (List.mem_append_left _ hy))) d n
    have h2 : ∀ d n, bnd tm hi d n = bnd tm' hi d n := fun d n => bnd_congr (fun y hy => h y (by simp only [opnds]; exact List.mem_cons_of_mem _ (List.mem_append_right _ hy))) d n
    rw [hc x (by simp [opnds])]
    simp only [h1, h2]
  case st k a x => rw [hc a (by simp [opnds]), hl x (by simp [opnds])]
  case pick c a b =>
    rw [hc c (by simp [opnds])]
    split
    · rename_i t _
      cases t
      · show (match val tm b with | some d => _ | none => _) = _; rw [h b (by simp [opnds])]; rfl
      · show (match val tm a with | some d => _ | none => _) = _; rw [h a (by simp [opnds])]; rfl
    · rfl
  all_goals first
    | rfl
    | (rw [h _ (by simp only [opnds]; exact List.mem_cons_self), h _ (by simp only [opnds]; exact List.mem_cons_of_mem _ List.mem_cons_self)])
    | (rw [hc _ (by simp only [opnds]; exact List.mem_cons_self), hc _ (by simp only [opnds]; exact List.mem_cons_of_mem _ List.mem_cons_self)])
    | (rw [h _ (by simp only [opnds]; exact List.mem_cons_self)])
    | (rw [hc _ (by simp only [opnds]; exact List.mem_cons_self)])
    | (rw [hl _ (by simp only [opnds]; exact List.mem_cons_self)])
    | (rw [hc _ (by simp only [opnds]; exact List.mem_cons_self), hl _ (by simp only [opnds]; exact List.mem_cons_of_mem _ List.mem_cons_self)])
theorem foot_tm {nid : Pos} {i : I} (h : ∀ x ∈ opnds i, val tm x = val tm' x) : foot nid i tm = foot nid i tm' := by
  have hc : ∀ x ∈ opnds i, cel tm x = cel tm' x := fun x hx => cel_congr (h x hx)
  cases i <;> simp only [foot, accX, accY] <;> first
    | rfl
    | (rw [hc _ (by simp only [opnds]; exact List.mem_cons_self), hc _ (by simp only [opnds]; exact List.mem_cons_of_mem _ List.mem_cons_self)])
    | (rw [hc _ (by simp only [opnds]; exact List.mem_cons_self)])
theorem each_congr {f g : A → Option D} : ∀ {as : List A}, (∀ x ∈ as, f x = g x) → each f as = each g as
  | [], _ => rfl
  | x :: as, h => by rw [each_cons, each_cons, h x (by simp), each_congr (fun y hy => h y (by simp [hy]))]
theorem guard_congr {g : Option (Pos × Bool)} (h : ∀ p ∈ (match g with | some (p, _) => [p] | none => []), Tr.get p tm = Tr.get p tm') : guard g tm = guard g tm' := by
  cases g with
  | none => rfl
  | some pb => obtain ⟨p, b⟩ := pb; unfold guard; simp only []; rw [h p (by simp)]
/-- a step, ahead of its answer's being laid -/
noncomputable def stepD (P : Program) (O : Oracle) (base : Pos) (x : Ins) (tm : Tr D) (hp : Tr Ob) (nx : Pos) : Option (D × Tr Ob × Pos) :=
  match guard x.gd tm with
  | .skip => some (.one .un, hp, nx)
  | .bad => none
  | .run => match x.op with
    | .call f as => match each (val tm) as with
      | some ds => O f ds hp nx
      | none => none
    | op => match rd P (Pos.plus x.r base) op tm hp with
      | some (d, f) => match fit (Pos.plus x.r base) f hp with
        | some hp' => some (d, hp', nx)
        | none => none
      | none => none
theorem step1_eq (O : Oracle) (base : Pos) (x : Ins) (s : St) : step1 P O base x s = match stepD P O base x s.tm s.hp s.nx with | some (d, hp, nx) => some { tm := put x.dst d s.tm, hp := hp, nx := nx } | none => none := by
  unfold step1 stepD
  cases guard x.gd s.tm with
  | skip => rfl
  | bad => rfl
  | run =>
    simp only []
    cases x.op
    case call f as =>
      simp only []
      cases each (val s.tm) as with
      | none => rfl
      | some ds => simp only []; cases O f ds s.hp s.nx <;> rfl
    all_goals
      simp only []
      generalize rd P (Pos.plus x.r base) _ s.tm s.hp = r
      cases r with
      | none => rfl
      | some df =>
        obtain ⟨d, f⟩ := df
        simp only []
        generalize fit (Pos.plus x.r base) f s.hp = q
        cases q <;> rfl
noncomputable def ftD (base : Pos) (x : Ins) (tm : Tr D) (a b : Tr Ob) : Ft :=
  match guard x.gd tm with
  | .run => match x.op with
    | .call _ _ => .call a b
    | op => .acc (foot (Pos.plus x.r base) op tm)
  | _ => .acc []
theorem ft_eq (base : Pos) (x : Ins) (s s' : St) : ft base x s s' = ftD base x s.tm s.hp s'.hp := rfl
theorem val_reads {x : Ins} (h : ∀ p ∈ reads x, Tr.get p tm = Tr.get p tm') : ∀ y ∈ opnds x.op, val tm y = val tm' y := by
  intro y hy
  cases y with
  | c d => rfl
  | t p => exact h p (List.mem_append_right _ (List.mem_flatMap.2 ⟨.t p, hy, by simp [keysA]⟩))
theorem stepD_tm {O : Oracle} {base : Pos} {x : Ins} {nx : Pos} (h : ∀ p ∈ reads x, Tr.get p tm = Tr.get p tm') : stepD P O base x tm hp nx = stepD P O base x tm' hp nx := by
  have hv := val_reads h
  unfold stepD
  rw [guard_congr (fun p hp => h p (List.mem_append_left _ hp))]
  split
  · rfl
  · rfl
  · cases hxo : x.op
    case call f as =>
      rw [hxo] at hv
      simp only []
      rw [each_congr (as := as) hv]
    all_goals
      rw [hxo] at hv
      simp only []
      rw [rd_tm hv]
theorem ftD_tm {base : Pos} {x : Ins} {a b : Tr Ob} (h : ∀ p ∈ reads x, Tr.get p tm = Tr.get p tm') : ftD base x tm a b = ftD base x tm' a b := by
  have hv := val_reads h
  unfold ftD
  rw [guard_congr (fun p hp => h p (List.mem_append_left _ hp))]
  split
  · cases hxo : x.op
    case call f as => rfl
    all_goals
      rw [hxo] at hv
      simp only []
      rw [foot_tm hv]
  · rfl
end
end Go.Proofs.YtiahijhpjloijaaGreat.V
