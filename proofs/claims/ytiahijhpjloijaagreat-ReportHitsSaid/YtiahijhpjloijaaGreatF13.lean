/- One step: an operation under its guard, a call. -/
import Derived.Test.YtiahijhpjloijaaGreatF12
set_option linter.unusedVariables false
set_option linter.unusedSimpArgs false
namespace Go.Proofs.YtiahijhpjloijaaGreat.V
open Go Go.RowKit
/-- what a call of the evaluator promises of the program's call -/
def Good (P : Program) (O : Oracle) : Prop := ∀ f ds hp nx d hp' nx', O f ds hp nx = some (d, hp', nx') → ∀ (β : Blk) (w : World) (vs : Array Value), HV β hp w → Al (DV β) ds vs.toList →
  ((callFunc f vs).run P w = .ok (.enter f vs) w ∧ Calls P f vs w (fun e w' => ∃ v β', e = .returned v ∧ DV β' d v ∧ HV β' hp' w' ∧ Mv β w β' w')) ∨
  (∃ v β' w', (callFunc f vs).run P w = .ok (.value v) w' ∧ DV β' d v ∧ HV β' hp' w' ∧ Mv β w β' w')
noncomputable def fitT (n : Nat) (p : Pos) (t : Nat) : Bool := Nat.beq p.num (t + 1) && Nat.blt t n
noncomputable def fitDst (n : Nat) : Option Pos → Option Tmp → Bool
  | none, none => true
  | some p, some t => fitT n p t
  | _, _ => false
noncomputable def fitGd (n : Nat) (ops : Array Oper) : Option (Pos × Bool) → Option (Nat × Bool) → Bool
  | none, none => true
  | some (p, b), some (j, c) => (b == c) && (match (ops[j]?).bind (·.dst) with | some t => fitT n p t | none => false)
  | _, _ => false
noncomputable def fitAs : List A → List Operand → Bool
  | [], [] => true
  | x :: l, y :: m => fitA x y && fitAs l m
  | _, _ => false
noncomputable def fitOp (P : Program) (i : I) (op : Op) : Bool :=
  match i with
  | .call f as => (match op with
    | .call { callee := .value (.func g), args := ys, argTypes := _ } => Nat.beq f g && fitAs as ys.toList
    | _ => false)
  | i => fitsI P i op
noncomputable def fitIns (P : Program) (n : Nat) (ops : Array Oper) (x : Ins) (o : Oper) : Bool :=
  fitDst n x.dst o.dst && (fitGd n ops x.gd o.guard && fitOp P x.op o.op)
section
variable {P : Program} {n : Nat} {β : Blk} {tm : Tr D} {a : Act} {hp : Tr Ob} {w : World}
theorem TV.put (hT : TV n β tm a) {p : Option Pos} {t : Option Tmp} (hf : fitDst n p t = true) {d : D} {v : Value} (hd : DV β d v) : TV n β (put p d tm) (a.put t v) := by
  cases p with
  | none => cases t with
    | none => exact hT
    | some t => cases hf
  | some p => cases t with
    | none => cases hf
    | some t =>
      simp only [fitDst, fitT, Bool.and_eq_true, beq_iff, blt_iff] at hf
      obtain ⟨hp, hlt⟩ := hf
      have hsz := hT.size
      refine ⟨by simp [Act.put, hsz], hT.defers, fun q d' hq => ?_⟩
      by_cases e : p = q
      · subst e
        have hq : Tr.get p (Tr.set p d tm) = some d' := hq
        rw [Tr.get_set_eq] at hq
        cases hq
        rw [hp]
        show DV β d ((a.tmps.setIfInBounds t v).getD t undef)
        rw [show (a.tmps.setIfInBounds t v).getD t undef = v from by simp [hsz, hlt]]
        exact hd
      · have hq : Tr.get q (Tr.set p d tm) = some d' := hq
        rw [Tr.get_set_ne _ _ e] at hq
        have := hT.val q d' hq
        have hne : t ≠ q.num - 1 := fun h => e (Pos.num_inj (p := p) (q := q) (by have := q.num_pos; have h' : @Eq Nat t (q.num - 1) := h; rw [hp]; omega))
        show DV β d' ((a.tmps.setIfInBounds t v).getD (q.num - 1) undef)
        rw [show (a.tmps.setIfInBounds t v).getD (q.num - 1) undef = a.tmps.getD (q.num - 1) undef from by simp [Array.getElem?_setIfInBounds_ne hne]]
        exact this
theorem guard_ok (hT : TV n β tm a) {ops : Array Oper} {g : Option (Pos × Bool)} {o : Oper} (hf : fitGd n ops g o.guard = true) :
    (guard g tm = .run → Region.wanted o (yielded ops a.tmps) = true) ∧ (guard g tm = .skip → Region.wanted o (yielded ops a.tmps) = false) := by
  unfold Region.wanted
  cases g with
  | none => cases hg : o.guard with
    | none => exact ⟨fun _ => rfl, fun h => by cases h⟩
    | some x => rw [hg] at hf; cases hf
  | some pb =>
    obtain ⟨p, b⟩ := pb
    cases hg : o.guard with
    | none => rw [hg] at hf; cases hf
    | some jc =>
      obtain ⟨j, c⟩ := jc
      rw [hg] at hf
      simp only [fitGd, Bool.and_eq_true, beq_iff_eq] at hf
      obtain ⟨rfl, hf⟩ := hf
      cases hd : (ops[j]?).bind (·.dst) with
      | none => rw [hd] at hf; cases hf
      | some t =>
        simp only [hd, fitT, Bool.and_eq_true, beq_iff, blt_iff] at hf
        obtain ⟨hp, hlt⟩ := hf
        have hsz := hT.size
        have hv : ∀ d, Tr.get p tm = some d → DV β d (a.tmps.getD t undef) := fun d h => by have := hT.val p d h; rw [hp] at this; exact this
        have hget : a.tmps[t]? = some (a.tmps.getD t undef) := by simp [Array.getD, hsz, hlt]
        have hy : yielded ops a.tmps j = (match a.tmps.getD t undef with | .bool b => some b | _ => none) := by
          unfold yielded
          rw [hd]
          simp only [Option.bind_some, hget]
          split <;> simp_all
        simp only [hy]
        unfold guard
        simp only []
        cases hpt : Tr.get p tm with
        | none => exact ⟨fun h => Go3.noConfusion h, fun h => Go3.noConfusion h⟩
        | some d =>
          have hdv := hv d hpt
          cases d with
          | ag l => exact ⟨fun h => Go3.noConfusion h, fun h => Go3.noConfusion h⟩
          | tup l => exact ⟨fun h => Go3.noConfusion h, fun h => Go3.noConfusion h⟩
          | one cc =>
            cases cc
            case bool x =>
              have hx : a.tmps.getD t undef = .bool x := hdv
              rw [hx]
              cases x <;> cases b <;> first
                | exact ⟨fun _ => rfl, fun h => Go3.noConfusion h⟩
                | exact ⟨fun h => Go3.noConfusion h, fun _ => rfl⟩
            case un =>
              have hx : a.tmps.getD t undef = undef := hdv
              rw [hx]
              exact ⟨fun h => Go3.noConfusion h, fun _ => rfl⟩
            all_goals exact ⟨fun h => Go3.noConfusion h, fun h => Go3.noConfusion h⟩
theorem fitAs_ok (hT : TV n β tm a) : ∀ {as : List A} {ys : List Operand} {ds : List D}, fitAs as ys = true → each (val tm) as = some ds → Al (DV β) ds (ys.map a.eval)
  | [], [], ds, _, h => by rw [each_nil] at h; cases h; exact .nil
  | [], _ :: _, _, h, _ => by cases h
  | _ :: _, [], _, h, _ => by cases h
  | x :: as, y :: ys, ds, h, he => by
    simp only [fitAs, Bool.and_eq_true] at h
    rw [each_cons] at he
    split at he
    · rename_i d hd
      split at he
      · rename_i ds' hds
        cases he
        exact .cons (val_ok hT h.1 hd) (fitAs_ok hT h.2 hds)
      · cases he
    · cases he
theorem call_run {ρ : Operand → Value} {dst : Option Tmp} {g : FuncId} {ys : Array Operand} {ts : Array TypeId} {ty : TypeId} {pos : String} {after : Array Edge} {gd : Option (Nat × Bool)}
    (hρ : ρ (.func g) = .func (.func g) #[] #[]) :
    (execOp ρ { dst := dst, op := .call { callee := .value (.func g), args := ys, argTypes := ts }, type := ty, pos := pos, after := after, guard := gd }).run P w = (callFunc g (ys.map ρ)).run P w := by
  simp only [execOp, resolve, hρ, Deferred.ofValue, Sem.run_bind, Sem.run_pure, Result.andThen_ok, invoke]
  simp
/-- the state and the world -/
structure R (n : Nat) (β : Blk) (s : St) (a : Act) (w : World) : Prop where
  tm : TV n β s.tm a
  hp : HV β s.hp w
theorem step1_ok {O : Oracle} (hO : Good P O) {base : Pos} {x : Ins} {s s' : St} {ops : Array Oper} {i : Nat} {o : Oper} (ho : ops[i]? = some o) (hf : fitIns P n ops x o = true)
    (hs : step1 P O base x s = some s') (hR : R n β s a w) {Q : Exit → Act → World → Prop} {K : Act → World → Prop} (hK : ∀ β' a' w', R n β' s' a' w' → Mv β w β' w' → K a' w') : wpOp P ops Q i K a w := by
  simp only [fitIns, Bool.and_eq_true] at hf
  obtain ⟨hd, hg, hop⟩ := hf
  obtain ⟨hrun, hskip⟩ := guard_ok hR.tm hg
  unfold wpOp
  simp only [ho]
  unfold step1 at hs
  split at hs
  · rename_i hgs
    rw [if_neg (by rw [hskip hgs]; decide)]
    cases hs
    exact hK β _ w ⟨hR.tm.put hd rfl, hR.hp⟩ (Mv.refl _ _)
  · cases hs
  · rename_i hgr
    rw [if_pos (hrun hgr)]
    refine .inl ?_
    unfold Oper.wp
    split at hs
    · rename_i f as hxo
      rw [hxo] at hop
      obtain ⟨dst, op, type, pos, after, gd⟩ := o
      simp only [fitOp] at hop
      split at hop
      · rename_i g ys ts
        simp only [Bool.and_eq_true, beq_iff] at hop
        obtain ⟨rfl, has⟩ := hop
        split at hs
        · rename_i ds hds
          split at hs
          · rename_i d hp' nx' hcall
            cases hs
            have hal := fitAs_ok hR.tm has hds
            rw [call_run (by rfl)]
            rcases hO f ds s.hp s.nx d hp' nx' hcall β w (ys.map a.eval) hR.hp (by rw [Array.toList_map]; exact hal) with ⟨h1, h2⟩ | ⟨v, β', w', h1, h2, h3, h4⟩
            · rw [h1, Oper.upon_enter]
              refine Calls.mono h2 ?_
              rintro e w' ⟨v, β', rfl, hdv, hh, hm⟩
              exact hK β' _ w' ⟨(hR.tm.ext hm.ext).put hd hdv, hh⟩ hm
            · rw [h1, Oper.upon_value]
              exact hK β' _ w' ⟨(hR.tm.ext h4.ext).put hd h2, h3⟩ h4
          · cases hs
        · cases hs
      · cases hop
    · rename_i hnc
      split at hs
      · rename_i d f hr
        split at hs
        · rename_i hp' hfit
          cases hs
          have hop' : fitsI P x.op o.op = true := by
            unfold fitOp at hop
            split at hop
            · rename_i f as hxo; exact absurd hxo (hnc f as)
            · exact hop
          obtain ⟨v, β', w', hv, hdv, hh, hm⟩ := rd_ok hR.tm hR.hp hop' hr hfit
          rcases hv with hv | ⟨hv, rfl⟩
          · rw [hv, Oper.upon_value]
            exact hK β' _ w' ⟨(hR.tm.ext hm.ext).put hd hdv, hh⟩ hm
          · rw [hv, Oper.upon_skip]
            exact hK β' _ w' ⟨(hR.tm.ext hm.ext).put hd hdv, hh⟩ hm
        · cases hs
      · cases hs
end
end Go.Proofs.YtiahijhpjloijaaGreat.V
