/- Operations that make no object and write none: the evaluator's answer is the model's. -/
import Derived.Test.YtiahijhpjloijaaGreatF4
set_option linter.unusedVariables false
set_option linter.unusedSimpArgs false
namespace Go.Proofs.YtiahijhpjloijaaGreat.V
open Go Go.RowKit
/-! ## Does the evaluator's text fit the program's? -/
noncomputable def fitC : C → Value → Bool
  | .int k n, .int j m => Nat.beq (kn k) (kn j) && ieq n m
  | .bool a, .bool b => a == b
  | .str l, .string s => leq l (s.data.toList.map UInt8.toNat)
  | .flt a, .float .f64 b => Nat.beq a b
  | .nil, .slice none 0 0 => true
  | .np, .pointer none => true
  | .un, .tuple vs => vs.isEmpty
  | _, _ => false
noncomputable def fitL : List C → List Value → Bool
  | [], [] => true
  | .un :: _, _ => false
  | c :: l, v :: vs => fitC c v && fitL l vs
  | _, _ => false
noncomputable def fitD : D → Value → Bool
  | .ag l, .agg vs => fitL l vs.toList
  | .one c, v => fitC c v
  | _, _ => false
noncomputable def fitA : A → Operand → Bool
  | .t p, .tmp t => Nat.beq p.num (t + 1)
  | .c d, .const v => fitD d v
  | _, _ => false
theorem fitC_ok {β : Blk} : ∀ {c : C} {v : Value}, fitC c v = true → CV β c v := by
  intro c v h
  unfold fitC at h
  split at h
  · simp only [Bool.and_eq_true] at h
    obtain ⟨h1, h2⟩ := h
    have := kn_inj h1; subst this
    rw [ieq_eq, decide_eq_true_iff] at h2; subst h2; rfl
  · simp only [beq_iff_eq] at h; subst h; rfl
  · rename_i l s
    rw [leq_eq, decide_eq_true_iff] at h
    subst h
    refine ⟨?_, ?_⟩
    · show _ = Value.string ⟨((s.data.toList.map UInt8.toNat).map UInt8.ofNat).toArray⟩
      have e : (s.data.toList.map UInt8.toNat).map UInt8.ofNat = s.data.toList := by
        rw [List.map_map]
        conv => rhs; rw [← List.map_id s.data.toList]
        apply List.map_congr_left
        intro x _
        simp
      rw [e]
    · intro x hx
      obtain ⟨y, _, rfl⟩ := List.mem_map.1 hx
      exact y.toNat_lt
  · have := Nat.eq_of_beq_eq_true h; subst this; rfl
  · rfl
  · rfl
  · rename_i vs
    have : vs = #[] := by simpa using h
    subst this; rfl
  · cases h
theorem fitL_ok {β : Blk} : ∀ {l : List C} {vs : List Value}, fitL l vs = true → Al (CK β) l vs
  | [], [], _ => .nil
  | [], _ :: _, h => by cases h
  | c :: _, [], h => by cases c <;> cases h
  | c :: l, v :: vs, h => by
    have hc : c ≠ .un := by rintro rfl; cases h
    have h : (fitC c v && fitL l vs) = true := by cases c <;> first | exact h | exact absurd rfl hc
    simp only [Bool.and_eq_true] at h
    exact .cons ⟨fitC_ok h.1, hc⟩ (fitL_ok h.2)
theorem fitD_ok {β : Blk} {d : D} {v : Value} (h : fitD d v = true) : DV β d v := by
  unfold fitD at h
  split at h
  · exact ⟨_, rfl, fitL_ok h⟩
  · exact fitC_ok h
  · cases h
structure TV (n : Nat) (β : Blk) (tm : Tr D) (a : Act) : Prop where
  size : a.tmps.size = n
  defers : a.defers = []
  val : ∀ p d, Tr.get p tm = some d → DV β d (a.tmps.getD (p.num - 1) undef)
theorem TV.ext {n : Nat} {β β' : Blk} {tm : Tr D} {a : Act} (h : TV n β tm a) (he : Ext β β') : TV n β' tm a := ⟨h.size, h.defers, fun p d hp => (h.val p d hp).ext he⟩
section operands
variable {n : Nat} {β : Blk} {tm : Tr D} {a : Act}
theorem val_ok (hT : TV n β tm a) {x : A} {y : Operand} (hf : fitA x y = true) {d : D} (h : val tm x = some d) : DV β d (a.eval y) := by
  unfold fitA at hf
  split at hf
  · rename_i p t
    have hp := Nat.eq_of_beq_eq_true hf
    have := hT.val p d h
    rw [hp] at this
    exact this
  · rename_i d' v
    have : d' = d := Option.some.inj h
    subst this
    exact fitD_ok hf
  · cases hf
theorem cel_eq {x : A} {c : C} (h : cel tm x = some c) : val tm x = some (.one c) := by
  unfold cel at h
  cases hv : val tm x with
  | none => rw [hv] at h; cases h
  | some d => rw [hv] at h; cases d with
    | one c' => cases h; rfl
    | ag l => cases h
    | tup l => cases h
theorem cel_ok (hT : TV n β tm a) {x : A} {y : Operand} (hf : fitA x y = true) {c : C} (h : cel tm x = some c) : CV β c (a.eval y) := val_ok hT hf (cel_eq h)
theorem CV.cells {c : C} {v : Value} (h : CV β c v) : v.cells = #[v] := by
  rcases h.one with h1 | rfl
  · cases v <;> first | rfl | cases h1
  · have h : v = undef := h; subst h; rfl
theorem cells_eq {x : A} {l : List C} (h : cells tm x = some l) : (∃ c, val tm x = some (.one c) ∧ l = [c] ∧ c ≠ .un) ∨ val tm x = some (.ag l) := by
  unfold cells at h
  cases hv : val tm x with
  | none => rw [hv] at h; cases h
  | some d => rw [hv] at h; cases d with
    | one c' =>
      have h : lone c' = some l := h
      have hc : c' ≠ .un := by rintro rfl; cases h
      have h : some [c'] = some l := by cases c' <;> first | exact h | exact absurd rfl hc
      cases h; exact .inl ⟨c', rfl, rfl, hc⟩
    | ag l => cases h; exact .inr rfl
    | tup l => cases h
theorem cells_ok (hT : TV n β tm a) {x : A} {y : Operand} (hf : fitA x y = true) {l : List C} (h : cells tm x = some l) : Al (CK β) l (a.eval y).cells.toList := by
  rcases cells_eq h with ⟨c, hv, rfl, hne⟩ | hv
  · have hc : CV β c (a.eval y) := val_ok hT hf hv
    rw [hc.cells]; exact .cons ⟨hc, hne⟩ .nil
  · obtain ⟨vs, e, hl⟩ : DV β (.ag l) (a.eval y) := val_ok hT hf hv
    rw [e]; exact hl
end operands
/-! ## Types -/
noncomputable def elB (P : Program) (t e : Nat) : Bool := match P.underlying t with | some (.slice x) => Nat.beq x e | _ => false
noncomputable def strT (P : Program) (t : Nat) : Bool := match P.underlying t with | some .string => true | _ => false
noncomputable def boolT (P : Program) (t : Nat) : Bool := match P.underlying t with | some .bool => true | _ => false
noncomputable def sliceT (P : Program) (t : Nat) : Bool := match P.underlying t with | some (.slice _) => true | _ => false
noncomputable def intT (P : Program) (t : Nat) : Bool := match P.underlying t with | some (.int _) => true | _ => false
noncomputable def intB (P : Program) (t : Nat) (k : IntKind) : Bool := match P.underlying t with | some (.int j) => Nat.beq (kn j) (kn k) | _ => false
noncomputable def fltT (P : Program) (t : Nat) : Bool := match P.underlying t with | some (.float .f64) => true | _ => false
noncomputable def szB (P : Program) (t k : Nat) : Bool := match P.info? t with | some i => Nat.beq i.size k | none => false
noncomputable def byB (P : Program) (t k : Nat) : Bool := match P.info? t with | some i => Nat.beq i.bytes k | none => false
noncomputable def agB (P : Program) (t : Nat) (ag : Bool) : Bool := match P.underlying t with | some (.struct _) => ag | some (.array ..) => ag | some _ => !ag | none => false
noncomputable def zerB (P : Program) (t : Nat) (zs : List C) : Bool := match P.info? t with | some i => (match i.zero with | some z => fitL zs z.cells.toList | none => false) | none => false
section types
variable {P : Program}
theorem elB_ok {t e : Nat} (h : elB P t e = true) : P.underlying t = some (.slice e) := by
  unfold elB at h; split at h
  · have := Nat.eq_of_beq_eq_true h; subst this; assumption
  · cases h
theorem strT_ok {t : Nat} (h : strT P t = true) : P.underlying t = some .string := by unfold strT at h; split at h <;> first | assumption | cases h
theorem boolT_ok {t : Nat} (h : boolT P t = true) : P.underlying t = some .bool := by unfold boolT at h; split at h <;> first | assumption | cases h
theorem fltT_ok {t : Nat} (h : fltT P t = true) : P.underlying t = some (.float .f64) := by unfold fltT at h; split at h <;> first | assumption | cases h
theorem sliceT_ok {t : Nat} (h : sliceT P t = true) : ∃ e, P.underlying t = some (.slice e) := by
  unfold sliceT at h; split at h
  · exact ⟨_, by assumption⟩
  · cases h
theorem intT_ok {t : Nat} (h : intT P t = true) : ∃ k, P.underlying t = some (.int k) := by
  unfold intT at h; split at h
  · exact ⟨_, by assumption⟩
  · cases h
theorem intB_ok {t : Nat} {k : IntKind} (h : intB P t k = true) : P.underlying t = some (.int k) := by
  unfold intB at h; split at h
  · have := kn_inj h; subst this; assumption
  · cases h
theorem szB_ok {t k : Nat} (h : szB P t k = true) : ∃ i, P.info? t = some i ∧ i.size = k := by
  unfold szB at h; split at h
  · exact ⟨_, by assumption, Nat.eq_of_beq_eq_true h⟩
  · cases h
theorem byB_ok {t k : Nat} (h : byB P t k = true) : ∃ i, P.info? t = some i ∧ i.bytes = k := by
  unfold byB at h; split at h
  · exact ⟨_, by assumption, Nat.eq_of_beq_eq_true h⟩
  · cases h
theorem zerB_ok {t : Nat} {zs : List C} (h : zerB P t zs = true) : ∃ i z, P.info? t = some i ∧ i.zero = some z ∧ ∀ β, Al (CK β) zs z.cells.toList := by
  unfold zerB at h; split at h
  · rename_i i hi
    split at h
    · exact ⟨i, _, hi, by assumption, fun β => fitL_ok h⟩
    · cases h
  · cases h
theorem run_size {t : Nat} {i : TypeInfo} (h : P.info? t = some i) (w : World) : (sizeOf t).run P w = .ok i.size w := by simp [sizeOf, typeInfo, h]
theorem run_info {t : Nat} {i : TypeInfo} (h : P.info? t = some i) (w : World) : (typeInfo t).run P w = .ok i w := by simp [typeInfo, h]
theorem run_zero {t : Nat} {i : TypeInfo} {z : Value} (h : P.info? t = some i) (hz : i.zero = some z) (w : World) : (zeroValue t).run P w = .ok z w := by simp [zeroValue, typeInfo, h, hz]
theorem agB_ok {t : Nat} {ag : Bool} (h : agB P t ag = true) (w : World) : (isAgg t).run P w = .ok ag w := by
  unfold agB at h
  split at h
  · rename_i hu; subst h; simp [isAgg, run_underlying hu]
  · rename_i hu; subst h; simp [isAgg, run_underlying hu]
  · rename_i d h1 h2 hu
    have : ag = false := by simpa using h
    subst this
    simp only [isAgg, Sem.run_bind, run_underlying hu, Result.andThen_ok]
    rfl
  · cases h
end types
/-! ## What an operation does -/
def Does (P : Program) (s : Sem Next) (w : World) (β : Blk) (d : D) (hp' : Tr Ob) : Prop :=
  ∃ v β' w', (s.run P w = .ok (.value v) w' ∨ (s.run P w = .ok .skip w' ∧ v = undef)) ∧ DV β' d v ∧ HV β' hp' w' ∧ Mv β w β' w'
theorem Does.pure {P : Program} {s : Sem Next} {w : World} {β : Blk} {d : D} {hp : Tr Ob} {v : Value} (hH : HV β hp w) (h : s.run P w = .ok (.value v) w) (hd : DV β d v) : Does P s w β d hp :=
  ⟨v, β, w, .inl h, hd, hH, Mv.refl β w⟩
theorem add_none (b off j : Nat) : (⟨b, off, none⟩ : Addr).add j = ⟨b, off + j, none⟩ := by
  unfold Addr.add
  split
  · rename_i h; subst h; rfl
  · rfl
/-- the cells of an object, as the world has them -/
theorem HV.seg {β : Blk} {hp : Tr Ob} {w : World} (h : HV β hp w) {id : Pos} {e : Nat} {cs : List C} (hg : Tr.get id hp = some (.ob e cs)) (off k : Nat) (hl : off + k ≤ cs.length) :
    ∃ b sz vs, β id = some (b, sz) ∧ vs.length = k ∧ Al (CK β) ((cs.drop off).take k) vs ∧ ∀ (j : Nat) (v : Value), vs[j]? = some v → w.cell? ((⟨b, off, none⟩ : Addr).add j) = some v := by
  obtain ⟨b, c, fz, hb, hh, hlen, hc, hf⟩ := h.obj id e cs hg
  refine ⟨b, c.size, (c.toList.drop off).take k, hb, by simp; omega, ?_, ?_⟩
  · refine Al.of (by simp; omega) (fun i x y hx hy => ?_)
    have hi : i < k := by have := (List.getElem?_eq_some_iff.1 hx).1; simp at this; omega
    rw [List.getElem?_take_of_lt hi, List.getElem?_drop] at hx hy
    obtain ⟨v, hv, hcv⟩ := hc _ _ hx
    have : c.toList[off + i]? = c[off + i]? := by simp
    rw [this, hv] at hy; cases hy; exact hcv
  · intro j v hv
    have hi : j < k := by have := (List.getElem?_eq_some_iff.1 hv).1; simp at this; omega
    rw [List.getElem?_take_of_lt hi, List.getElem?_drop] at hv
    rw [add_none, cell_of_row w b (off + j) c e fz hh]
    simpa using hv
theorem CV.blk {β : Blk} {b sz : Nat} {id : Pos} {b' sz' : Nat} (h : β id = some (b, sz)) (h' : β id = some (b', sz')) : b = b' ∧ sz = sz' := by
  rw [h] at h'; cases h'; exact ⟨rfl, rfl⟩
theorem asD_ok {β : Blk} {ag : Bool} {l : List C} {d : D} {vs : List Value} (h : asD ag l = some d) (hv : Al (CK β) l vs) :
    (ag = true ∧ d = .ag l ∧ DV β d (.agg vs.toArray)) ∨ (ag = false ∧ ∃ v, vs = [v] ∧ DV β d v) := by
  unfold asD at h
  cases ag with
  | true => cases h; exact .inl ⟨rfl, rfl, vs.toArray, rfl, by simpa using hv⟩
  | false =>
    refine .inr ⟨rfl, ?_⟩
    cases hv with
    | nil => cases h
    | cons hc ht => cases ht with
      | nil => cases h; exact ⟨_, rfl, hc.1⟩
      | cons _ _ => cases h
theorem load_ok {P : Program} {t : TypeId} {ag : Bool} {i : TypeInfo} {w : World} {a : Addr} {β : Blk} {l : List C} {d : D} {vs : List Value} {k : Nat}
    (hag : agB P t ag = true) (hi : P.info? t = some i) (hk : i.size = k) (hlen : vs.length = k) (hv : Al (CK β) l vs)
    (hcell : ∀ (j : Nat) (v : Value), vs[j]? = some v → w.cell? (a.add j) = some v) (hd : asD ag l = some d) :
    ∃ v, (loadVar t a).run P w = .ok v w ∧ DV β d v := by
  rcases asD_ok hd hv with ⟨rfl, rfl, hdv⟩ | ⟨rfl, v, rfl, hdv⟩
  · refine ⟨_, ?_, hdv⟩
    simp only [loadVar, Sem.run_bind, agB_ok hag, Result.andThen_ok, if_true, run_size hi]
    rw [hk, ← hlen, run_loadCells_list w a vs hcell]
    rfl
  · refine ⟨v, ?_, hdv⟩
    have := hcell 0 v rfl
    rw [show a.add 0 = a from by simp [Addr.add]] at this
    simp only [loadVar, Sem.run_bind, agB_ok hag, Result.andThen_ok, Bool.false_eq_true, if_false, run_load, this]
theorem idx_ok {j : Int} {n m : Nat} (h : idx j n = some m) : j = (m : Int) ∧ m < n := by
  cases j with
  | negSucc _ => cases h
  | ofNat x =>
    have h : (Bool.rec none (some x) (Nat.ble (Nat.succ x) n) : Option Nat) = some m := h
    cases hb : Nat.ble (Nat.succ x) n with
    | false => rw [hb] at h; cases h
    | true => rw [hb] at h; cases h; exact ⟨rfl, Nat.le_of_ble_eq_true hb⟩
theorem take_len {α : Type} {l : List α} {off k : Nat} (h : (l.drop off |>.take k).length = k) (hk : 0 < k) : off + k ≤ l.length := by
  simp at h; omega
end Go.Proofs.YtiahijhpjloijaaGreat.V
