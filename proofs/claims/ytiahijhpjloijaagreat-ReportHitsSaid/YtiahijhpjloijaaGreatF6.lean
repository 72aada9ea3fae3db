/- Which operation of the program an operation of the evaluator fits; cells read, cells written, texts, numbers. -/
import Derived.Test.YtiahijhpjloijaaGreatF5
import Derived.ArgAppend
import Derived.Laws.Tables
set_option linter.unusedVariables false
set_option linter.unusedSimpArgs false
namespace Go.Proofs.YtiahijhpjloijaaGreat.V
open Go Go.RowKit
noncomputable def fldB (P : Program) (s f : Nat) (off k : Nat) : Bool :=
  match P.underlying s with
  | some (.struct fs) => (match fs[f]? with | some d => Nat.beq d.offset off && (szB P d.type k && Nat.blt 0 k) | none => false)
  | _ => false
noncomputable def fldG (P : Program) (s f : Nat) (off k : Nat) (ag : Bool) : Bool :=
  match P.underlying s with
  | some (.struct fs) => (match fs[f]? with | some d => Nat.beq d.offset off && (szB P d.type k && agB P d.type ag) | none => false)
  | _ => false
noncomputable def elSz (P : Program) (t k : Nat) : Bool := match P.underlying t with | some (.slice e) => szB P e k && Nat.blt 0 k | _ => false
noncomputable def arSz (P : Program) (t n k : Nat) : Bool := match P.underlying t with | some (.array m e) => Nat.beq m n && (Nat.blt 1 n && szB P e k) | _ => false
noncomputable def partsB (place : Nat → Option (Nat × Nat)) : List (Nat × Nat × A) → List (Nat × Operand) → Bool
  | [], [] => true
  | (off, k, x) :: ps, (i, y) :: qs => (match place i with | some (o, s) => Nat.beq o off && Nat.beq s k | none => false) && (fitA x y && partsB place ps qs)
  | _, _ => false
noncomputable def bldB (P : Program) (t : Nat) (zs : List C) (ps : List (Nat × Nat × A)) (qs : List (Nat × Operand)) : Bool :=
  match P.info? t, P.underlying t with
  | some it, some (.array _ e) =>
    (match it.zero, P.info? e with
    | some z, some ie => fitL zs z.cells.toList && partsB (fun i => some (i * ie.size, ie.size)) ps qs
    | _, _ => false)
  | some it, some (.struct fields) =>
    (match it.zero, fields.toList.mapM (fun f => (P.info? f.type).map fun i => (f.offset, i.size)) with
    | some z, some places => fitL zs z.cells.toList && partsB (places.toArray[·]?) ps qs
    | _, _ => false)
  | _, _ => false
noncomputable def zsz (P : Program) (t k : Nat) : Bool := match P.info? t with | some i => (match i.zero with | some z => Nat.beq z.cells.size k && (Nat.beq i.size k && Nat.blt 0 i.bytes) | none => false) | none => false
theorem zsz_ok {P : Program} {t k : Nat} (h : zsz P t k = true) : ∃ i z, P.info? t = some i ∧ i.zero = some z ∧ z.cells.size = k ∧ i.size = k ∧ 0 < i.bytes := by
  unfold zsz at h
  split at h
  · rename_i i hi
    split at h
    · rename_i z hz
      simp only [Bool.and_eq_true] at h
      exact ⟨i, z, hi, hz, Nat.eq_of_beq_eq_true h.1, Nat.eq_of_beq_eq_true h.2.1, Nat.le_of_ble_eq_true h.2.2⟩
    · cases h
  · cases h
noncomputable def fitO : Option A → Option Operand → Bool
  | none, none => true
  | some x, some y => fitA x y
  | _, _ => false
noncomputable def nB (n : Nat) : Operand → Bool | .const (.int .i64 (.ofNat m)) => Nat.beq n m | _ => false
noncomputable def fitsB (P : Program) (i : I) (b : Builtin) (ts : Array TypeId) (as : Array Operand) : Bool :=
  match i, b, ts.toList, as.toList with
  | .len s x, .len, [t], [y] => (bif s then strT P t else sliceT P t) && fitA x y
  | .ap e k b x y, .append, [t, u], [x', y'] => elB P t e && (sliceT P u && (zsz P e k && (byB P e b && (Nat.blt 0 k && (fitA x x' && fitA y y')))))
  | .aps e b x y, .append, [t, u], [x', y'] => elB P t e && (strT P u && (zsz P e 1 && (byB P e b && (fitA x x' && fitA y y'))))
  | .apz e k b zs x y, .append, [t, u], [x', y'] => elB P t e && (intT P u && (zsz P e k && (byB P e b && (Nat.blt 0 k && (zerB P e zs && (fitA x x' && fitA y y'))))))
  | .mn x y, .min, _, [x', y'] => fitA x x' && fitA y y'
  | .mx x y, .max, _, [x', y'] => fitA x x' && fitA y y'
  | _, _, _, _ => false
noncomputable def fitsI (P : Program) (i : I) (op : Op) : Bool :=
  match i, op with
  | .mv x, .move y => fitA x y
  | .mv x, .assign y => fitA x y
  | .pick c a b, .pick c' a' b' => fitA c c' && (fitA a a' && fitA b b')
  | .alloc e zs, .alloc t => Nat.beq e t && zerB P t zs
  | .box e k x, .box t y => Nat.beq e t && fitA x y
  | .bld zs ps, .build t qs => bldB P t zs ps qs.toList
  | .bsl e k n zs ps, .buildSlice t m qs => Nat.beq n m && (elB P t e && (zsz P e k && (Nat.blt 0 k && (Nat.ble (n * k) 16777216 && (zerB P e zs && partsB (fun i => some (i * k, k)) ps qs.toList)))))
  | .ld k ag a, .load t y => szB P t k && (agB P t ag && fitA a y)
  | .st k a x, .store t y z => szB P t k && (Nat.blt 0 k && (fitA a y && fitA x z))
  | .nilc x, .nilCheck y => fitA x y
  | .fa off x, .fieldAddr s y f => (match P.underlying s with | some (.struct fs) => (match fs[f]? with | some d => Nat.beq d.offset off && (match P.info? d.type with | some i => Nat.blt 0 i.size | none => false) | none => false) | _ => false) && fitA x y
  | .fd off k ag x, .field t y f => fldG P t f off k ag && fitA x y
  | .ias k x ix, .indexAddr t y iy => elSz P t k && (fitA x y && fitA ix iy)
  | .iaa n k x ix, .indexAddr t y iy => arSz P t n k && (fitA x y && fitA ix iy)
  | .ixs x ix, .index t y iy => strT P t && (fitA x y && fitA ix iy)
  | .mk e k n zs, .makeSlice t l c => elB P t e && (zsz P e k && (Nat.blt 0 k && (zerB P e zs && (nB n l && (nB n c && (Nat.ble n 65536 && (match P.info? e with | some i => Nat.ble i.bytes 65536 | none => false)))))))
  | .sl k x lo hi, .slice t y l h none => elSz P t k && (fitA x y && (fitO lo l && fitO hi h))
  | .sls x lo hi, .slice t y l h none => strT P t && (fitA x y && (fitO lo l && fitO hi h))
  | .ex x ix, .extract y j => Nat.beq ix j && fitA x y
  | .s2b e x, .convert src dst y => elB P dst e && (intB P e .u8 && (strT P src && fitA x y))
  | .b2s x, .convert src dst y => (match P.underlying src with | some (.slice e) => intB P e .u8 | _ => false) && (strT P dst && fitA x y)
  | .bin op t x y, .binOp op' t' x' y' _ => decide (op = op') && (Nat.beq t t' && (fitA x x' && fitA y y'))
  | .beq x y, .binOp op' t' x' y' _ => (match op' with | .eql => boolT P t' | _ => false) && (fitA x x' && fitA y y')
  | .not x, .unOp op _ y => (match op with | .not => true | _ => false) && fitA x y
  | .neg x, .unOp op _ y => (match op with | .xor => true | _ => false) && fitA x y
  | .cvi k x, .convert src dst y => intB P dst k && (fitA x y && (P.underlying src).isSome)
  | .cvf x, .convert src dst y => fltT P dst && (fitA x y && (P.underlying src).isSome)
  | i, .call { callee := .builtin b, args := as, argTypes := ts } => fitsB P i b ts as
  | _, _ => false
/-! ## Cells -/
theorem run_storeCells_free (P : Program) (g o : Nat) (t : TypeId) (fz : Nat × Nat) : ∀ (vs : List Value) (i : Nat) (cur : Array Value) (w : World), w.heap[g]? = some (.cells cur t fz) → free fz cur.size → o + i + vs.length ≤ cur.size → (∀ v ∈ vs, v.oneCell' = true) →
    (storeCells ⟨g, o, none⟩ vs i).run P w = .ok () (w.setRow g (cur.toList.take (o + i) ++ vs ++ cur.toList.drop (o + i + vs.length)).toArray)
  | [], i, cur, w, hg, _, _, _ => by
    simp only [storeCells, List.append_nil, List.length_nil, Nat.add_zero, List.take_append_drop, Array.toArray_toList]
    rw [setRow_self w g cur t fz hg]
    rfl
  | v :: rest, i, cur, w, hg, hfz, hl, h1 => by
    have hi : o + i < cur.size := by simp at hl; omega
    have hcell : w.cell? ⟨g, o + i, none⟩ = some cur[o + i] := by simp [World.cell?, hg, hi]
    have hfro : w.frozen? ⟨g, o + i, none⟩ = false := by
      have := hfz (o + i) hi
      simp only [World.frozen?, hg, Bool.and_eq_false_iff, decide_eq_false_iff_not]
      omega
    have hst : (store ((⟨g, o, none⟩ : Addr).add i) v).run P w = .ok () (w.setRow g (cur.setIfInBounds (o + i) v)) := by
      rw [add_none, run_store P w _ v _ (h1 v (by simp)), hcell]
      simp [hfro, setCell_eq_setRow w g (o + i) cur t fz v hg]
    have ih := run_storeCells_free P g o t fz rest (i + 1) (cur.setIfInBounds (o + i) v) (w.setRow g (cur.setIfInBounds (o + i) v)) (setRow_heap w g cur _ t _ hg) (by simpa using hfz) (by simp at hl ⊢; omega) (fun x hx => h1 x (by simp [hx]))
    simp only [storeCells, Sem.run_bind, hst, Result.andThen_ok, ih, setRow_setRow]
    congr 3
    have e := list_seg_step cur.toList (o + i) v rest (by simp at hl ⊢; omega)
    simpa [Array.toList_setIfInBounds, Nat.add_assoc] using e
theorem put_get (l : List Value) : ∀ (off k : Nat) (cs : Array Value), off + k + l.length ≤ cs.size →
    ((l.zipIdx k).foldl (fun cs (x : Value × Nat) => cs.setIfInBounds (off + x.2) x.1) cs).size = cs.size ∧
    ∀ i : Nat, ((l.zipIdx k).foldl (fun cs (x : Value × Nat) => cs.setIfInBounds (off + x.2) x.1) cs)[i]? = if off + k ≤ i ∧ i < off + k + l.length then l[i - (off + k)]? else cs[i]? := by
  induction l with
  | nil => intro off k cs _; refine ⟨rfl, fun i => ?_⟩; rw [if_neg (by simp)]; rfl
  | cons v l ih =>
    intro off k cs h
    simp only [List.length_cons] at h
    rw [List.zipIdx_cons, List.foldl_cons]
    obtain ⟨h1, h2⟩ := ih off (k + 1) (cs.setIfInBounds (off + k) v) (by simp; omega)
    refine ⟨by rw [h1]; simp, fun i => ?_⟩
    rw [h2 i]
    by_cases hi : off + (k + 1) ≤ i ∧ i < off + (k + 1) + l.length
    · rw [if_pos hi, if_pos (by simp; omega)]
      rw [show i - (off + k) = (i - (off + (k + 1))) + 1 from by omega, List.getElem?_cons_succ]
    · rw [if_neg hi]
      by_cases he : i = off + k
      · subst he
        rw [if_pos (by simp), Nat.sub_self, List.getElem?_cons_zero, Array.getElem?_setIfInBounds_self_of_lt (by omega)]
      · rw [if_neg (by simp only [List.length_cons]; omega), Array.getElem?_setIfInBounds_ne (fun e => he e.symm)]
theorem splice_al {β : Blk} {zs l : List C} {zv : Array Value} {vs : List Value} {off : Nat} (hz : Al (CK β) zs zv.toList) (hl : Al (CK β) l vs) (ho : off + l.length ≤ zs.length) :
    Al (CK β) (splice l off zs) ((vs.zipIdx 0).foldl (fun cs (x : Value × Nat) => cs.setIfInBounds (off + x.2) x.1) zv).toList := by
  have hlen := Al.len hz
  have hlv := Al.len hl
  simp only [Array.length_toList] at hlen
  obtain ⟨h1, h2⟩ := put_get vs off 0 zv (by omega)
  refine Al.of (by rw [splice_len]; simp [h1, hlen]) (fun i x y hx hy => ?_)
  rw [splice_get l off zs ho] at hx
  rw [Array.getElem?_toList, h2 i] at hy
  simp only [Nat.add_zero, ← hlv] at hy
  by_cases hi : off ≤ i ∧ i < off + l.length
  · rw [if_pos hi] at hx hy
    obtain ⟨v, hv, hc⟩ := Al.get hl hx
    rw [hv] at hy; cases hy; exact hc
  · rw [if_neg hi] at hx hy
    obtain ⟨v, hv, hc⟩ := Al.get hz hx
    rw [Array.getElem?_toList] at hv
    rw [hv] at hy; cases hy; exact hc
theorem fill_nil (tm : Tr D) (zs : List C) : fill tm zs [] = some zs := rfl
theorem fill_cons (tm : Tr D) (zs : List C) (off k : Nat) (x : A) (ps : List (Nat × Nat × A)) : fill tm zs ((off, k, x) :: ps) =
    match cells tm x with
    | some l => if l.length = k ∧ off + k ≤ zs.length then fill tm (splice l off zs) ps else none
    | none => none := by
  show (match cells tm x with
    | some l => (Bool.rec none (fill tm (splice l off zs) ps) (Bool.rec false (Nat.ble (off + k) (len zs)) (Nat.beq (len l) k) : Bool) : Option (List C))
    | none => none) = _
  cases cells tm x with
  | none => rfl
  | some l =>
    simp only []
    rw [len_eq, len_eq]
    by_cases h1 : l.length = k
    · have e1 : Nat.beq l.length k = true := by subst h1; exact Nat.beq_refl _
      by_cases h2 : off + k ≤ zs.length
      · rw [if_pos ⟨h1, h2⟩, e1, Nat.ble_eq_true_of_le h2]
      · have e2 : Nat.ble (off + k) zs.length = false := by
          cases h : Nat.ble (off + k) zs.length with
          | false => rfl
          | true => exact absurd (Nat.le_of_ble_eq_true h) h2
        rw [if_neg (fun h => h2 h.2), e1, e2]
    · have e1 : Nat.beq l.length k = false := by
        cases h : Nat.beq l.length k with
        | false => rfl
        | true => exact absurd (Nat.eq_of_beq_eq_true h) h1
      rw [if_neg (fun h => h1 h.1), e1]
theorem fill_ok {n : Nat} {β : Blk} {tm : Tr D} {a : Act} (hT : TV n β tm a) {place : Nat → Option (Nat × Nat)} : ∀ {ps : List (Nat × Nat × A)} {qs : List (Nat × Operand)} {zs l : List C} {zv : Array Value},
    fill tm zs ps = some l → partsB place ps qs = true → Al (CK β) zs zv.toList → ∃ lv, Instr.fill place zv (qs.map fun q => (q.1, a.eval q.2)) = some lv ∧ Al (CK β) l lv.toList
  | [], [], zs, l, zv, h, _, hz => by rw [fill_nil] at h; cases h; exact ⟨zv, rfl, hz⟩
  | [], _ :: _, zs, l, zv, _, hp, _ => by cases hp
  | (off, k, x) :: ps, [], zs, l, zv, _, hp, _ => by cases hp
  | (off, k, x) :: ps, (i, y) :: qs, zs, l, zv, h, hp, hz => by
    rw [fill_cons] at h
    simp only [partsB, Bool.and_eq_true] at hp
    obtain ⟨hpl, hxy, hps⟩ := hp
    cases hc : cells tm x with
    | none => rw [hc] at h; cases h
    | some m =>
      simp only [hc] at h
      split at h
      · rename_i hm
        have hxv := cells_ok hT hxy hc
        have hlen := Al.len hxv
        have hzl := Al.len hz
        simp only [Array.length_toList] at hlen hzl
        cases hplace : place i with
        | none => rw [hplace] at hpl; cases hpl
        | some os =>
          obtain ⟨o, s⟩ := os
          simp only [hplace, Bool.and_eq_true] at hpl
          have e1 := Nat.eq_of_beq_eq_true hpl.1
          have e2 := Nat.eq_of_beq_eq_true hpl.2
          subst e1; subst e2
          have hz' := splice_al hz hxv (show o + m.length ≤ zs.length by omega)
          obtain ⟨lv, hl, hal⟩ := fill_ok hT h hps hz'
          refine ⟨lv, ?_, hal⟩
          have hno : ¬ ((a.eval y).cells.size ≠ s ∨ o + (a.eval y).cells.size > zv.size) := by omega
          simp only [List.map_cons, Instr.fill, hplace]
          rw [if_neg (by simpa using hno)]
          rw [← hl]
          congr 1
          rw [← Array.foldl_toList, Array.toList_zipIdx]
      · cases h
end Go.Proofs.YtiahijhpjloijaaGreat.V
