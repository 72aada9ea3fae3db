/- Control, functions, and the evaluator as a whole: what it gives is what a call gives. -/
import Derived.Test.YtiahijhpjloijaaGreatF21
set_option linter.unusedVariables false
set_option linter.unusedSimpArgs false
namespace Go.Proofs.YtiahijhpjloijaaGreat.V
open Go Go.RowKit
noncomputable def fitK (P : Program) (n : Nat) : K → Code → Bool
  | .blk _ l, .region _ ops false => fitBl P n ops l ops.toList
  | .dblk _ l chk, .region _ ops true => fitDr P n ops l chk
  | .seq a b, .seq c d => fitK P n a c && fitK P n b d
  | .cond c a b, .cond o d e => fitA c o && (fitK P n a d && fitK P n b e)
  | .block i a, .block j c => Nat.beq i j && fitK P n a c
  | .loop a, .loop c => fitK P n a c
  | .exit i, .exit j => Nat.beq i j
  | .ret, .ret => true
  | .skip, .skip => true
  | _, _ => false
section
variable {P : Program} {O : Oracle}
theorem reserve_R {n : Nat} {β : Blk} {s : St} {a : Act} {w : World} (na : Nat) (h : R n β s a w) : R n β (reserve na s) a w := by
  cases na with
  | zero => exact h
  | succ m => exact ⟨h.tm, h.hp⟩
theorem ev_seq (m : Nat) (a b : K) (s : St) : ev P O m (.seq a b) s = match ev P O m a s with | .norm s' => ev P O m b s' | .exit j s' => .exit j s' | .ret s' => .ret s' | .no => .no := by
  show (@Out.rec (fun _ => Out) (fun s => ev P O m b s) (fun j s => .exit j s) (fun s => .ret s) .no (ev P O m a s)) = _
  rw [outrec]
  cases ev P O m a s <;> rfl
theorem ev_block (m i : Nat) (a : K) (s : St) : ev P O m (.block i a) s = match ev P O m a s with | .norm s' => .norm s' | .exit j s' => if j = i then .norm s' else .exit j s' | .ret s' => .ret s' | .no => .no := by
  show (@Out.rec (fun _ => Out) (fun s => .norm s) (fun j s => (Bool.rec (.exit j s) (.norm s) (Nat.beq j i) : Out)) (fun s => .ret s) .no (ev P O m a s)) = _
  rw [outrec]
  cases ev P O m a s with
  | exit j s' =>
    simp only []
    rw [brec']
    by_cases h : j = i
    · rw [if_pos h, if_pos (by rw [beq_iff]; exact h)]
    · rw [if_neg h, if_neg (by rw [beq_iff]; exact h)]
  | _ => rfl
theorem ev_blk (m na : Nat) (l : List Ins) (s : St) : ev P O m (.blk na l) s = match steps P O s.nx l (reserve na s) with | some s' => .norm s' | none => .no := by
  show (@Option.rec St (fun _ => Out) .no (fun s => .norm s) (steps P O s.nx l (reserve na s))) = _
  rw [orec]
  cases steps P O s.nx l (reserve na s) <;> rfl
theorem ev_cond (m : Nat) (c : A) (a b : K) (s : St) : ev P O m (.cond c a b) s = match cel s.tm c with | some (.bool t) => if t = true then ev P O m a s else ev P O m b s | _ => .no := by
  show (match cel s.tm c with | some (.bool t) => (Bool.rec (ev P O m b s) (ev P O m a s) t : Out) | _ => .no) = _
  cases cel s.tm c with
  | none => rfl
  | some x => cases x <;> first | rfl | (simp only []; rw [brec'])
theorem ev_ok (hm : P.follows .mixedOrders = true) (hG : Good P O) (hO : Fr O) {n m : Nat} : ∀ {k : K} {c : Code} {s : St} {β : Blk} {a : Act} {w : World}, fitK P n k c = true → ev P O m k s ≠ .no → R n β s a w → c.wp P (post n β w (ev P O m k s)) a w := by
  intro k
  induction k with
  | blk na l =>
    intro c s β a w hf hno hR
    cases c <;> first | (exact absurd (show false = true from hf) (by decide)) | skip
    rename_i id ops dr
    cases dr
    case true => exact absurd (show false = true from hf) (by decide)
    have hf : fitBl P n ops l ops.toList = true := hf
    rw [ev_blk] at hno ⊢
    split at hno
    · rename_i s' hs
      refine wp_region ?_
      rw [List.range_eq_range']
      have := steps_ok (k := 0) hG (Q := post n β w (.norm s')) (by simpa using hf) (Nat.zero_le _) hs (reserve_R na hR) (fun β' a' w' hR' hm' => ⟨β', s', rfl, hR', hm'⟩)
      exact this
    · exact absurd rfl hno
  | dblk na l chk =>
    intro c s β a w hf hno hR
    cases c <;> first | (exact absurd (show false = true from hf) (by decide)) | skip
    rename_i id ops dr
    cases dr
    case false => exact absurd (show false = true from hf) (by decide)
    have hf : fitDr P n ops l chk = true := hf
    have he : ev P O m (.dblk na l chk) s = (match stepsF P O s.nx l (reserve na s) [] with
      | some (s', fs) => (Bool.rec .no (.norm s') (okF fs (len l) chk) : Out)
      | none => .no) := rfl
    rw [he] at hno ⊢
    split at hno
    · rename_i s' fs hs
      rw [brec'] at hno ⊢
      split at hno
      · rename_i hok
        try rw [if_pos hok]
        refine wp_region_any hm ?_
        have hR' : R n β (reserve na s) a { w with drawn := w.drawn + 1 } := by
          have := reserve_R na hR
          exact ⟨this.tm, this.hp.drew _⟩
        exact dblk_ok hG hO hf hs hok hR' (fun β' a' w' hR' hm' => ⟨β', s', rfl, hR', (Mv.drew _).trans hm'⟩)
      · exact absurd rfl hno
    · exact absurd rfl hno
  | seq x y ihx ihy =>
    intro c s β a w hf hno hR
    cases c <;> simp only [fitK] at hf <;> try cases hf
    simp only [Bool.and_eq_true] at hf
    rw [ev_seq] at hno ⊢
    have hx : ev P O m x s ≠ .no := fun h => by rw [h] at hno; exact hno rfl
    refine wp_seq (wp_mono (ihx hf.1 hx hR) (fun e a' w' hp => ?_))
    cases e with
    | normal =>
      obtain ⟨β', s', he, hR', hm'⟩ := hp
      rw [he] at hno ⊢
      exact wp_mono (ihy hf.2 hno hR') (fun e a'' w'' hp' => post_from hm' hp')
    | exit j => obtain ⟨β', s', he, r⟩ := hp; rw [he]; exact ⟨β', s', rfl, r⟩
    | ret => obtain ⟨β', s', he, r⟩ := hp; rw [he]; exact ⟨β', s', rfl, r⟩
    | goto l => exact hp
    | panic ch => exact hp
    | outgrown => exact hp
  | cond x y z ihy ihz =>
    intro c s β a w hf hno hR
    cases c <;> simp only [fitK] at hf <;> try cases hf
    simp only [Bool.and_eq_true] at hf
    rw [ev_cond] at hno ⊢
    split at hno
    · rename_i t hc
      have hv := cel_ok hR.tm hf.1 hc
      refine wp_cond (t := t) hv ?_
      cases t with
      | true => exact ihy hf.2.1 hno hR
      | false => exact ihz hf.2.2 hno hR
    · exact absurd rfl hno
  | block i x ih =>
    intro c s β a w hf hno hR
    cases c <;> simp only [fitK] at hf <;> try cases hf
    simp only [Bool.and_eq_true, beq_iff] at hf
    obtain ⟨rfl, hf⟩ := hf
    rw [ev_block] at hno ⊢
    have hx : ev P O m x s ≠ .no := fun h => by rw [h] at hno; exact hno rfl
    refine wp_block (wp_mono (ih hf hx hR) (fun e a' w' hp => ?_))
    cases e with
    | normal => obtain ⟨β', s', he, r⟩ := hp; rw [he]; exact ⟨β', s', rfl, r⟩
    | exit j =>
      obtain ⟨β', s', he, r⟩ := hp
      rw [he]
      simp only [Exit.inBlock]
      split
      · rename_i hj; exact ⟨β', s', rfl, r⟩
      · rename_i hj; exact ⟨β', s', rfl, r⟩
    | ret => obtain ⟨β', s', he, r⟩ := hp; rw [he]; exact ⟨β', s', rfl, r⟩
    | goto l => exact hp
    | panic ch => exact hp
    | outgrown => exact hp
  | loop x ih =>
    intro c s β a w hf hno hR
    cases c <;> simp only [fitK] at hf <;> try cases hf
    rename_i c
    intro b k cs
    obtain ⟨e, a', w', hp, harr⟩ := loop_ok (P := P) (n := n) (c := c) (g := ev P O m x) (fun hno' hR' => ih hf hno' hR') m hno hR b k cs
    exact ⟨e, a', w', hp, .of_steps (.one step_loop) harr⟩
  | exit i =>
    intro c s β a w hf hno hR
    cases c <;> simp only [fitK] at hf <;> try cases hf
    have := Nat.eq_of_beq_eq_true hf
    subst this
    exact wp_exit ⟨β, s, rfl, hR, Mv.refl _ _⟩
  | ret =>
    intro c s β a w hf hno hR
    cases c <;> simp only [fitK] at hf <;> try cases hf
    exact wp_ret ⟨β, s, rfl, hR, Mv.refl _ _⟩
  | skip =>
    intro c s β a w hf hno hR
    cases c <;> simp only [fitK] at hf <;> try cases hf
    exact wp_skip ⟨β, s, rfl, hR, Mv.refl _ _⟩
end
end Go.Proofs.YtiahijhpjloijaaGreat.V
