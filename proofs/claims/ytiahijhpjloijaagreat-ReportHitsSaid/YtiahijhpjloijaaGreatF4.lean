/- Scalars: what the evaluator computes of them is what the model computes. -/
import Derived.Test.YtiahijhpjloijaaGreatF3
import Derived.Laws.FloatArith
set_option linter.unusedVariables false
set_option linter.unusedSimpArgs false
namespace Go.Proofs.YtiahijhpjloijaaGreat.V
open Go Go.RowKit
theorem kn_inj {k j : IntKind} (h : Nat.beq (kn k) (kn j) = true) : k = j := by cases k <;> cases j <;> first | rfl | (exact absurd h (by decide))
theorem wr8 (n : Int) : IntKind.i8.wrap n = (n + 128) % 256 - 128 := by
  simp [IntKind.wrap, IntKind.bits, IntKind.signed]
  split <;> omega
theorem wr16 (n : Int) : IntKind.i16.wrap n = (n + 32768) % 65536 - 32768 := by
  simp [IntKind.wrap, IntKind.bits, IntKind.signed]
  split <;> omega
theorem wr32 (n : Int) : IntKind.i32.wrap n = (n + 2147483648) % 4294967296 - 2147483648 := by
  simp [IntKind.wrap, IntKind.bits, IntKind.signed]
  split <;> omega
theorem wrapC_eq (k : IntKind) (n : Int) : wrapC k n = k.wrap n := by
  cases n with
  | ofNat m =>
    show (Bool.rec (k.wrap (.ofNat m)) (.ofNat m) (Nat.ble m (top k)) : Int) = _
    cases h : Nat.ble m (top k) with
    | false => rfl
    | true =>
      have hm := Nat.le_of_ble_eq_true h
      show Int.ofNat m = k.wrap (.ofNat m)
      cases k <;> simp only [top] at hm <;> simp [IntKind.wrap, IntKind.bits, IntKind.signed] <;> omega
  | negSucc m =>
    show (Bool.rec (k.wrap (.negSucc m)) (.negSucc m) (Bool.rec false (Nat.ble m (top k)) (sgn k) : Bool) : Int) = _
    cases hs : sgn k with
    | false => rfl
    | true =>
      show (Bool.rec (k.wrap (.negSucc m)) (.negSucc m) (Nat.ble m (top k)) : Int) = _
      cases h : Nat.ble m (top k) with
      | false => rfl
      | true =>
        have hm := Nat.le_of_ble_eq_true h
        show Int.negSucc m = k.wrap (.negSucc m)
        rw [Int.negSucc_eq m]
        cases k <;> simp only [top] at hm <;> first
          | (exact absurd hs (by decide))
          | (rw [IntKind.wrap_i64]; omega)
          | (rw [wr8]; omega)
          | (rw [wr16]; omega)
          | (rw [wr32]; omega)
theorem ilt_eq (a b : Int) : ilt a b = decide (a < b) := by
  cases a with
  | ofNat m => cases b with
    | ofNat n =>
      show Nat.ble (m + 1) n = _
      cases h : Nat.ble (m + 1) n with
      | true => have := Nat.le_of_ble_eq_true h; symm; rw [decide_eq_true_iff]; show (m : Int) < n; omega
      | false =>
        have : ¬ m + 1 ≤ n := fun h' => by rw [Nat.ble_eq_true_of_le h'] at h; cases h
        symm; rw [decide_eq_false_iff_not]; show ¬ (m : Int) < n; omega
    | negSucc n => show false = _; symm; rw [decide_eq_false_iff_not]; show ¬ (m : Int) < _; omega
  | negSucc m => cases b with
    | ofNat n => show true = _; symm; rw [decide_eq_true_iff]; show _ < (n : Int); omega
    | negSucc n =>
      show Nat.ble (n + 1) m = _
      cases h : Nat.ble (n + 1) m with
      | true => have := Nat.le_of_ble_eq_true h; symm; rw [decide_eq_true_iff]; omega
      | false =>
        have : ¬ n + 1 ≤ m := fun h' => by rw [Nat.ble_eq_true_of_le h'] at h; cases h
        symm; rw [decide_eq_false_iff_not]; omega
theorem ile_eq (a b : Int) : ile a b = decide (a ≤ b) := by
  cases a with
  | ofNat m => cases b with
    | ofNat n =>
      show Nat.ble m n = _
      cases h : Nat.ble m n with
      | true => have := Nat.le_of_ble_eq_true h; symm; rw [decide_eq_true_iff]; show (m : Int) ≤ n; omega
      | false =>
        have : ¬ m ≤ n := fun h' => by rw [Nat.ble_eq_true_of_le h'] at h; cases h
        symm; rw [decide_eq_false_iff_not]; show ¬ (m : Int) ≤ n; omega
    | negSucc n => show false = _; symm; rw [decide_eq_false_iff_not]; show ¬ (m : Int) ≤ _; omega
  | negSucc m => cases b with
    | ofNat n => show true = _; symm; rw [decide_eq_true_iff]; show _ ≤ (n : Int); omega
    | negSucc n =>
      show Nat.ble n m = _
      cases h : Nat.ble n m with
      | true => have := Nat.le_of_ble_eq_true h; symm; rw [decide_eq_true_iff]; omega
      | false =>
        have : ¬ n ≤ m := fun h' => by rw [Nat.ble_eq_true_of_le h'] at h; cases h
        symm; rw [decide_eq_false_iff_not]; omega
theorem ieq_eq (a b : Int) : ieq a b = decide (a = b) := by
  cases a with
  | ofNat m => cases b with
    | ofNat n =>
      show Nat.beq m n = _
      cases h : Nat.beq m n with
      | true => have := Nat.eq_of_beq_eq_true h; symm; rw [decide_eq_true_iff, this]
      | false => have := Nat.ne_of_beq_eq_false h; symm; rw [decide_eq_false_iff_not]; intro e; cases e; exact this rfl
    | negSucc n => show false = _; symm; rw [decide_eq_false_iff_not]; intro e; cases e
  | negSucc m => cases b with
    | ofNat n => show false = _; symm; rw [decide_eq_false_iff_not]; intro e; cases e
    | negSucc n =>
      show Nat.beq n m = _
      cases h : Nat.beq n m with
      | true => have := Nat.eq_of_beq_eq_true h; symm; rw [decide_eq_true_iff, this]
      | false => have := Nat.ne_of_beq_eq_false h; symm; rw [decide_eq_false_iff_not]; intro e; cases e; exact this rfl
theorem leq_eq : ∀ (l m : List Nat), leq l m = decide (l = m)
  | [], [] => rfl
  | [], y :: m => rfl
  | x :: l, [] => rfl
  | x :: l, y :: m => by
    show (Bool.rec false (leq l m) (Nat.beq x y) : Bool) = _
    cases h : Nat.beq x y with
    | true =>
      have := Nat.eq_of_beq_eq_true h
      show leq l m = _
      rw [leq_eq l m]; simp [this]
    | false =>
      have := Nat.ne_of_beq_eq_false h
      show false = _
      simp [this]
theorem ixor_eq (k : IntKind) (a b : Int) : ixor k a b = k.wrap (BitVec.ofInt k.bits a ^^^ BitVec.ofInt k.bits b).toNat := by
  cases a with
  | negSucc m => rfl
  | ofNat m => cases b with
    | negSucc n => rfl
    | ofNat n =>
      show (Bool.rec (k.wrap (BitVec.ofInt k.bits (.ofNat m) ^^^ BitVec.ofInt k.bits (.ofNat n)).toNat) (Int.ofNat (Nat.xor m n)) (Bool.rec false (Bool.rec false (Nat.beq (kn k) 3) (Nat.ble n 65535) : Bool) (Nat.ble m 65535) : Bool) : Int) = _
      cases hm : Nat.ble m 65535 with
      | false => rfl
      | true => cases hn : Nat.ble n 65535 with
        | false => rfl
        | true => cases hk : Nat.beq (kn k) 3 with
          | false => rfl
          | true =>
            have hm := Nat.le_of_ble_eq_true hm
            have hn := Nat.le_of_ble_eq_true hn
            have : k = .i64 := kn_inj (j := .i64) hk
            subst this
            show Int.ofNat (m ^^^ n) = _
            have hx : m ^^^ n < 2 ^ 16 := Nat.xor_lt_two_pow (by omega) (by omega)
            have e1 : BitVec.ofInt 64 (Int.ofNat m) = BitVec.ofNat 64 m := by apply BitVec.eq_of_toNat_eq; simp [BitVec.toNat_ofInt]
            have e2 : BitVec.ofInt 64 (Int.ofNat n) = BitVec.ofNat 64 n := by apply BitVec.eq_of_toNat_eq; simp [BitVec.toNat_ofInt]
            show _ = IntKind.i64.wrap (BitVec.ofInt 64 (Int.ofNat m) ^^^ BitVec.ofInt 64 (Int.ofNat n)).toNat
            rw [e1, e2, BitVec.toNat_xor, BitVec.toNat_ofNat, BitVec.toNat_ofNat, Nat.mod_eq_of_lt (by omega), Nat.mod_eq_of_lt (by omega), ← wrapC_eq]
            show _ = wrapC .i64 (Int.ofNat (m ^^^ n))
            show _ = (Bool.rec (IntKind.i64.wrap (Int.ofNat (m ^^^ n))) (Int.ofNat (m ^^^ n)) (Nat.ble (m ^^^ n) 9223372036854775807) : Int)
            rw [Nat.ble_eq_true_of_le (show m ^^^ n ≤ 9223372036854775807 by omega)]
theorem ofNat_inj {x y : Nat} (hx : x < 256) (hy : y < 256) (h : UInt8.ofNat x = UInt8.ofNat y) : x = y := by
  have := congrArg UInt8.toNat h
  simp at this
  omega
theorem map_inj : ∀ {l m : List Nat}, (∀ x ∈ l, x < 256) → (∀ x ∈ m, x < 256) → l.map UInt8.ofNat = m.map UInt8.ofNat → l = m
  | [], [], _, _, _ => rfl
  | [], _ :: _, _, _, h => by simp at h
  | _ :: _, [], _, _, h => by simp at h
  | x :: l, y :: m, hl, hm, h => by
    simp only [List.map_cons, List.cons.injEq] at h
    rw [ofNat_inj (hl x (by simp)) (hm y (by simp)) h.1, map_inj (fun z hz => hl z (by simp [hz])) (fun z hz => hm z (by simp [hz])) h.2]
theorem strB_list (l : List Nat) : (strB l).toList = l.map UInt8.ofNat := ByteArray.toList_mk _
theorem strB_size (l : List Nat) : (strB l).size = l.length := by show ((l.map UInt8.ofNat).toArray).size = _; simp
theorem strB_app (l m : List Nat) : strB l ++ strB m = strB (l ++ m) := by
  show ByteArray.mk _ ++ ByteArray.mk _ = ByteArray.mk _
  rw [ByteArray.mk_append_mk, List.map_append]
theorem list_beq {α : Type} [BEq α] [LawfulBEq α] [DecidableEq α] (l m : List α) : (l == m) = decide (l = m) := by
  by_cases h : l = m
  · simp [h]
  · simp [h]
/-- a computation that gives this and at most draws -/
def Gives (P : Program) (s : Sem Value) (w : World) (β : Blk) (c : C) : Prop := ∃ v n, s.run P w = .ok v { w with drawn := n } ∧ CV β c v
theorem Gives.ok {P : Program} {s : Sem Value} {w : World} {β : Blk} {c : C} {v : Value} (h : s.run P w = .ok v w) (hc : CV β c v) : Gives P s w β c := ⟨v, w.drawn, h, hc⟩
theorem ibin_ok {P : Program} {op : BinOp} {t : TypeId} {k : IntKind} {a b : Int} {c : C} (w : World) (β : Blk) (hop : op ≠ .shl) (hop' : op ≠ .shr)
    (h : ibin op k a b = some c) : Gives P (binOp op t (.int k a) (.int k b)) w β c := by
  unfold ibin at h
  have hz : ∀ {α : Type} (x y : α), (Bool.rec x y (ieq b 0) : α) = if b = 0 then y else x := by
    intro α x y; rw [ieq_eq]; by_cases hb : b = 0 <;> simp [hb]
  split at h
  case h_4 =>
    rw [hz] at h; split at h
    · cases h
    · rename_i hb; cases h; exact .ok (by simp [binOp, Op.intDiv, hb]; rfl) (by rw [wrapC_eq]; rfl)
  case h_5 =>
    rw [hz] at h; split at h
    · cases h
    · rename_i hb; cases h; exact .ok (by simp [binOp, Op.intDiv, hb]) rfl
  case h_14 => cases h
  all_goals cases h
  case h_1 => exact .ok (by simp [binOp, Op.intArith]; rfl) (by rw [wrapC_eq]; rfl)
  case h_2 => exact .ok (by simp [binOp, Op.intArith]; rfl) (by rw [wrapC_eq]; rfl)
  case h_3 => exact .ok (by simp [binOp, Op.intArith]; rfl) (by rw [wrapC_eq]; rfl)
  case h_6 => exact .ok (by simp [binOp, Op.intBits]) rfl
  case h_7 => exact .ok (by simp [binOp, Op.intBits]; rfl) (by rw [ixor_eq]; rfl)
  case h_8 => exact .ok (by simp [binOp, Op.intCmp]; rfl) (by rw [ieq_eq]; simp [CV, BEq.beq])
  case h_9 => exact .ok (by simp [binOp, Op.intCmp]; rfl) (by rw [ieq_eq]; simp [CV, bne, BEq.beq])
  case h_10 => exact .ok (by simp [binOp, Op.intCmp]; rfl) (by rw [ilt_eq]; simp [CV])
  case h_11 => exact .ok (by simp [binOp, Op.intCmp]; rfl) (by rw [ile_eq]; simp [CV])
  case h_12 => exact .ok (by simp [binOp, Op.intCmp]; rfl) (by rw [ilt_eq]; simp [CV])
  case h_13 => exact .ok (by simp [binOp, Op.intCmp]; rfl) (by rw [ile_eq]; simp [CV])
theorem order_isNan_l {b : Nat} (h : isNan b) (x : Nat) : FloatKind.f64.format.order b x = none := Fl.order_nan_l _ _ h.1
theorem order_isNan_r {b : Nat} (h : isNan b) (x : Nat) : FloatKind.f64.format.order x b = none := Fl.order_nan_r _ _ h.1
theorem fcmp_ok {P : Program} {op : BinOp} {t : TypeId} {a b : Nat} {c : C} (w : World) (β : Blk) {o : Option Ordering} (ho : FloatKind.f64.format.order a b = o)
    (h : fcmp op o = some c) : Gives P (binOp op t (.float .f64 a) (.float .f64 b)) w β c := by
  unfold fcmp at h
  split at h
  case h_7 => cases h
  all_goals cases h
  all_goals exact .ok (by simp only [binOp, Op.floatCmp, ho]; rfl) rfl
theorem nan_cut (x y t : Nat) : isNan ((Question.nanBits .f64 x y).cut t) := by
  constructor
  · show decide (Fl.INF < (t % 2 * 9223372036854775808 + 9218868437227405312 + 1 + t / 2 % 4503599627370495) % 9223372036854775808) = true
    have : Fl.INF = 9218868437227405312 := rfl
    rw [decide_eq_true_iff]
    have h2 : t / 2 % 4503599627370495 < 4503599627370495 := Nat.mod_lt _ (by decide)
    rcases Nat.mod_two_eq_zero_or_one t with e | e <;> rw [e] <;> omega
  · show t % 2 * 9223372036854775808 + 9218868437227405312 + 1 + t / 2 % 4503599627370495 < 18446744073709551616
    omega
theorem fval_ok {P : Program} {op : BinOp} {t : TypeId} {a b : Nat} {c : C} (w : World) (β : Blk) (hop : op = .add ∨ op = .quo)
    (h : fval (floatBits op .f64 a b) = some c) : Gives P (binOp op t (.float .f64 a) (.float .f64 b)) w β c := by
  cases hr : floatBits op .f64 a b with
  | some r =>
    rw [hr] at h; cases h
    exact .ok (run_float_arith w op t .f64 a b r hr) rfl
  | none =>
    rw [hr] at h; cases h
    refine ⟨.float .f64 ((Question.nanBits .f64 a b).cut (w.tape w.drawn (.nanBits .f64 a b))), w.drawn + 1, ?_, _, rfl, nan_cut _ _ _⟩
    unfold floatBits at hr
    rcases hop with rfl | rfl <;> simp only at hr <;> simp [binOp, Op.floatArith, hr, Question.forced] <;> rfl
theorem cbin_ok {P : Program} {op : BinOp} {t : TypeId} {x y c : C} {u v : Value} (w : World) (β : Blk) (hu : CV β x u) (hv : CV β y v)
    (h : cbin op x y = some c) : Gives P (binOp op t u v) w β c := by
  unfold cbin at h
  split at h
  · -- numbers
    rename_i k a j b
    simp only [CV] at hu hv
    subst hu; subst hv
    split at h
    · rw [ilt_eq] at h
      by_cases hb : b < 0
      · simp [hb] at h
      · simp only [hb, decide_false] at h
        cases h
        refine .ok ?_ rfl
        simp only [binOp, Op.shift, if_neg hb]
        rfl
    · rename_i hshr
      cases hk : Nat.beq (kn k) (kn j) with
      | false => rw [hk] at h; cases h
      | true =>
        rw [hk] at h
        have := kn_inj hk
        subst this
        have hs : op ≠ .shl := by rintro rfl; cases h
        exact ibin_ok w β hs hshr h
  · -- texts
    rename_i a b
    obtain ⟨rfl, ha⟩ := hu
    obtain ⟨rfl, hb'⟩ := hv
    split at h
    · cases hl : Nat.ble (len a + len b) 65535 with
      | false => rw [hl] at h; cases h
      | true =>
        rw [hl] at h
        have hl := Nat.le_of_ble_eq_true hl
        rw [len_eq, len_eq] at hl
        cases h
        have hm : IntKind.i64.max = 9223372036854775807 := by decide
        refine .ok (v := .string (strB (a ++ b))) ?_ ?_
        · simp only [binOp, Op.stringOp, strB_size, strB_app]
          rw [if_neg (by rw [hm]; omega)]
          rfl
        · rw [app_eq]
          exact ⟨rfl, fun z hz => (List.mem_append.1 hz).elim (ha z) (hb' z)⟩
    · cases h
      refine .ok (v := .bool (decide (a = b))) ?_ (by rw [leq_eq]; rfl)
      simp only [binOp, Op.stringOp, strB_list, list_beq]
      congr 2
      by_cases e : a = b
      · simp [e]
      · have e' : ¬ a.map UInt8.ofNat = b.map UInt8.ofNat := fun h => e (map_inj ha hb' h)
        simp [e, e']
    · cases h
      refine .ok (v := .bool (!(decide (a = b)))) ?_ (by rw [leq_eq]; rfl)
      simp only [binOp, Op.stringOp, strB_list, list_beq]
      congr 2
      by_cases e : a = b
      · simp [e]
      · have e' : ¬ a.map UInt8.ofNat = b.map UInt8.ofNat := fun h => e (map_inj ha hb' h)
        simp [e, e']
    · cases h
  · rename_i a b
    simp only [CV] at hu hv
    subst hu; subst hv
    unfold fbin at h
    split at h
    · exact fval_ok w β (.inl rfl) h
    · exact fval_ok w β (.inr rfl) h
    · exact fcmp_ok w β rfl h
  · obtain ⟨a, rfl, ha⟩ := hu
    obtain ⟨b, rfl, hb'⟩ := hv
    exact fcmp_ok w β (order_isNan_l ha b) h
  · rename_i b
    obtain ⟨a, rfl, ha⟩ := hu
    simp only [CV] at hv; subst hv
    exact fcmp_ok w β (order_isNan_l ha b) h
  · rename_i a
    obtain ⟨b, rfl, hb'⟩ := hv
    simp only [CV] at hu; subst hu
    exact fcmp_ok w β (order_isNan_r hb' a) h
  · cases h
theorem eqGuard_plain {P : Program} {op : BinOp} {t : TypeId} {x y : Operand} {u v : Value} {β : Blk} {c : C} (w : World) (hu : CV β c u) (hc : c ≠ .un ∨ True) :
    (eqGuard op t x y u v).run P w = .ok () w := by
  unfold eqGuard
  by_cases hop : (!(match op with | .eql => true | .neq => true | _ => false)) = true
  · cases op <;> first | rfl | (exact absurd hop (by decide))
  · cases c <;> simp only [CV] at hu
    all_goals first
      | subst hu
      | obtain ⟨rfl, _⟩ := hu
      | obtain ⟨_, rfl, _⟩ := hu
      | obtain ⟨_, _, rfl⟩ := hu
      | obtain ⟨_, _, _, _, rfl, _⟩ := hu
      | obtain ⟨_, _, _, rfl⟩ := hu
    all_goals cases op <;> rfl
end Go.Proofs.YtiahijhpjloijaaGreat.V
