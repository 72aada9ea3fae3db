/- ReportHits: the parts of its walk that do not hang on the world. -/
import Derived.Test.YtiahijhpjloijaaGreatHL
set_option linter.unusedVariables false
set_option linter.unusedSimpArgs false
namespace Go.Proofs.YtiahijhpjloijaaGreat.V
open Go Go.RowKit
abbrev num (j : Nat) : D := .one (.int .i64 (.ofNat j))
abbrev by8 (n : Int) : D := .one (.int .u8 n)
theorem hitV {p : Pos} {d : D} {tm : Tr D} : val (put (some p) d tm) (.t p) = some d := Tr.get_set_eq d p tm
theorem guard_run {p : Pos} {tm : Tr D} (h : val tm (.t p) = some (.one (.bool true))) : guard (some (p, true)) tm = .run := by
  have h : Tr.get p tm = some (.one (.bool true)) := h
  unfold guard
  simp only [h]
theorem hitG {p : Pos} {d : D} {tm : Tr D} : Tr.get p (put (some p) d tm) = some d := Tr.get_set_eq d p tm
theorem pastG {p q : Pos} {d : D} {tm : Tr D} (h : (Pos.same p q) = false) : Tr.get q (put (some p) d tm) = Tr.get q tm :=
  Tr.get_set_ne d tm (fun e => by rw [Pos.same_spec.2 e] at h; cases h)
theorem pastV {p q : Pos} {d : D} {tm : Tr D} (h : (Pos.same p q) = false) : val (put (some p) d tm) (.t q) = val tm (.t q) := pastG h
theorem pastW {p q : Pos} {d e : D} {tm : Tr D} (h : (Pos.same p q) = false) (k : val tm (.t q) = some e) : val (put (some p) d tm) (.t q) = some e := (pastV h).trans k
theorem wrap64 {m : Nat} (h : m ≤ 9223372036854775807) : wrapC .i64 (.ofNat m) = .ofNat m := by
  have h : Nat.ble m 9223372036854775807 = true := Nat.ble_eq_true_of_le h
  show (Bool.rec _ (Int.ofNat m) (Nat.ble m 9223372036854775807) : Int) = _
  rw [h]
section
variable {P : Program} {O : Oracle} {base : Pos}
theorem go_ex {Q : St → Prop} {x : Ins} {l : List Ins} {s s1 : St} (h : step1 P O base x s = some s1) (h' : ∃ t, steps P O base l s1 = some t ∧ Q t) : ∃ t, steps P O base (x :: l) s = some t ∧ Q t := by
  rw [steps_cons, h]; exact h'
theorem go_nil {Q : St → Prop} {s : St} (h : Q s) : ∃ t, steps P O base [] s = some t ∧ Q t := ⟨s, rfl, h⟩
theorem hC1_ok {n : Int} {m j : Nat} (hm : Int.tmod n 20 = .ofNat m) (hb : m < 1000) {s : St} (h9 : val s.tm t9 = some (num j)) (h0 : val s.tm t0 = some (by8 n)) :
    ∃ s1, steps P O base hC1 s = some s1 ∧ Tr.get p25 s1.tm = some (.one (.bool (Nat.ble (j + 1) (m + 1)))) := by
  refine go_ex (step_mv (d := num j) rfl h9) ?_
  refine go_ex (step_mv (d := by8 n) rfl (pastW (p := p20) rfl h0)) ?_
  refine go_ex (step_bin (a := .int .u8 n) (b := .int .u8 20) (c := .int .u8 (.ofNat m)) rfl hitV rfl (by show some (C.int .u8 (Int.tmod n 20)) = _; rw [hm])) ?_
  refine go_ex (step_cvi (k' := .u8) (n := .ofNat m) rfl hitV) ?_
  rw [wrap64 (m := m) (by omega)]
  refine go_ex (step_bin (a := .int .i64 (.ofNat m)) (b := .int .i64 1) (c := .int .i64 (.ofNat (m + 1))) rfl hitV rfl (by show some (C.int .i64 (wrapC .i64 (.ofNat (m + 1)))) = _; rw [wrap64 (by omega)])) ?_
  refine go_ex (step_bin (a := .int .i64 (.ofNat j)) (b := .int .i64 (.ofNat (m + 1))) (c := .bool (Nat.ble (j + 1) (m + 1))) rfl (pastW (p := p24) rfl (pastW (p := p23) rfl (pastW (p := p22) rfl (pastW (p := p21) rfl hitV)))) hitV rfl) ?_
  exact go_nil hitG
theorem hA3_ok {r : Int} {k : Nat} (hk : Int.tmod r 3 = .ofNat k) (hb : k < 1000) {s : St} (h1 : val s.tm t1 = some (by8 r)) :
    ∃ t, steps P O base hA3 s = some t ∧ t = { s with tm := Tr.set p5 (num (1 + k)) (Tr.set p17 (num (1 + k)) (Tr.set p16 (num k) (Tr.set p15 (by8 (.ofNat k)) (Tr.set p14 (by8 r) s.tm)))) } := by
  refine go_ex (step_mv (d := by8 r) rfl h1) ?_
  refine go_ex (step_bin (a := .int .u8 r) (b := .int .u8 3) (c := .int .u8 (.ofNat k)) rfl hitV rfl (by show some (C.int .u8 (Int.tmod r 3)) = _; rw [hk])) ?_
  refine go_ex (step_cvi (k' := .u8) (n := .ofNat k) rfl hitV) ?_
  rw [wrap64 (m := k) (by omega)]
  refine go_ex (step_bin (a := .int .i64 1) (b := .int .i64 (.ofNat k)) (c := .int .i64 (.ofNat (1 + k))) rfl rfl hitV (by show some (C.int .i64 (wrapC .i64 (.ofNat (1 + k)))) = _; rw [wrap64 (by omega)])) ?_
  refine go_ex (step_mv (d := num (1 + k)) rfl hitV) ?_
  exact go_nil rfl
theorem hA7_ok {n : Int} {m : Nat} (hm : Int.tmod n 20 = .ofNat m) (hb : m < 1000) {s : St} (h0 : val s.tm t0 = some (by8 n)) (h7 : val s.tm t7 = some (num m)) (h8 : val s.tm t8 = some (num 7)) :
    ∃ s1, steps P O base hA7 s = some s1 ∧ Tr.get p4 s1.tm = some (.one (.bool true)) := by
  refine go_ex (step_mv (d := num 7) rfl h8) ?_
  refine go_ex (step_bin (a := .int .i64 (.ofNat 7)) (b := .int .i64 7) (c := .bool true) rfl hitV rfl rfl) ?_
  refine go_ex (step_mv (d := .one (.bool true)) rfl hitV) ?_
  refine go_ex (step_mv (d := num m) (guard_run hitV) (pastW (p := p57) rfl (pastW (p := p56) rfl (pastW (p := p55) rfl h7)))) ?_
  refine go_ex (step_mv (d := by8 n) (guard_run (pastW (p := p58) rfl hitV)) (pastW (p := p58) rfl (pastW (p := p57) rfl (pastW (p := p56) rfl (pastW (p := p55) rfl h0))))) ?_
  refine go_ex (step_bin (a := .int .u8 n) (b := .int .u8 20) (c := .int .u8 (.ofNat m)) (guard_run (pastW (p := p59) rfl (pastW (p := p58) rfl hitV))) hitV rfl (by show some (C.int .u8 (Int.tmod n 20)) = _; rw [hm])) ?_
  refine go_ex (step_cvi (k' := .u8) (n := .ofNat m) (guard_run (pastW (p := p60) rfl (pastW (p := p59) rfl (pastW (p := p58) rfl hitV)))) hitV) ?_
  rw [wrap64 (m := m) (by omega)]
  refine go_ex (step_bin (a := .int .i64 (.ofNat m)) (b := .int .i64 (.ofNat m)) (c := .bool true) (guard_run (pastW (p := p61) rfl (pastW (p := p60) rfl (pastW (p := p59) rfl (pastW (p := p58) rfl hitV))))) (pastW (p := p61) rfl (pastW (p := p60) rfl (pastW (p := p59) rfl hitV))) hitV (by show some (C.bool (Nat.beq m m)) = _; rw [Nat.beq_refl])) ?_
  refine go_ex (step_pick (t := true) (d := .one (.bool true)) rfl (pastW (p := p62) rfl (pastW (p := p61) rfl (pastW (p := p60) rfl (pastW (p := p59) rfl (pastW (p := p58) rfl hitV))))) hitV) ?_
  refine go_ex (step_mv (d := .one (.bool true)) rfl hitV) ?_
  exact go_nil hitG
end
noncomputable def okS (j : Nat) (s : St) : Bool := match Tr.get p9 s.tm, Tr.get p7 s.tm, Tr.get p8 s.tm with
  | some (.one (.int .i64 (.ofNat a))), some (.one (.int .i64 (.ofNat b))), some (.one (.int .i64 (.ofNat c))) =>
    Bool.rec false (Nat.rec true (fun i _ => Bool.rec false (Nat.beq c 7) (Nat.beq b i)) j) (Nat.beq a j)
  | _, _, _ => false
theorem okS_ok {j : Nat} {s : St} (h : okS j s = true) : Tr.get p9 s.tm = some (num j) ∧ ∀ i, j = i + 1 → Tr.get p7 s.tm = some (num i) ∧ Tr.get p8 s.tm = some (num 7) := by
  unfold okS at h
  split at h
  · rename_i a b c h9 h7 h8
    rw [brec'] at h
    split at h
    · rename_i ha
      rw [beq_iff] at ha
      subst ha
      refine ⟨h9, fun i hi => ?_⟩
      subst hi
      have h : (Bool.rec false (Nat.beq c 7) (Nat.beq b i) : Bool) = true := h
      rw [brec'] at h
      split at h
      · rename_i hb
        rw [beq_iff] at hb h
        rw [← h, ← hb]
        exact ⟨h7, h8⟩
      · cases h
    · cases h
  · cases h
variable (O : Oracle)
noncomputable def stepC (s : St) : Option St := match steps Tryz.prog O s.nx hC1 (reserve 1 s) with
  | some s1 => match ev Tryz.prog O 100000 (.seq hG1 hG2) s1 with | .norm s2 => some s2 | _ => none
  | none => none
/-- the rounds from the j-th on, q of them -/
noncomputable def chain (q : Nat) : Nat → St → Bool :=
  Nat.rec (fun j s => okS j s) (fun _ ih j s => Bool.rec false (match stepC O s with | some s' => ih (j + 1) s' | none => false) (okS j s)) q
noncomputable def frontH (n r : Int) : Option St := match pars [p0, p1] [by8 n, by8 r] .e with
  | some tm => match ev Tryz.prog O 100000 hA1 { tm := tm, hp := .e, nx := .h } with
    | .norm s => match ev Tryz.prog O 100000 hA2 s with | .norm s => some s | _ => none
    | _ => none
  | none => none
noncomputable def a3 (k : Nat) (r : Int) (s : St) : St :=
  { reserve 1 s with tm := Tr.set p5 (num (1 + k)) (Tr.set p17 (num (1 + k)) (Tr.set p16 (num k) (Tr.set p15 (by8 (.ofNat k)) (Tr.set p14 (by8 r) (reserve 1 s).tm)))) }
noncomputable def mid (s : St) : Option St := match ev Tryz.prog O 100000 (.seq hA4 (.seq hA5 hA6)) s with | .norm s => some s | _ => none
noncomputable def chk (q k : Nat) (n r : Int) : Bool := match frontH O n r with
  | some s => match mid O (a3 k r s) with | some s => chain O q 0 s | none => false
  | none => false
end Go.Proofs.YtiahijhpjloijaaGreat.V
