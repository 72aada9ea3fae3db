/- ReportHits: its rounds, and that it returns true, if the rounds are as 'chk' says. -/
import Derived.Test.YtiahijhpjloijaaGreatHR
import Derived.Test.YtiahijhpjloijaaGreatKHA
set_option linter.unusedVariables false
set_option linter.unusedSimpArgs false
namespace Go.Proofs.YtiahijhpjloijaaGreat.V
open Go Go.RowKit
noncomputable def OH : Oracle := den Tryz.prog F2 (X2 khs) 100000 59
def hB : K := .seq (.seq (.blk 1 hC1) (.cond t25 .skip (.exit 0))) (.seq hG1 hG2)
section
variable {P : Program} {O : Oracle} {m : Nat}
theorem seq_n {a b : K} {s s1 : St} {o : Out} (h : ev P O m a s = .norm s1) (k : ev P O m b s1 = o) : ev P O m (.seq a b) s = o := by
  rw [ev_seq, h]; exact k
theorem seq_inv {a b : K} {s t : St} (h : ev P O m (.seq a b) s = .norm t) : ∃ s1, ev P O m a s = .norm s1 ∧ ev P O m b s1 = .norm t := by
  rw [ev_seq] at h
  cases ha : ev P O m a s with
  | norm s1 => rw [ha] at h; exact ⟨s1, rfl, h⟩
  | exit j s1 => rw [ha] at h; cases h
  | ret s1 => rw [ha] at h; cases h
  | no => rw [ha] at h; cases h
theorem blk_n {na : Nat} {l : List Ins} {s t : St} (h : steps P O s.nx l (reserve na s) = some t) : ev P O m (.blk na l) s = .norm t := by
  rw [ev_blk, h]
theorem ev_keep {p : Pos} {k : K} {s t : St} {d : D} (hk : nowK p k = true) (h : ev P O m k s = .norm t) (hv : val s.tm (.t p) = some d) : val t.tm (.t p) = some d := by
  have := ev_now (p := p) (P := P) (O := O) (m := m) hk (by rw [h]; rfl)
  exact Eq.trans this hv
end
theorem rounds {O : Oracle} {n : Int} {m : Nat} (hm : Int.tmod n 20 = .ofNat m) (hb : m < 1000) :
    ∀ (q j : Nat) (s : St) (fuel : Nat), chain O q j s = true → j ≤ m + 1 → m + 1 ≤ j + q → q < fuel → val s.tm t0 = some (by8 n) →
      ∃ s', iter (ev Tryz.prog O 100000 hB) fuel s = .exit 0 s' ∧ val s'.tm t0 = some (by8 n) ∧ val s'.tm t7 = some (num m) ∧ val s'.tm t8 = some (num 7) := by
  intro q
  induction q with
  | zero =>
    intro j s fuel hc h1 h2 hf h0
    obtain ⟨fuel, rfl⟩ : ∃ u, fuel = u + 1 := ⟨fuel - 1, by omega⟩
    have hc : okS j s = true := hc
    obtain ⟨h9, h78⟩ := okS_ok hc
    obtain ⟨h7, h8⟩ := h78 m (by omega)
    obtain ⟨s1, e1, e2⟩ := hC1_ok (P := Tryz.prog) (O := O) (base := s.nx) (s := reserve 1 s) hm hb h9 h0
    have e3 : Nat.ble (j + 1) (m + 1) = false := by
      cases hx : Nat.ble (j + 1) (m + 1)
      · rfl
      · rw [ble_iff] at hx; omega
    rw [e3] at e2
    have kp : ∀ p : Pos, hC1.all (nowI p) = true → Tr.get p s1.tm = Tr.get p s.tm := fun p hp => Eq.trans (steps_now (s := reserve 1 s) hp e1) rfl
    refine ⟨s1, ?_, (kp p0 (by kernel_rfl)).trans h0, (kp p7 (by kernel_rfl)).trans h7, (kp p8 (by kernel_rfl)).trans h8⟩
    have hcel : cel s1.tm t25 = some (.bool false) := cel_of e2
    have : ev Tryz.prog O 100000 hB s = .exit 0 s1 := by
      unfold hB
      rw [ev_seq, seq_n (blk_n e1) (o := .exit 0 s1) (by rw [ev_cond, hcel]; rfl)]
    rw [iter_succ, this]
  | succ q ih =>
    intro j s fuel hc h1 h2 hf h0
    obtain ⟨fuel, rfl⟩ : ∃ u, fuel = u + 1 := ⟨fuel - 1, by omega⟩
    have hc : (@Bool.rec (fun _ => Bool) false (match stepC O s with | some s' => chain O q (j + 1) s' | none => false) (okS j s)) = true := hc
    rw [brec'] at hc
    split at hc
    case isFalse => cases hc
    rename_i hok
    obtain ⟨h9, h78⟩ := okS_ok hok
    obtain ⟨s1, e1, e2⟩ := hC1_ok (P := Tryz.prog) (O := O) (base := s.nx) (s := reserve 1 s) hm hb h9 h0
    have kp : ∀ p : Pos, hC1.all (nowI p) = true → Tr.get p s1.tm = Tr.get p s.tm := fun p hp => Eq.trans (steps_now (s := reserve 1 s) hp e1) rfl
    by_cases hj : j = m + 1
    · obtain ⟨h7, h8⟩ := h78 m hj
      have e3 : Nat.ble (j + 1) (m + 1) = false := by
        cases hx : Nat.ble (j + 1) (m + 1)
        · rfl
        · rw [ble_iff] at hx; omega
      rw [e3] at e2
      refine ⟨s1, ?_, (kp p0 (by kernel_rfl)).trans h0, (kp p7 (by kernel_rfl)).trans h7, (kp p8 (by kernel_rfl)).trans h8⟩
      have hcel : cel s1.tm t25 = some (.bool false) := cel_of e2
      have : ev Tryz.prog O 100000 hB s = .exit 0 s1 := by
        unfold hB
        rw [ev_seq, seq_n (blk_n e1) (o := .exit 0 s1) (by rw [ev_cond, hcel]; rfl)]
      rw [iter_succ, this]
    · have e3 : Nat.ble (j + 1) (m + 1) = true := by rw [ble_iff]; omega
      rw [e3] at e2
      have hcel : cel s1.tm t25 = some (.bool true) := cel_of e2
      split at hc
      case h_2 => cases hc
      rename_i s2 hs
      unfold stepC at hs
      rw [e1] at hs
      simp only [] at hs
      split at hs
      case h_2 => cases hs
      rename_i s3 hg
      cases hs
      have : ev Tryz.prog O 100000 hB s = .norm s2 := by
        unfold hB
        refine seq_n (s1 := s1) ?_ hg
        exact seq_n (blk_n e1) (by rw [ev_cond, hcel]; rfl)
      rw [iter_succ, this]
      exact ih (j + 1) s2 fuel hc (by omega) (by omega) (by omega) (ev_keep (by kernel_rfl) hg ((kp p0 (by kernel_rfl)).trans h0))
theorem hits_go {k : Nat} {n r : Int} {m : Nat} (hm : Int.tmod n 20 = .ofNat m) (hb : m < 20) (hk : Int.tmod r 3 = .ofNat k) (hkb : k < 1000) (h : chk OH 20 k n r = true) :
    ∃ hp nx, D2 khs 6 [by8 n, by8 r] .e .h = some (.one (.bool true), hp, nx) := by
  unfold chk at h
  split at h
  case h_2 => cases h
  rename_i s2 hfr
  split at h
  case h_2 => cases h
  rename_i s6 hmid
  unfold frontH at hfr
  split at hfr
  case h_2 => cases hfr
  rename_i tm hpars
  split at hfr
  case h_2 => cases hfr
  rename_i s1 h1
  split at hfr
  case h_2 => cases hfr
  rename_i s2' h2
  cases hfr
  unfold mid at hmid
  split at hmid
  case h_2 => cases hmid
  rename_i s6' hm6
  cases hmid
  have ht : tm = Tr.set p1 (by8 r) (Tr.set p0 (by8 n) .e) := (Option.some.inj hpars).symm
  have v0 : val tm t0 = some (by8 n) := by rw [ht]; rfl
  have v1 : val tm t1 = some (by8 r) := by rw [ht]; rfl
  have w0 : val s2.tm t0 = some (by8 n) := ev_keep (by kernel_rfl) h2 (ev_keep (p := p0) (by kernel_rfl) h1 v0)
  have w1 : val s2.tm t1 = some (by8 r) := ev_keep (by kernel_rfl) h2 (ev_keep (p := p1) (by kernel_rfl) h1 v1)
  obtain ⟨s3, e3, hs3⟩ := hA3_ok (P := Tryz.prog) (O := OH) (base := s2.nx) (s := reserve 1 s2) hk hkb w1
  have hs3 : s3 = a3 k r s2 := hs3
  have u0 : val s3.tm t0 = some (by8 n) := (steps_now (p := p0) (by kernel_rfl) e3).trans w0
  rw [← hs3] at hm6
  have u6 : val s6.tm t0 = some (by8 n) := ev_keep (by kernel_rfl) hm6 u0
  obtain ⟨s4, h4, hm6⟩ := seq_inv hm6
  obtain ⟨s5, h5, h6⟩ := seq_inv hm6
  obtain ⟨s7, hit, x0, x7, x8⟩ := rounds hm (by omega) 20 0 s6 100000 h (by omega) (by omega) (by omega) u6
  obtain ⟨s8, e8, x4⟩ := hA7_ok (P := Tryz.prog) (O := OH) (base := s7.nx) (s := reserve 1 s7) hm (by omega) x0 x7 x8
  have hloop : ev Tryz.prog OH 100000 (.block 0 (.loop hB)) s6 = .norm s7 := by
    rw [ev_block]
    have : ev Tryz.prog OH 100000 (.loop hB) s6 = .exit 0 s7 := hit
    rw [this]
    rfl
  have hev : ev Tryz.prog OH 100000 hits.k { tm := tm, hp := .e, nx := .h } = .ret s8 := by
    refine seq_n h1 (seq_n h2 (seq_n (blk_n e3) (seq_n h4 (seq_n h5 (seq_n (seq_n h6 hloop) (seq_n (blk_n e8) ?_))))))
    rfl
  have hF : F2 6 = some hits := by kernel_rfl
  refine ⟨s8.hp, s8.nx, ?_⟩
  show den Tryz.prog F2 (X2 khs) 100000 (59 + 1) 6 [by8 n, by8 r] .e .h = _
  rw [den_succ, hF]
  show body Tryz.prog OH 100000 hits [by8 n, by8 r] .e .h = _
  unfold body
  have hp' : pars hits.ps [by8 n, by8 r] .e = some tm := hpars
  rw [hp']
  simp only []
  rw [hev]
  show ends hits s8 = _
  unfold ends
  have : each (rv s8) hits.rs = some [.one (.bool true)] := by
    show (Option.rec none (fun y => Option.rec none (fun ys => some (y :: ys)) (some [])) (Tr.get p4 s8.tm) : Option (List D)) = _
    rw [x4]
  rw [this]
theorem hits_walk {n r : Int} (h : ∃ hp nx, D2 khs 6 [by8 n, by8 r] .e .h = some (.one (.bool true), hp, nx)) (w : World) :
    Calls Tryz.prog 6 #[.int .u8 n, .int .u8 r] w fun e w' => e = .returned (.bool true) ∧ Below w.heap.size w w' := by
  obtain ⟨hp', nx', h⟩ := h
  rcases D2_good khs_ok 6 _ .e .h _ hp' nx' h (fun _ => none) w #[.int .u8 n, .int .u8 r] (HV_empty w) (.cons rfl (.cons rfl .nil)) with ⟨_, h2⟩ | ⟨v, β', w', h1, _⟩
  · refine h2.mono ?_
    rintro e w' ⟨v, β', rfl, hd, h4, h5⟩
    have hd : v = .bool true := hd
    subst hd
    exact ⟨rfl, h5.below⟩
  · exfalso
    have hn : (Tryz.f6.name == "runtime.NumGoroutine") = false := by kernel_rfl
    have hb : Tryz.f6.body.isNone = false := by kernel_rfl
    have : (callFunc 6 #[.int .u8 n, .int .u8 r]).run Tryz.prog w = .ok (.enter 6 #[.int .u8 n, .int .u8 r]) w := by
      simp only [callFunc, Sem.run_bind, run_program, Result.andThen_ok, Tryz.func6, hn, hb, Bool.false_eq_true, if_false, Sem.run_pure]
    rw [this] at h1
    cases h1
end Go.Proofs.YtiahijhpjloijaaGreat.V
