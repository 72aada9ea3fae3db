/- The evaluator as a whole. -/
import Derived.Test.YtiahijhpjloijaaGreatF23
set_option linter.unusedVariables false
set_option linter.unusedSimpArgs false
namespace Go.Proofs.YtiahijhpjloijaaGreat.V
open Go Go.RowKit
noncomputable def wid (id : Pos) (e : Nat) (cs : List C) (s : St) : St := { s with hp := Tr.set id (.ob e cs) s.hp }
def Keep (a b : Tr Ob) : Prop := ∀ id, Tr.get id a ≠ none → Tr.get id b ≠ none
theorem Keep.refl (a : Tr Ob) : Keep a a := fun _ h => h
theorem Keep.trans {a b c : Tr Ob} (h : Keep a b) (k : Keep b c) : Keep a c := fun id hi => k id (h id hi)
def outSt : Out → Option St
  | .norm s => some s
  | .exit _ s => some s
  | .ret s => some s
  | .no => none
def mapO (g : St → St) : Out → Out
  | .norm s => .norm (g s)
  | .exit j s => .exit j (g s)
  | .ret s => .ret (g s)
  | .no => .no
/-- more objects than it knows are nothing to it -/
def FrE (g : St → Out) : Prop := ∀ s t, outSt (g s) = some t → Keep s.hp t.hp ∧ ∀ id e cs, Tr.get id t.hp = none → g (wid id e cs s) = mapO (wid id e cs) (g s)
section
variable {P : Program} {O : Oracle}
theorem step1_frame (hO : Fr O) {base : Pos} {x : Ins} {s s' : St} (h : step1 P O base x s = some s') :
    Keep s.hp s'.hp ∧ (∀ id e cs, Tr.get id s'.hp = none → step1 P O base x (wid id e cs s) = some (wid id e cs s')) ∧ (∀ id e cs, Tr.get id s'.hp = none → FtLe (ft base x s s') (ft base x (wid id e cs s) (wid id e cs s'))) := by
  rw [step1_eq] at h
  split at h
  case h_2 => cases h
  rename_i d hp' nx' hd
  cases h
  obtain ⟨k1, k2⟩ := stepD_frame hO hd
  refine ⟨k1, fun id e cs hn => ?_, fun id e cs hn => ?_⟩
  · rw [step1_eq]
    have := k2 id e cs hn
    simp only [wid, this]
  · have h0 := none_of k1 hn
    simp only [ft_eq, wid]
    unfold ftD
    split
    · split
      · exact .call fun x hx => leaves_set h0 hn hx
      · exact .refl _
    · exact .refl _
theorem steps_frame (hO : Fr O) {base : Pos} : ∀ {l : List Ins} {s t : St}, steps P O base l s = some t → Keep s.hp t.hp ∧ ∀ id e cs, Tr.get id t.hp = none → steps P O base l (wid id e cs s) = some (wid id e cs t)
  | [], s, t, h => by cases h; exact ⟨Keep.refl _, fun _ _ _ _ => rfl⟩
  | x :: l, s, t, h => by
    rw [steps_cons] at h
    split at h
    · rename_i s' hs
      obtain ⟨k1, k2, _⟩ := step1_frame hO hs
      obtain ⟨k3, k4⟩ := steps_frame hO h
      refine ⟨k1.trans k3, fun id e cs hn => ?_⟩
      rw [steps_cons, k2 id e cs (none_of k3 hn)]
      exact k4 id e cs hn
    · cases h
theorem stepsF_cons (base : Pos) (z : Nat × Ins) (l : List (Nat × Ins)) (s : St) (fs : List Ft) : stepsF P O base (z :: l) s fs = match step1 P O base z.2 s with | some s' => stepsF P O base l s' (ft base z.2 s s' :: fs) | none => none := by
  show (@Option.rec St (fun _ => Option (St × List Ft)) none (fun s' => stepsF P O base l s' (ft base z.2 s s' :: fs)) (step1 P O base z.2 s)) = _
  rw [orec]
  cases step1 P O base z.2 s <;> rfl
theorem stepsF_frame (hO : Fr O) {base : Pos} : ∀ {l : List (Nat × Ins)} {s t : St} {fs gs : List Ft}, stepsF P O base l s fs = some (t, gs) →
    Keep s.hp t.hp ∧ ∀ id e cs, Tr.get id t.hp = none → ∀ fs', Al FtLe fs fs' → ∃ gs', stepsF P O base l (wid id e cs s) fs' = some (wid id e cs t, gs') ∧ Al FtLe gs gs'
  | [], s, t, fs, gs, h => by
    have h : some (s, fs) = some (t, gs) := h
    cases h
    exact ⟨Keep.refl _, fun _ _ _ _ fs' hf => ⟨fs', rfl, hf⟩⟩
  | z :: l, s, t, fs, gs, h => by
    rw [stepsF_cons] at h
    split at h
    · rename_i s' hs
      obtain ⟨k1, k2, k5⟩ := step1_frame hO hs
      obtain ⟨k3, k4⟩ := stepsF_frame hO h
      refine ⟨k1.trans k3, fun id e cs hn fs' hf => ?_⟩
      have hn' := none_of k3 hn
      rw [stepsF_cons, k2 id e cs hn']
      exact k4 id e cs hn _ (.cons (k5 id e cs hn') hf)
    · cases h
theorem okF_mono {n : Nat} {fs gs : List Ft} (h : Al FtLe fs gs) : ∀ {chk : List (Nat × Nat)}, okF fs n chk = true → okF gs n chk = true
  | [], _ => rfl
  | z :: chk, hk => by
    have hk : (match nth fs (n - 1 - z.1), nth fs (n - 1 - z.2) with
      | some x, some y => (Bool.rec (okF fs n chk) false (clashes x y) : Bool)
      | _, _ => false) = true := hk
    show (match nth gs (n - 1 - z.1), nth gs (n - 1 - z.2) with
      | some x, some y => (Bool.rec (okF gs n chk) false (clashes x y) : Bool)
      | _, _ => false) = true
    split at hk
    · rename_i x y hx hy
      rw [nth_eq] at hx hy
      obtain ⟨x', hx', lx⟩ := Al.get h hx
      obtain ⟨y', hy', ly⟩ := Al.get h hy
      rw [nth_eq, nth_eq, hx', hy']
      simp only []
      rw [brec'] at hk ⊢
      split at hk
      · cases hk
      · rename_i hc
        have hc : clashes x y = false := by simpa using hc
        rw [if_neg (by rw [clashes_mono lx ly hc]; decide)]
        exact okF_mono h hk
    · cases hk
theorem reserve_hp (na : Nat) (s : St) : (reserve na s).hp = s.hp ∧ (reserve na s).tm = s.tm := by cases na <;> exact ⟨rfl, rfl⟩
theorem reserve_wid (na : Nat) (id : Pos) (e : Nat) (cs : List C) (s : St) : reserve na (wid id e cs s) = wid id e cs (reserve na s) := by cases na <;> rfl
theorem iter_frame {g : St → Out} (hg : FrE g) : ∀ m, FrE (iter g m)
  | 0 => fun s t h => by cases h
  | m + 1 => fun s t h => by
    rw [iter_succ] at h
    cases hgs : g s with
    | norm s' =>
      rw [hgs] at h
      obtain ⟨k1, k2⟩ := hg s s' (by rw [hgs]; rfl)
      obtain ⟨k3, k4⟩ := iter_frame hg m s' t h
      refine ⟨k1.trans k3, fun id e cs hn => ?_⟩
      rw [iter_succ, iter_succ, k2 id e cs (none_of k3 hn), hgs]
      exact k4 id e cs hn
    | exit j s' =>
      rw [hgs] at h
      cases h
      obtain ⟨k1, k2⟩ := hg s t (by rw [hgs]; rfl)
      refine ⟨k1, fun id e cs hn => ?_⟩
      rw [iter_succ, iter_succ, k2 id e cs hn, hgs]
      rfl
    | ret s' =>
      rw [hgs] at h
      cases h
      obtain ⟨k1, k2⟩ := hg s t (by rw [hgs]; rfl)
      refine ⟨k1, fun id e cs hn => ?_⟩
      rw [iter_succ, iter_succ, k2 id e cs hn, hgs]
      rfl
    | no => rw [hgs] at h; cases h
theorem ev_frame (hO : Fr O) (m : Nat) : ∀ k : K, FrE (ev P O m k) := by
  intro k
  induction k with
  | blk na l =>
    intro s t h
    rw [ev_blk] at h
    split at h
    · rename_i s' hs
      cases h
      obtain ⟨k1, k2⟩ := steps_frame hO hs
      rw [(reserve_hp na s).1] at k1
      refine ⟨k1, fun id e cs hn => ?_⟩
      have := k2 id e cs hn
      rw [ev_blk, ev_blk, reserve_wid]
      show (match steps P O s.nx l (wid id e cs (reserve na s)) with | some s' => Out.norm s' | none => .no) = _
      rw [this, hs]
      rfl
    · cases h
  | dblk na l chk =>
    intro s t h
    have he : ∀ s, ev P O m (.dblk na l chk) s = (match stepsF P O s.nx l (reserve na s) [] with
      | some (s', fs) => (Bool.rec .no (.norm s') (okF fs (len l) chk) : Out)
      | none => .no) := fun s => rfl
    rw [he] at h
    split at h
    · rename_i s' fs hs
      rw [brec'] at h
      split at h
      · rename_i hok
        cases h
        obtain ⟨k1, k2⟩ := stepsF_frame hO hs
        rw [(reserve_hp na s).1] at k1
        refine ⟨k1, fun id e cs hn => ?_⟩
        obtain ⟨gs', q1, q2⟩ := k2 id e cs hn [] .nil
        rw [he, he, reserve_wid]
        show (match stepsF P O s.nx l (wid id e cs (reserve na s)) [] with
          | some (s', fs) => (Bool.rec .no (.norm s') (okF fs (len l) chk) : Out)
          | none => .no) = _
        rw [q1, hs]
        simp only []
        rw [brec', brec', if_pos (okF_mono q2 hok), if_pos hok]
        rfl
      · cases h
    · cases h
  | seq a b iha ihb =>
    intro s t h
    rw [ev_seq] at h
    cases hgs : ev P O m a s with
    | norm s' =>
      rw [hgs] at h
      obtain ⟨k1, k2⟩ := iha s s' (by rw [hgs]; rfl)
      obtain ⟨k3, k4⟩ := ihb s' t h
      refine ⟨k1.trans k3, fun id e cs hn => ?_⟩
      rw [ev_seq, ev_seq, k2 id e cs (none_of k3 hn), hgs]
      exact k4 id e cs hn
    | exit j s' =>
      rw [hgs] at h; cases h
      obtain ⟨k1, k2⟩ := iha s t (by rw [hgs]; rfl)
      exact ⟨k1, fun id e cs hn => by rw [ev_seq, ev_seq, k2 id e cs hn, hgs]; rfl⟩
    | ret s' =>
      rw [hgs] at h; cases h
      obtain ⟨k1, k2⟩ := iha s t (by rw [hgs]; rfl)
      exact ⟨k1, fun id e cs hn => by rw [ev_seq, ev_seq, k2 id e cs hn, hgs]; rfl⟩
    | no => rw [hgs] at h; cases h
  | cond c a b iha ihb =>
    intro s t h
    rw [ev_cond] at h
    split at h
    · rename_i t' hc
      have hc' : ∀ id e cs, cel (wid id e cs s).tm c = some (.bool t') := fun id e cs => hc
      cases t' with
      | true =>
        obtain ⟨k1, k2⟩ := iha s t h
        exact ⟨k1, fun id e cs hn => by rw [ev_cond, ev_cond, hc' id e cs, hc]; exact k2 id e cs hn⟩
      | false =>
        obtain ⟨k1, k2⟩ := ihb s t h
        exact ⟨k1, fun id e cs hn => by rw [ev_cond, ev_cond, hc' id e cs, hc]; exact k2 id e cs hn⟩
    · cases h
  | block i a ih =>
    intro s t h
    rw [ev_block] at h
    cases hgs : ev P O m a s with
    | norm s' =>
      rw [hgs] at h; cases h
      obtain ⟨k1, k2⟩ := ih s t (by rw [hgs]; rfl)
      exact ⟨k1, fun id e cs hn => by rw [ev_block, ev_block, k2 id e cs hn, hgs]; rfl⟩
    | exit j s' =>
      rw [hgs] at h
      have ht : s' = t := by
        simp only [] at h
        split at h <;> exact Option.some.inj h
      subst ht
      obtain ⟨k1, k2⟩ := ih s s' (by rw [hgs]; rfl)
      refine ⟨k1, fun id e cs hn => ?_⟩
      rw [ev_block, ev_block, k2 id e cs hn, hgs]
      simp only [mapO]
      split <;> rfl
    | ret s' =>
      rw [hgs] at h; cases h
      obtain ⟨k1, k2⟩ := ih s t (by rw [hgs]; rfl)
      exact ⟨k1, fun id e cs hn => by rw [ev_block, ev_block, k2 id e cs hn, hgs]; rfl⟩
    | no => rw [hgs] at h; cases h
  | loop a ih => exact iter_frame ih m
  | exit i => intro s t h; cases h; exact ⟨Keep.refl _, fun _ _ _ _ => rfl⟩
  | ret => intro s t h; cases h; exact ⟨Keep.refl _, fun _ _ _ _ => rfl⟩
  | skip => intro s t h; cases h; exact ⟨Keep.refl _, fun _ _ _ _ => rfl⟩
theorem rv_frame {s : St} {id : Pos} {e : Nat} {cs : List C} (hn : Tr.get id s.hp = none) {r : Rv} {d : D} (h : rv s r = some d) : rv (wid id e cs s) r = some d := by
  cases r with
  | tmp p => exact h
  | cell p k ag =>
    simp only [rv] at h ⊢
    split at h
    · rename_i id' off hq
      have hq' : Tr.get p (wid id e cs s).tm = some (.one (.loc id' off)) := hq
      split at h
      · rename_i cs' ho
        have ho' : objc (wid id e cs s).hp id' = some cs' := objc_mono (more_set hn) ho
        simp only [hq', ho']
        exact h
      · cases h
    · cases h
theorem each_frame {s s' : St} : ∀ {rs : List Rv} {ds : List D}, (∀ r d, rv s r = some d → rv s' r = some d) → each (rv s) rs = some ds → each (rv s') rs = some ds
  | [], ds, _, h => h
  | r :: rs, ds, hm, h => by
    rw [each_cons] at h ⊢
    split at h
    · rename_i d hd
      split at h
      · rename_i ds' hds
        cases h
        rw [hm r d hd]
        simp only []
        rw [each_frame hm hds]
      · cases h
    · cases h
theorem ends_frame {b : Fn} {s : St} {d : D} {hp' : Tr Ob} {nx' : Pos} (h : ends b s = some (d, hp', nx')) : hp' = s.hp ∧ ∀ id e cs, Tr.get id s.hp = none → ends b (wid id e cs s) = some (d, Tr.set id (.ob e cs) s.hp, nx') := by
  unfold ends at h
  split at h
  · rename_i d' hd
    cases h
    refine ⟨rfl, fun id e cs hn => ?_⟩
    unfold ends
    rw [each_frame (fun r d => rv_frame hn) hd]
    rfl
  · rename_i ds hne hds
    split at h
    · rename_i xs hxs
      cases h
      refine ⟨rfl, fun id e cs hn => ?_⟩
      unfold ends
      rw [each_frame (fun r d => rv_frame hn) hds]
      match ds, hne with
      | [], _ => simp only [hxs]; rfl
      | [d0], hne => exact absurd rfl (hne d0)
      | d0 :: d1 :: ds, _ => simp only [hxs]; rfl
    · cases h
  · cases h
/-- the function's own answer -/
noncomputable def body (P : Program) (O : Oracle) (m : Nat) (b : Fn) (ds : List D) (hp : Tr Ob) (nx : Pos) : Option (D × Tr Ob × Pos) :=
  match pars b.ps ds .e with
  | some tm => match ev P O m b.k { tm := tm, hp := hp, nx := nx } with
    | .norm s => ends b s
    | .ret s => ends b s
    | _ => none
  | none => none
theorem den_succ (F : Nat → Option Fn) (X : Oracle → Oracle) (m n : Nat) (f : Nat) (ds : List D) (hp : Tr Ob) (nx : Pos) :
    den P F X m (n + 1) f ds hp nx = match F f with | some b => body P (den P F X m n) m b ds hp nx | none => X (den P F X m n) f ds hp nx := by
  show (@Option.rec Fn (fun _ => Option (D × Tr Ob × Pos)) (X (den P F X m n) f ds hp nx)
    (fun fn => @Option.rec (Tr D) (fun _ => Option (D × Tr Ob × Pos)) none (fun tm => @Out.rec (fun _ => Option (D × Tr Ob × Pos)) (fun s => ends fn s) (fun _ _ => none) (fun s => ends fn s) none (ev P (den P F X m n) m fn.k { tm := tm, hp := hp, nx := nx })) (pars fn.ps ds .e)) (F f)) = _
  rw [orec]
  cases F f with
  | none => rfl
  | some b =>
    simp only [body]
    rw [orec]
    cases pars b.ps ds .e with
    | none => rfl
    | some tm =>
      simp only []
      rw [outrec]
      cases ev P (den P F X m n) m b.k { tm := tm, hp := hp, nx := nx } <;> rfl
theorem body_frame (hO : Fr O) {m : Nat} {b : Fn} {ds : List D} {hp hp' : Tr Ob} {nx nx' : Pos} {d : D} (h : body P O m b ds hp nx = some (d, hp', nx')) :
    Keep hp hp' ∧ ∀ id e cs, Tr.get id hp' = none → body P O m b ds (Tr.set id (.ob e cs) hp) nx = some (d, Tr.set id (.ob e cs) hp', nx') := by
  unfold body at h ⊢
  cases hps : pars b.ps ds .e with
  | none => rw [hps] at h; cases h
  | some tm =>
    rw [hps] at h
    simp only [] at h ⊢
    have hfr := ev_frame (P := P) hO m b.k
    cases he : ev P O m b.k { tm := tm, hp := hp, nx := nx } with
    | norm s =>
      rw [he] at h
      obtain ⟨rfl, e2⟩ := ends_frame h
      obtain ⟨k1, k2⟩ := hfr _ s (by rw [he]; rfl)
      refine ⟨k1, fun id e cs hn => ?_⟩
      have := k2 id e cs hn
      rw [he] at this
      show (match ev P O m b.k (wid id e cs { tm := tm, hp := hp, nx := nx }) with
        | .norm s => ends b s
        | .ret s => ends b s
        | _ => none) = _
      rw [this]
      exact e2 id e cs hn
    | ret s =>
      rw [he] at h
      obtain ⟨rfl, e2⟩ := ends_frame h
      obtain ⟨k1, k2⟩ := hfr _ s (by rw [he]; rfl)
      refine ⟨k1, fun id e cs hn => ?_⟩
      have := k2 id e cs hn
      rw [he] at this
      show (match ev P O m b.k (wid id e cs { tm := tm, hp := hp, nx := nx }) with
        | .norm s => ends b s
        | .ret s => ends b s
        | _ => none) = _
      rw [this]
      exact e2 id e cs hn
    | exit j s => rw [he] at h; cases h
    | no => rw [he] at h; cases h
theorem body_ok (hm : P.follows .mixedOrders = true) (hG : Good P O) (hO : Fr O) {m : Nat} {f : Nat} {fn : Func} {b : Fn} (hf : P.funcs[f]? = some fn) (hname : (fn.name == "runtime.NumGoroutine") = false) (hb : fitF P fn b = true)
    {ds : List D} {hp hp' : Tr Ob} {nx nx' : Pos} {d : D} (h : body P O m b ds hp nx = some (d, hp', nx')) {β : Blk} {w : World} {vs : Array Value} (hH : HV β hp w) (hv : Al (DV β) ds vs.toList) :
    (callFunc f vs).run P w = .ok (.enter f vs) w ∧ Calls P f vs w (fun e w' => ∃ v β', e = .returned v ∧ DV β' d v ∧ HV β' hp' w' ∧ Mv β w β' w') := by
  unfold fitF at hb
  split at hb
  case h_2 => cases hb
  rename_i c hc
  simp only [Bool.and_eq_true, ble_iff] at hb
  obtain ⟨hps, hle, hrs, hk⟩ := hb
  refine ⟨?_, ?_⟩
  · simp only [callFunc, Sem.run_bind, run_program, Result.andThen_ok, hf, hname, Bool.false_eq_true, if_false, hc, Option.isNone_some, Sem.run_pure]
  · unfold body at h
    split at h
    case h_2 => cases h
    rename_i tm htm
    obtain ⟨h1, h2⟩ := pars_ok (β := β) (m := fn.ntmps) hps htm (by simpa using hv) hle (fun p d' hq => by rw [Tr.get_e] at hq; cases hq)
    have hlen : vs.size = b.ps.length := by rw [h2, Al.len hv]; simp
    have hgetD : ∀ k, (vs ++ Array.replicate fn.ntmps undef).getD k undef = (vs ++ Array.replicate (fn.ntmps - vs.size) undef).getD k undef := by
      intro k
      simp only [Array.getD_eq_getD_getElem?, Array.getElem?_append, Array.getElem?_replicate]
      split
      · rfl
      · split <;> split <;> rfl
    have hT : TV fn.ntmps β tm { tmps := vs ++ Array.replicate (fn.ntmps - vs.size) undef, defers := [] } := by
      refine ⟨by simp; omega, rfl, fun p d' hq => ?_⟩
      show DV β d' ((vs ++ Array.replicate (fn.ntmps - vs.size) undef).getD (p.num - 1) undef)
      rw [← hgetD]
      exact h1 p d' hq
    have hR : R fn.ntmps β { tm := tm, hp := hp, nx := nx } { tmps := vs ++ Array.replicate (fn.ntmps - vs.size) undef, defers := [] } w := ⟨hT, hH⟩
    have hno : ev P O m b.k { tm := tm, hp := hp, nx := nx } ≠ .no := fun he => by rw [he] at h; cases h
    refine calls_of_wp hf hc (wp_mono (ev_ok hm hG hO hk hno hR) ?_)
    intro e a' w' hp1
    cases e with
    | normal =>
      obtain ⟨β', s', he, hR', hm'⟩ := hp1
      rw [he] at h
      obtain ⟨rfl, v, hv1, hv2⟩ := ends_ok hR' hrs h
      exact ⟨hR'.tm.defers, v, hv1, v, β', rfl, hv2, hR'.hp, hm'⟩
    | exit j =>
      obtain ⟨β', s', he, hR', hm'⟩ := hp1
      rw [he] at h
      cases h
    | ret =>
      obtain ⟨β', s', he, hR', hm'⟩ := hp1
      rw [he] at h
      obtain ⟨rfl, v, hv1, hv2⟩ := ends_ok hR' hrs h
      exact ⟨hR'.tm.defers, v, hv1, v, β', rfl, hv2, hR'.hp, hm'⟩
    | goto l => exact hp1.elim
    | panic ch => exact hp1.elim
    | outgrown => exact hp1.elim
/-- the table is the program's -/
def Fits (P : Program) (F : Nat → Option Fn) : Prop := ∀ f b, F f = some b → ∃ fn, P.funcs[f]? = some fn ∧ (fn.name == "runtime.NumGoroutine") = false ∧ fitF P fn b = true
theorem den_good (hm : P.follows .mixedOrders = true) {F : Nat → Option Fn} (hF : Fits P F) {X : Oracle → Oracle} (hX : ∀ O, Good P O → Fr O → Good P (X O) ∧ Fr (X O)) (m : Nat) : ∀ n, Good P (den P F X m n) ∧ Fr (den P F X m n)
  | 0 => ⟨fun f ds hp nx d hp' nx' h => (by cases h), fun f ds hp nx d hp' nx' h => (by cases h)⟩
  | n + 1 => by
    obtain ⟨ihG, ihF⟩ := den_good hm hF hX m n
    obtain ⟨xG, xF⟩ := hX _ ihG ihF
    refine ⟨fun f ds hp nx d hp' nx' h β w vs hH hv => ?_, fun f ds hp nx d hp' nx' h => ?_⟩
    · rw [den_succ] at h
      split at h
      · rename_i b hb
        obtain ⟨fn, h1, h2, h3⟩ := hF f b hb
        exact .inl (body_ok hm ihG ihF h1 h2 h3 h hH hv)
      · exact xG f ds hp nx d hp' nx' h β w vs hH hv
    · rw [den_succ] at h
      split at h
      · rename_i b hb
        obtain ⟨k1, k2⟩ := body_frame ihF h
        refine ⟨k1, fun id e cs hn => ?_⟩
        rw [den_succ, hb]
        exact k2 id e cs hn
      · rename_i hb
        obtain ⟨k1, k2⟩ := xF f ds hp nx d hp' nx' h
        refine ⟨k1, fun id e cs hn => ?_⟩
        rw [den_succ, hb]
        exact k2 id e cs hn
end
end Go.Proofs.YtiahijhpjloijaaGreat.V
