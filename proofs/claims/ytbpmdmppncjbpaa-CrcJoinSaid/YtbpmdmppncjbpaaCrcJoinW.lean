/- CrcJoin: the walk: two arrays of 20 bytes, turned in one another, have their sums turned in one another. No condition. -/
import Derived.Test.YtbpmdmppncjbpaaCrcSum
import Derived.Deep.QuietTactic
import Derived.BigQuiet
import Derived.RegionTactic
import Derived.ChangeAlike
namespace Go.Proofs.Ytbpmdmppncjbpaa.Crc
open Go.RowKit Go.Proofs.YtbpmdmppncjbpaaW.PrintWords Go.Proofs.YtbpmdmppncjbpaaW.PrintLast Go.Proofs.YtbpmdmppncjbpaaW.PrintMore Go.Proofs.Ytbpmdmppncjbpaa.PCrcAll
namespace Join
open Bits16 (cast)
/-- the bytes as cells -/
def cl (m : List Nat) : List Value := m.map fun (x : Nat) => Value.int .u8 (x : Int)
def Blk (w : World) (g : Nat) (cs : List Value) : Prop := w.heap[g]? = some (.cells cs.toArray 29 (0, 0))
theorem Blk.cell {w : World} {g : Nat} {cs : List Value} (h : Blk w g cs) (i : Nat) : w.cell? ⟨g, i, none⟩ = cs[i]? := by
  have := cell_of_row w g i cs.toArray 29 (0, 0) h
  simpa using this
theorem Blk.frozen {w : World} {g : Nat} {cs : List Value} (h : Blk w g cs) (i : Nat) : w.frozen? ⟨g, i, none⟩ = false := by
  unfold Blk at h
  simp [World.frozen?, h]
theorem Blk.set_ {w : World} {g : Nat} {cs : List Value} (h : Blk w g cs) (i : Nat) (u : Value) : Blk (w.setCell ⟨g, i, none⟩ u) g (cs.set i u) := by
  unfold Blk at h ⊢
  simp [World.setCell, Array.getElem?_modify, h]
theorem Blk.below {w w' : World} {g B : Nat} {cs : List Value} (h : Blk w g cs) (hb : Below B w w') (hg : g < B) : Blk w' g cs := (hb.block g hg).trans h
theorem Blk.new (w : World) (cs : List Value) : Blk (w.alloc (.cells cs.toArray 29)) w.heap.size cs := heap_alloc_new w _
theorem Blk.lt {w : World} {g : Nat} {cs : List Value} (h : Blk w g cs) : g < w.heap.size := by
  rcases Nat.lt_or_ge g w.heap.size with hlt | hge
  · exact hlt
  · unfold Blk at h; rw [Array.getElem?_eq_none hge] at h; cases h
theorem Blk.far {w : World} {g : Nat} {cs : List Value} (h : Blk w g cs) {p : Addr} (hp : g ≠ p.block) (u : Value) : Blk (w.setCell p u) g cs := (Below.heap_setCell w p u g hp).trans h
/-- such a block, read as bytes -/
theorem Blk.reads {w : World} {g : Nat} {m : List Nat} (h : Blk w g (cl m)) (hn : m.length ≤ 9223372036854775807) : Kd.C (Kd.int .u8) w (some ⟨g, 0, none⟩) (cast m).length (cast m) := by
  refine ⟨rfl, by rw [Bits16.cast_length]; exact hn, fun _ => ⟨_, rfl, fun j p hp => ⟨[.int .u8 p], rfl, rfl, fun i u hu => ?_⟩⟩⟩
  have hi : i = 0 := by
    rcases i with _ | i
    · rfl
    · simp at hu
  subst hi
  simp at hu
  subst hu
  have e1 : (Addr.add ⟨g, 0, none⟩ (j * (Kd.int .u8).sz + 0)) = ⟨g, j, none⟩ := by
    show (Addr.add ⟨g, 0, none⟩ (j * 1 + 0)) = _
    simp only [Nat.mul_one, Nat.add_zero]
    unfold Addr.add
    split <;> simp_all
  rw [e1, h.cell]
  have : m[j]?.map (fun (x : Nat) => (x : Int)) = some p := by rw [← hp]; simp [Bits16.cast]
  unfold cl
  rw [List.getElem?_map]
  rcases hq : m[j]? with _ | q
  · rw [hq] at this; cases this
  · rw [hq] at this; simp at this; subst this; rfl
/-- the third array behind j rounds -/
def filled (z : List Nat) (j : Nat) : List Nat := z.take j ++ List.replicate (z.length - j) 0
theorem filled_zero (z : List Nat) : filled z 0 = List.replicate z.length 0 := by simp [filled]
theorem filled_all (z : List Nat) : filled z z.length = z := by simp [filled]
theorem filled_length (z : List Nat) (j : Nat) (h : j ≤ z.length) : (filled z j).length = z.length := by simp [filled]; omega
theorem filled_set (z : List Nat) (j : Nat) (h : j < z.length) : (filled z j).set j (z.getD j 0) = filled z (j + 1) := by
  apply List.ext_getElem?
  intro i
  unfold filled
  rw [List.getElem?_set]
  have hl : (z.take j ++ List.replicate (z.length - j) 0).length = z.length := by simp; omega
  by_cases e : j = i
  · subst e
    rw [if_pos rfl, if_pos (by omega)]
    rw [List.getElem?_append_left (by simp; omega), List.getElem?_take_of_lt (by omega), List.getD_eq_getElem?_getD]
    rw [List.getElem?_eq_getElem h]; rfl
  · rw [if_neg e]
    by_cases hi : i < j
    · rw [List.getElem?_append_left (by simp; omega), List.getElem?_append_left (by simp; omega), List.getElem?_take_of_lt (by omega), List.getElem?_take_of_lt (by omega)]
    · rw [List.getElem?_append_right (by simp; omega), List.getElem?_append_right (by simp; omega)]
      simp only [List.getElem?_replicate, List.length_take]
      by_cases hz : i < z.length
      · rw [if_pos (by omega), if_pos (by omega)]
      · rw [if_neg (by omega), if_neg (by omega)]
theorem cl_set (m : List Nat) (j x : Nat) : (cl m).set j (.int .u8 (x : Int)) = cl (m.set j x) := by simp [cl]
theorem cl_at (m : List Nat) (j : Nat) (h : j < m.length) : (cl m)[j]? = some (.int .u8 ((m.getD j 0 : Nat) : Int)) := by
  simp [cl, List.getElem?_eq_getElem h]
theorem mem_lt (m : List Nat) (j : Nat) (h : ∀ u, u ∈ m → u < 256) (hj : j < m.length) : m.getD j 0 < 256 := by
  rw [List.getD_eq_getElem?_getD, List.getElem?_eq_getElem hj]
  exact h _ (List.getElem_mem hj)
end Join
open Join
open Bits16 (cast)
set_option maxHeartbeats 1600000 in
set_option maxRecDepth 100000 in
theorem join_walk (mx my : List Nat) (w : World) (hx : mx.length = 20) (hy : my.length = 20) (hbx : ∀ u, u ∈ mx → u < 256) (hby : ∀ u, u ∈ my → u < 256) :
    Calls Try.prog 6 #[.agg (cl mx).toArray, .agg (cl my).toArray] w fun e w' => e = .returned (.bool true) ∧ Below w.heap.size w w' := by
  obtain ⟨k0, hk⟩ := (Sums.begun_f).rounds
  have hz : ∃ mz : List Nat, mz.length = 20 ∧ (∀ j, j < 20 → mz.getD j 0 = mx.getD j 0 ^^^ my.getD j 0) ∧ (∀ u, u ∈ mz → u < 256) ∧ Bits16.sum 0 mz = Bits16.sum 0 mx ^^^ Bits16.sum 0 my := by
    refine ⟨List.zipWith (· ^^^ ·) mx my, by simp [hx, hy], fun j hj => ?_, fun u hu => ?_, ?_⟩
    · simp only [List.getD_eq_getElem?_getD, List.getElem?_zipWith]
      rw [List.getElem?_eq_getElem (by omega : j < mx.length), List.getElem?_eq_getElem (by omega : j < my.length)]
      rfl
    · obtain ⟨i, hi, rfl⟩ := List.getElem_of_mem hu
      rw [List.getElem_zipWith]
      exact Nat.xor_lt_two_pow (n := 8) (hbx _ (List.getElem_mem _)) (hby _ (List.getElem_mem _))
    · have := Bits16.sum_xor mx my 0 0 (by omega)
      exact this
  obtain ⟨mz, hzl, hzj, hbz, hsum⟩ := hz
  obtain ⟨kx, sx⟩ := (Sums.sum_f mx (by omega) hbx).rounds
  obtain ⟨ky, sy⟩ := (Sums.sum_f my (by omega) hby).rounds
  obtain ⟨kz, sz⟩ := (Sums.sum_f mz (by omega) hbz).rounds
  have lx := Bits16.sum_lt mx (c := 0) (by decide) hbx
  have ly := Bits16.sum_lt my (c := 0) (by decide) hby
  have hfin : (((Bits16.sum 0 mz : Nat) : Int) == Go.bits .xor .u16 ((Bits16.sum 0 mx : Nat) : Int) ((Bits16.sum 0 my : Nat) : Int)) = true := by
    rw [Bits16.u16_xor_cast lx ly, hsum, beq_self_eq_true]
  have HF := Aside0.mk hfin
  have HX := Aside0.mk hx
  have HY := Aside0.mk hy
  have HZL := Aside0.mk hzl
  have HZJ := Aside0.mk hzj
  have SX := Aside0.mk sx
  have SY := Aside0.mk sy
  have SZ := Aside0.mk sz
  have HBX := Aside0.mk hbx
  have HBY := Aside0.mk hby
  clear hfin hsum hx hy hzl hzj sx sy sz lx ly hbx hby hbz
  go_enter Try.func6, Try.ntmps6
  go_wp2_with fail
  refine (tenancylaw3_begun.calls k0 true _ hk).mono ?_
  rintro e w1 ⟨rfl, hb1⟩
  have bA : Blk w1 w.heap.size (cl mx) := ((Blk.new w (cl mx)).below (below_one _ _) (by simp)).below hb1 (by simp; omega)
  have bB : Blk w1 (w.heap.size + 1) (cl my) := by
    have := (Blk.new (w.alloc (.cells (cl mx).toArray 29)) (cl my)).below hb1 (by simp)
    simpa using this
  have hs1 : w.heap.size + 2 ≤ w1.heap.size := by have := hb1.size; simp at this; omega
  have hB0 : Below w.heap.size w w1 := ((below_one w _).trans ((Below.refl _ _).alloc (by simp) _)).trans (hb1.mono (by simp; omega))
  clear hb1
  have HBA := Aside0.mk bA
  have HBB := Aside0.mk bB
  have HB0 := Aside0.mk hB0
  clear bA bB hB0
  go_wp2_with fail
  go_loopw [6] (fun i wr => ∃ j : Nat, j ≤ 20 ∧ i = .int .i64 (j : Int) ∧ Aside0 (Blk wr w1.heap.size (cl (filled mz j))) ∧ Aside0 (Below w1.heap.size w1 wr))
    (fun i _ => 20 - (intOf i).toNat)
  case atStart =>
    refine ⟨0, by omega, rfl, Aside0.mk ?_, Aside0.mk (below_one _ _)⟩
    rw [filled_zero, HZL.out]
    exact heap_alloc_new w1 _
  case round =>
    obtain ⟨j, hj, rfl, hC, hb⟩ := hrel
    have cA : Blk wr w.heap.size (cl mx) := HBA.out.below hb.out (by omega)
    have cB : Blk wr (w.heap.size + 1) (cl my) := HBB.out.below hb.out (by omega)
    have hsz : w1.heap.size < wr.heap.size := hC.out.lt
    by_cases hlt : j < 20
    · have f1 : wr.cell? ⟨w.heap.size, j, none⟩ = some (.int .u8 ((mx.getD j 0 : Nat) : Int)) := (cA.cell j).trans (cl_at _ _ (by rw [HX.out]; exact hlt))
      have f2 : wr.cell? ⟨w.heap.size + 1, j, none⟩ = some (.int .u8 ((my.getD j 0 : Nat) : Int)) := (cB.cell j).trans (cl_at _ _ (by rw [HY.out]; exact hlt))
      have f3 : wr.cell? ⟨w1.heap.size, j, none⟩ = some (.int .u8 (((filled mz j).getD j 0 : Nat) : Int)) := (hC.out.cell j).trans (cl_at _ _ (by rw [filled_length _ _ (by rw [HZL.out]; exact hj), HZL.out]; exact hlt))
      have f4 : wr.frozen? ⟨w1.heap.size, j, none⟩ = false := hC.out.frozen j
      generalize ex : mx.getD j 0 = x at f1
      generalize ey : my.getD j 0 = y at f2
      generalize eo : (filled mz j).getD j 0 = o at f3
      have EX := Aside0.mk ex
      have EY := Aside0.mk ey
      clear ex ey eo cA cB
      have hjb : decide ((j : Int) < 20) = true := by simp; omega
      have hj0 : (0 : Int) ≤ (j : Int) := by omega
      have hj1 : (j : Int) < 20 := by omega
      go_wp2_with fail
      go_region
      go_wp2
      go_roundw
      case rel =>
        refine ⟨j + 1, by omega, by go_num, Aside0.mk ?_, Aside0.mk (hb.out.setCell (Nat.le_refl _) _).drew⟩
        have hxb : x < 256 := by rw [← EX.out]; exact mem_lt _ _ HBX.out (by rw [HX.out]; exact hlt)
        have hyb : y < 256 := by rw [← EY.out]; exact mem_lt _ _ HBY.out (by rw [HY.out]; exact hlt)
        have e : filled mz (j + 1) = (filled mz j).set j (x ^^^ y) := by
          rw [← filled_set _ _ (by rw [HZL.out]; exact hlt), HZJ.out j hlt, EX.out, EY.out]
        rw [e, ← cl_set, Go.u8_xor_nat x y hxb hyb]
        exact hC.out.set_ j _
      case measure => simp [intOf]; omega
    · obtain rfl : j = 20 := by omega
      have hC' : Blk wr w1.heap.size (cl mz) := by
        have := hC.out
        rw [show (20 : Nat) = mz.length from HZL.out.symm, filled_all] at this
        exact this
      have ha : Below w.heap.size w wr := HB0.out.trans (hb.out.mono (by omega))
      have qz : ∀ n, Calls Try.prog 8 #[.slice (some ⟨w1.heap.size, 0, none⟩) 20 20] (wr.drewN n) fun e w'' => e = .returned (.int .u16 ((Bits16.sum 0 mz : Nat) : Int)) ∧ ∃ m, w'' = wr.drewN m := fun n => by
        have := crc_Sum.calls kz _ 20 (cast mz) _ (wr.drewN n) (Kd.C_drewN (hC'.reads (by rw [HZL.out]; decide)) n) (by rw [Bits16.cast_length, HZL.out]; exact Nat.le_refl _) SZ.out
        rw [Bits16.cast_length, HZL.out] at this
        exact Calls.quiet_of (this.mono fun _ _ h => ⟨h.1, by obtain ⟨nd, h⟩ := h.2; exact ⟨nd, h⟩⟩)
      have qx : ∀ n, Calls Try.prog 8 #[.slice (some ⟨w.heap.size, 0, none⟩) 20 20] (wr.drewN n) fun e w'' => e = .returned (.int .u16 ((Bits16.sum 0 mx : Nat) : Int)) ∧ ∃ m, w'' = wr.drewN m := fun n => by
        have := crc_Sum.calls kx _ 20 (cast mx) _ (wr.drewN n) (Kd.C_drewN (cA.reads (by rw [HX.out]; decide)) n) (by rw [Bits16.cast_length, HX.out]; exact Nat.le_refl _) SX.out
        rw [Bits16.cast_length, HX.out] at this
        exact Calls.quiet_of (this.mono fun _ _ h => ⟨h.1, by obtain ⟨nd, h⟩ := h.2; exact ⟨nd, h⟩⟩)
      have qy : ∀ n, Calls Try.prog 8 #[.slice (some ⟨w.heap.size + 1, 0, none⟩) 20 20] (wr.drewN n) fun e w'' => e = .returned (.int .u16 ((Bits16.sum 0 my : Nat) : Int)) ∧ ∃ m, w'' = wr.drewN m := fun n => by
        have := crc_Sum.calls ky _ 20 (cast my) _ (wr.drewN n) (Kd.C_drewN (cB.reads (by rw [HY.out]; decide)) n) (by rw [Bits16.cast_length, HY.out]; exact Nat.le_refl _) SY.out
        rw [Bits16.cast_length, HY.out] at this
        exact Calls.quiet_of (this.mono fun _ _ h => ⟨h.1, by obtain ⟨nd, h⟩ := h.2; exact ⟨nd, h⟩⟩)
      have QX := Aside0.mk qx
      have QY := Aside0.mk qy
      have QZ := Aside0.mk qz
      have HA := Aside0.mk ha
      clear qx qy qz ha hC' cA cB
      go_wp2_with fail
      go_quiet (first | (with_reducible exact QZ.out _) | (with_reducible exact QX.out _) | (with_reducible exact QY.out _))
      go_wp2_with fail
      go_ret
      exact ⟨congrArg (fun b => Ending.returned (Value.bool b)) HF.out, pw_below_drewN HA.out _⟩
end Go.Proofs.Ytbpmdmppncjbpaa.Crc
