/- The closed law CrcForms: its walk, over the contracts of Sum and begun and five sums; no condition. -/
import Derived.Test.YtbpmdmppncjbpaaCrcW
import Derived.Test.YtbpmdmppncjbpaaCrcSum
namespace Go.Proofs.Ytbpmdmppncjbpaa.Crc
open Go.RowKit Go.Proofs.YtbpmdmppncjbpaaW.PrintWords Go.Proofs.YtbpmdmppncjbpaaW.PrintLast Go.Proofs.YtbpmdmppncjbpaaW.PrintMore Go.Proofs.Ytbpmdmppncjbpaa.PCrcAll
theorem sum_below {k : Nat} {A : Option Addr} {c : Nat} {l : List Int} {r : Int} {w w0 : World} (hr : Kd.C (Kd.int .u8) w A l.length l) (hc : l.length ≤ c) (h : crc_Sum.f k l = some r) (hb : Below w0.heap.size w0 w) :
    Calls Try.prog 8 #[.slice A l.length c] w fun e w' => e = .returned (.int .u16 r) ∧ Below w0.heap.size w0 w' :=
  (crc_Sum.calls k A c l r w hr hc h).mono fun e w' h => ⟨h.1, by obtain ⟨nd, rfl⟩ := h.2; exact pw_below_drewN hb _⟩
set_option maxHeartbeats 3200000 in
set_option maxRecDepth 100000 in
theorem CrcForms.walk (w : World) : Calls Try.prog 5 #[] w fun e w' => e = .returned (.bool true) ∧ Below w.heap.size w w' := by
  obtain ⟨k0, h0⟩ := (Sums.begun_f).rounds
  obtain ⟨k1, h1⟩ := (Sums.sum_f [0] (by decide) (by decide)).rounds
  obtain ⟨k2, h2⟩ := (Sums.sum_f [1] (by decide) (by decide)).rounds
  obtain ⟨k3, h3⟩ := (Sums.sum_f [65] (by decide) (by decide)).rounds
  obtain ⟨k4, h4⟩ := (Sums.sum_f [255] (by decide) (by decide)).rounds
  obtain ⟨k5, h5⟩ := (Sums.sum_f [0, 0, 0] (by decide) (by decide)).rounds
  rw [show ((Bits16.sum 0 [0] : Nat) : Int) = 0 from by decide +kernel] at h1
  rw [show ((Bits16.sum 0 [1] : Nat) : Int) = 49345 from by decide +kernel] at h2
  rw [show ((Bits16.sum 0 [65] : Nat) : Int) = 12480 from by decide +kernel] at h3
  rw [show ((Bits16.sum 0 [255] : Nat) : Int) = 16448 from by decide +kernel] at h4
  rw [show ((Bits16.sum 0 [0, 0, 0] : Nat) : Int) = 0 from by decide +kernel] at h5
  have H1 := Aside0.mk h1
  have H2 := Aside0.mk h2
  have H3 := Aside0.mk h3
  have H4 := Aside0.mk h4
  have H5 := Aside0.mk h5
  clear h1 h2 h3 h4 h5
  have kc := fun (w : World) (C : Array Value) (n c : Nat) => Lib.run_convert_bytes_const (P := Try.prog) w 22 5 C n c Try.underlying22 Try.underlying5
  go_enter Try.func5, Try.ntmps5
  go_wp2_with fail
  refine (tenancylaw3_begun.calls k0 true _ h0).mono ?_
  rintro e w1 ⟨rfl, hb1⟩
  go_wp2_with fail
  refine (sum_below (l := [0]) (C_bytes _ _ _ _ rfl (by decide)) (by decide) H1.out (below_alloc hb1 _)).mono ?_
  rintro e w2 ⟨rfl, hb2⟩
  go_wp2_with fail
  refine (sum_below (l := [1]) (C_bytes _ _ _ _ rfl (by decide)) (by decide) H2.out (below_alloc hb2 _)).mono ?_
  rintro e w3 ⟨rfl, hb3⟩
  go_wp2_with fail
  refine (sum_below (l := [65]) (C_bytes _ _ _ _ rfl (by decide)) (by decide) H3.out (below_alloc hb3 _)).mono ?_
  rintro e w4 ⟨rfl, hb4⟩
  go_wp2_with fail
  refine (sum_below (l := [255]) (C_bytes _ _ _ _ rfl (by decide)) (by decide) H4.out (below_alloc hb4 _)).mono ?_
  rintro e w5 ⟨rfl, hb5⟩
  go_wp2_with fail
  refine (sum_below (l := [0, 0, 0]) (C_bytes _ _ _ _ rfl (by decide)) (by decide) H5.out (below_alloc hb5 _)).mono ?_
  rintro e w6 ⟨rfl, hb6⟩
  go_wp2_with fail
  go_ret
  exact ⟨rfl, hb6⟩

end Go.Proofs.Ytbpmdmppncjbpaa.Crc
