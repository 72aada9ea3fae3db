/- That bytes of which some within 16 bits are turned have another sum: the plain law. No condition. -/
import Derived.Test.YtbpmdmppncjbpaaCrcSum
import Derived.Test.YtbpmdmppncjbpaaCrcTurnedW
namespace Go.Proofs.Ytbpmdmppncjbpaa.Crc.Sums
open Go.RowKit Go.Proofs.YtbpmdmppncjbpaaW.PrintWords Go.Proofs.YtbpmdmppncjbpaaW.PrintLast Go.Proofs.YtbpmdmppncjbpaaW.PrintMore Go.Proofs.Ytbpmdmppncjbpaa.Bits16 Go.Proofs.Ytbpmdmppncjbpaa.Crc
theorem xor_shl (a b k : Nat) (h : a < 2 ^ k) : a ^^^ (b <<< k) = a + b * 2 ^ k := by
  have h1 : (a ^^^ (b <<< k)) % 2 ^ k = a := by
    rw [Nat.xor_mod_two_pow, Nat.shiftLeft_eq, Nat.mul_mod_left, Nat.xor_zero, Nat.mod_eq_of_lt h]
  have h2 : (a ^^^ (b <<< k)) / 2 ^ k = b := by
    rw [← Nat.shiftRight_eq_div_pow, Nat.shiftRight_xor_distrib, Nat.shiftRight_eq_div_pow, Nat.div_eq_of_lt h, Nat.zero_xor, Nat.shiftLeft_shiftRight]
  have := Nat.div_add_mod (a ^^^ (b <<< k)) (2 ^ k)
  rw [h1, h2, Nat.mul_comm] at this
  omega
def bt8 (v j : Nat) : Nat := v / 2 ^ (8 * j) % 256
theorem bytes3 (v : Nat) (h : v < 16777216) : bt8 v 0 ^^^ (bt8 v 1 <<< 8) ^^^ (bt8 v 2 <<< 16) = v := by
  have e0 : bt8 v 0 = v % 256 := by unfold bt8; simp
  have e1 : bt8 v 1 = v / 256 % 256 := rfl
  have e2 : bt8 v 2 = v / 65536 := by show v / 65536 % 256 = _; omega
  rw [xor_shl _ _ 8 (by rw [e0]; omega), xor_shl _ _ 16 (by rw [e0, e1]; omega), e0, e1, e2]
  omega

theorem bt8_lt (v j : Nat) : bt8 v j < 256 := Nat.mod_lt _ (by decide)
theorem cast_append (p s : List Nat) : cast (p ++ s) = cast p ++ cast s := by simp [Bits16.cast]
theorem cast_put (p : List Nat) (x y : Nat) (s : List Nat) (i : Int) (hi : i = p.length) : (cast (p ++ x :: s)).set i.toNat (y : Int) = cast (p ++ y :: s) := by
  subst hi
  simp [Bits16.cast]
theorem rd_at (p : List Nat) (x : Nat) (s : List Nat) (i : Int) (hi : i = p.length) : rd (cast (p ++ x :: s)) i = (x : Int) := by
  subst hi
  unfold rd; simpa using cast_at p x s
/-- one turn of the loop -/
theorem turn_step (l : List Int) (p : List Nat) (x : Nat) (s : List Nat) (k v j : Nat) (r : Bool) (hj : j < 3) (hp : p.length = k + j) (hx : x < 256) (hl : p.length + s.length < 1000)
    (h : Ev (fun n => tenancylaw3_CrcTurned.l0 n l (cast (p ++ (x ^^^ bt8 v j) :: s)) (k : Int) (v : Int) ((j + 1 : Nat) : Int)) r) : Ev (fun n => tenancylaw3_CrcTurned.l0 n l (cast (p ++ x :: s)) (k : Int) (v : Int) (j : Int)) r := by
  have hi : wrap64 ((k : Int) + (j : Int)) = (p.length : Int) := by unfold wrap64; omega
  have h8 : wrap64 (8 * (j : Int)) = ((8 * j : Nat) : Int) := by unfold wrap64; omega
  have hw : wrap64 ((j : Int) + 1) = ((j + 1 : Nat) : Int) := by unfold wrap64; omega
  have hlen : (cast (p ++ x :: s)).length = p.length + 1 + s.length := by rw [cast_length]; simp; omega
  have hsh : shr .u32 (v : Int) ((8 * j : Nat) : Int) % 256 = ((bt8 v j : Nat) : Int) := by
    unfold shr bt8
    rw [Nat.min_eq_left (by show ((8 * j : Nat) : Int).toNat ≤ 32; omega)]
    obtain rfl | rfl | rfl : j = 0 ∨ j = 1 ∨ j = 2 := by omega
    · show (v : Int) / 1 % 256 = ((v / 1 % 256 : Nat) : Int); omega
    · show (v : Int) / 256 % 256 = ((v / 256 % 256 : Nat) : Int); omega
    · show (v : Int) / 65536 % 256 = ((v / 65536 % 256 : Nat) : Int); omega
  refine Ev.step (fun n => ?_) h
  simp only [tenancylaw3_CrcTurned.l0]
  rw [hi, h8, hw, rd_at p x s _ rfl, hsh, Go.u8_xor_nat x (bt8 v j) hx (bt8_lt v j), cast_put p x _ s _ rfl, if_pos (by omega), if_pos (by omega), if_pos (by rw [hlen]; omega), if_pos (by omega)]
theorem turned_core (p : List Nat) (x y z : Nat) (s : List Nat) (v : Nat) (hx : x < 256) (hy : y < 256) (hz : z < 256) (h1 : ∀ u, u ∈ p → u < 256) (h2 : ∀ u, u ∈ s → u < 256) (hl : p.length + 3 + s.length < 1000) (hv : v < 16777216) (hs : stepN 24 v ≠ 0) :
    Ev (fun n => tenancylaw3_CrcTurned.l0 n (Bits16.cast (p ++ x :: y :: z :: s)) (Bits16.cast (p ++ x :: y :: z :: s)) (p.length : Int) (v : Int) ((0 : Nat) : Int)) true := by
  have b8 : ∀ q j, q < 256 → q ^^^ bt8 v j < 256 := fun q j hq => Nat.xor_lt_two_pow (n := 8) hq (bt8_lt v j)
  have hlen : (p ++ x :: y :: z :: s).length = p.length + 3 + s.length := by simp; omega
  have hlen' : (p ++ (x ^^^ bt8 v 0) :: (y ^^^ bt8 v 1) :: (z ^^^ bt8 v 2) :: s).length = p.length + 3 + s.length := by simp; omega
  have hm : ∀ u, u ∈ p ++ x :: y :: z :: s → u < 256 := by
    intro u hu
    simp only [List.mem_append, List.mem_cons] at hu
    rcases hu with h | rfl | rfl | rfl | h
    · exact h1 u h
    · exact hx
    · exact hy
    · exact hz
    · exact h2 u h
  have hm' : ∀ u, u ∈ p ++ (x ^^^ bt8 v 0) :: (y ^^^ bt8 v 1) :: (z ^^^ bt8 v 2) :: s → u < 256 := by
    intro u hu
    simp only [List.mem_append, List.mem_cons] at hu
    rcases hu with h | rfl | rfl | rfl | h
    · exact h1 u h
    · exact b8 _ _ hx
    · exact b8 _ _ hy
    · exact b8 _ _ hz
    · exact h2 u h
  have hne : sum 0 (p ++ (x ^^^ bt8 v 0) :: (y ^^^ bt8 v 1) :: (z ^^^ bt8 v 2) :: s) ≠ sum 0 (p ++ x :: y :: z :: s) := by
    rw [sum_append, sum_append]
    have hc : sum 0 p < 65536 := sum_lt p (by decide) h1
    refine sum_part s _ _ (byte_lt (byte_lt (byte_lt hc (b8 _ _ hx)) (b8 _ _ hy)) (b8 _ _ hz)) (byte_lt (byte_lt (byte_lt hc hx) hy) hz) ?_ h2
    apply three
    rw [bytes3 v hv]
    exact hs
  refine turn_step _ p x (y :: z :: s) p.length v 0 true (by decide) (by omega) hx (by simp; omega) ?_
  have e1 : p ++ (x ^^^ bt8 v 0) :: y :: z :: s = (p ++ [x ^^^ bt8 v 0]) ++ y :: (z :: s) := by simp
  rw [e1]
  refine turn_step _ _ y (z :: s) p.length v 1 true (by decide) (by simp) hy (by simp; omega) ?_
  have e2 : (p ++ [x ^^^ bt8 v 0]) ++ (y ^^^ bt8 v 1) :: (z :: s) = (p ++ [x ^^^ bt8 v 0, y ^^^ bt8 v 1]) ++ z :: s := by simp
  rw [e2]
  refine turn_step _ _ z s p.length v 2 true (by decide) (by simp) hz (by simp; omega) ?_
  have e3 : (p ++ [x ^^^ bt8 v 0, y ^^^ bt8 v 1]) ++ (z ^^^ bt8 v 2) :: s = p ++ (x ^^^ bt8 v 0) :: (y ^^^ bt8 v 1) :: (z ^^^ bt8 v 2) :: s := by simp
  rw [e3]
  have hd : (((sum 0 (p ++ (x ^^^ bt8 v 0) :: (y ^^^ bt8 v 1) :: (z ^^^ bt8 v 2) :: s) : Nat) : Int) != ((sum 0 (p ++ x :: y :: z :: s) : Nat) : Int)) = true := by
    rw [bne_iff_ne]
    intro h
    exact hne (Int.ofNat.inj h)
  refine Ev.step (f := fun n => (crc_Sum.f n (Bits16.cast (p ++ (x ^^^ bt8 v 0) :: (y ^^^ bt8 v 1) :: (z ^^^ bt8 v 2) :: s))).bind fun t116 => (crc_Sum.f n (Bits16.cast (p ++ x :: y :: z :: s))).bind fun t117 => some (t116 != t117)) (fun n => ?_) ?_
  · simp only [tenancylaw3_CrcTurned.l0]
    rw [if_neg (by omega)]
  · refine Ev.bind (sum_f _ (by omega) hm') (Ev.bind (sum_f _ (by omega) hm) ?_)
    rw [hd]
    exact Ev.now true
theorem CrcTurned : tenancylaw3_CrcTurned.Pure := by
  intro l a b hmax hl hw ha hb
  obtain ⟨m, rfl, hm⟩ := of_bytes l hw
  clear hw hmax
  have ha : 0 ≤ a ∧ a ≤ 65535 := by simpa [Lit.wf, IntKind.min, IntKind.max, IntKind.signed, IntKind.bits] using ha
  have hb : 0 ≤ b ∧ b ≤ 65535 := by simpa [Lit.wf, IntKind.min, IntKind.max, IntKind.signed, IntKind.bits] using hb
  apply Ev.rounds
  have done : ∀ (x y : Int), Ev (fun k => tenancylaw3_CrcTurned.j0 k (Bits16.cast m) x y true) true := fun x y => Ev.step (fun k => by simp only [tenancylaw3_CrcTurned.j0]; rw [if_pos trivial]) (Ev.now true)
  refine Ev.bind begun_f (Ev.congr (fun k => if_pos rfl) ?_)
  by_cases h1 : ((Bits16.cast m).length : Int) > 200
  · exact Ev.congr (fun k => if_pos h1) (done a b)
  refine Ev.congr (fun k => if_neg h1) ?_
  by_cases h2 : ((Bits16.cast m).length : Int) < 3
  · exact Ev.congr (fun k => if_pos h2) (done a b)
  refine Ev.congr (fun k => if_neg h2) ?_
  by_cases h3 : b = 0
  · rw [show (b == 0) = true from by simp [h3]]; exact done a b
  rw [show (b == 0) = false from by simp [h3]]
  rw [cast_length] at h1 h2
  obtain ⟨a, rfl⟩ := Int.eq_ofNat_of_zero_le ha.1
  obtain ⟨b, rfl⟩ := Int.eq_ofNat_of_zero_le hb.1
  have hd : wrap64 (((Bits16.cast m).length : Int) - 2) = ((m.length - 2 : Nat) : Int) := by rw [cast_length]; unfold wrap64; omega
  have hk : Int.tmod (wrap64 (a : Int)) ((m.length - 2 : Nat) : Int) = ((a % (m.length - 2) : Nat) : Int) := by
    rw [show wrap64 (a : Int) = (a : Int) from by unfold wrap64; omega, Int.tmod_eq_emod_of_nonneg (by omega)]; rfl
  have h8 : Int.tmod (a : Int) 8 = ((a % 8 : Nat) : Int) := by rw [Int.tmod_eq_emod_of_nonneg (by omega)]; rfl
  have hbm : (b : Int) % 4294967296 = (b : Int) := by omega
  have hvb : b * 2 ^ (a % 8) < 16777216 := by
    have : 2 ^ (a % 8) ≤ 2 ^ 7 := Nat.pow_le_pow_right (by decide) (by omega)
    have h := Nat.mul_le_mul (show b ≤ 65535 by omega) this
    omega
  have hsh : shl .u32 (b : Int) ((a % 8 : Nat) : Int) = ((b * 2 ^ (a % 8) : Nat) : Int) := by
    unfold shl
    rw [Nat.min_eq_left (by show ((a % 8 : Nat) : Int).toNat ≤ 32; omega), IntKind.wrap_u32]
    show (b : Int) * ((2 : Int) ^ (a % 8)) % 4294967296 = _
    rw [show (b : Int) * ((2 : Int) ^ (a % 8)) = ((b * 2 ^ (a % 8) : Nat) : Int) from by rw [Int.natCast_mul, Int.natCast_pow]; rfl]
    omega
  have hkl : a % (m.length - 2) < m.length - 2 := Nat.mod_lt _ (by omega)
  have hs : stepN 24 (b * 2 ^ (a % 8)) ≠ 0 := by
    rw [← Nat.shiftLeft_eq]
    have hb0 : b ≠ 0 := fun h => h3 (by rw [h]; rfl)
    exact Bits16.seen b (a % 8) (by omega) hb0 (by omega)
  have hsplit : ∀ k, k < m.length - 2 → ∃ p x y z s, m = p ++ x :: y :: z :: s ∧ p.length = k := by
    intro k hk
    refine ⟨m.take k, m[k]'(by omega), m[k + 1]'(by omega), m[k + 2]'(by omega), m.drop (k + 3), ?_, by simp; omega⟩
    rw [← List.drop_eq_getElem_cons, ← List.drop_eq_getElem_cons, ← List.drop_eq_getElem_cons, List.take_append_drop]
  obtain ⟨p, x, y, z, s, hmp, hp⟩ := hsplit _ hkl
  have hlen : m.length = p.length + 3 + s.length := by rw [hmp]; simp; omega
  have hcore := turned_core p x y z s (b * 2 ^ (a % 8)) (hm x (by rw [hmp]; simp)) (hm y (by rw [hmp]; simp)) (hm z (by rw [hmp]; simp)) (fun u hu => hm u (by rw [hmp]; simp [hu])) (fun u hu => hm u (by rw [hmp]; simp [hu])) (by omega) hvb hs
  rw [← hmp, hp] at hcore
  refine Ev.step (fun n => ?_) hcore
  simp only [tenancylaw3_CrcTurned.j0, Option.bind_some]
  rw [if_neg (by simp), if_pos (by rw [cast_length]; simp; omega), hd, hk, h8, hbm, hsh, if_neg (by omega), if_pos (by omega)]
  rfl
end Go.Proofs.Ytbpmdmppncjbpaa.Crc.Sums
