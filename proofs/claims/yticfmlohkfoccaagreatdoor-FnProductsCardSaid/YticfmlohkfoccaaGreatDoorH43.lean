/- The opposite of a float; square roots of small whole numbers; a 32-bit float made wide and narrow again; plain. -/
import Derived.Test.YticfmlohkfoccaaGreatDoorH42
set_option linter.unusedVariables false
set_option linter.unusedSimpArgs false
namespace Go.Proofs.YticfmlohkfoccaaGreatDoor
open Ieee

theorem xor_top (r : Nat) (h : r < 2147483648) : r ^^^ 2 ^ 31 = 2 ^ 31 + r := by
  apply Nat.eq_of_testBit_eq
  intro i
  rw [Nat.testBit_xor, Nat.testBit_two_pow]
  by_cases hi : i = 31
  · subst hi
    rw [Nat.testBit_two_pow_add_eq, Nat.testBit_lt_two_pow h]; rfl
  · rw [decide_eq_false (fun h => hi h.symm), Bool.xor_false]
    by_cases hlt : i < 31
    · rw [Nat.testBit_two_pow_add_gt hlt]
    · have h1 : r < 2 ^ i := by
        have : 2 ^ 31 ≤ 2 ^ i := Nat.pow_le_pow_right (by decide) (show 31 ≤ i by omega)
        have e' : 2 ^ 31 = 2147483648 := by decide
        omega
      have h2 : 2 ^ 31 + r < 2 ^ i := by
        have : 2 ^ 32 ≤ 2 ^ i := Nat.pow_le_pow_right (by decide) (show 32 ≤ i by omega)
        have e : 2 ^ 32 = 4294967296 := by decide
        have e' : 2 ^ 31 = 2147483648 := by decide
        omega
      rw [Nat.testBit_lt_two_pow h1, Nat.testBit_lt_two_pow h2]
theorem xor_xor (b c : Nat) : (b ^^^ c) ^^^ c = b := by rw [Nat.xor_assoc, Nat.xor_self, Nat.xor_zero]
theorem neg_word (s : Bool) (r : Nat) (h : r < 2147483648) : Op.negFloat .f32 (single.word s r) = single.word (!s) r := by
  unfold Op.negFloat
  rw [show FloatKind.f32.format.exponentBits + FloatKind.f32.format.fractionBits = 31 from rfl]
  unfold Format.word
  rw [sw32]
  cases s
  · simp only [Bool.false_eq_true, if_false, Bool.not_false, if_true]
    rw [xor_top r h]
  · simp only [if_true, Bool.not_true, Bool.false_eq_true, if_false]
    have := xor_xor r (2 ^ 31)
    rw [xor_top r h] at this
    exact this
theorem cI_word (s : Bool) (N : Nat) (hN : N < 16777216) : ∃ r, r < 2147483648 ∧ ∀ s, cI single s N = single.word s r := by
  by_cases h0 : N = 0
  · subst h0
    exact ⟨0, by decide, fun s => by unfold cI Format.nearest; rfl⟩
  · refine ⟨rungOf single N, ?_, fun s => nearest_isN good32 s N 0 N h0 hN ⟨by omega, by simp⟩⟩
    have hl : N.log2 ≤ 23 := by
      have := (Nat.log2_lt h0).2 (show N < 2 ^ 24 from hN)
      omega
    unfold rungOf
    rw [show single.fractionBits = 23 from rfl, show single.leastPlace = -149 from rfl, bn32]
    have h1 : N < 2 ^ (N.log2 + 1) := Nat.lt_log2_self
    have h2 : N * 2 ^ (23 - N.log2) < 16777216 := by
      calc N * 2 ^ (23 - N.log2) < 2 ^ (N.log2 + 1) * 2 ^ (23 - N.log2) := Nat.mul_lt_mul_of_pos_right h1 (Nat.two_pow_pos _)
        _ = 2 ^ 24 := by rw [← Nat.pow_add]; congr 1; omega
        _ = 16777216 := by decide
    have h3 : ((N.log2 : Int) - (23 : Nat) - -149).toNat ≤ 149 := by omega
    omega
theorem J32.neg {x : Nat} {z : Int} (h : J32 x z) : J32 (Op.negFloat .f32 x) (-z) := by
  obtain ⟨s, N, rfl, hN, rfl⟩ := h
  obtain ⟨r, hr, hw⟩ := cI_word s N hN
  refine ⟨!s, N, ?_, hN, sval_not s N⟩
  rw [hw s, hw (!s), neg_word s r hr]
theorem neg_lt (b : Nat) (h : b < 4294967296) : Op.negFloat .f32 b < 4294967296 := by
  unfold Op.negFloat
  exact Nat.xor_lt_two_pow (n := 32) h (by decide)
theorem neg_neg (b : Nat) : Op.negFloat .f32 (Op.negFloat .f32 b) = b := xor_xor b _

/-! ### Square roots -/
theorem rootFrom_le (n : Nat) : ∀ todo root, Datum.rootFrom n todo root < root + 2 ^ todo
  | 0, root => by simp [Datum.rootFrom]
  | todo + 1, root => by
    have e : 1 <<< todo = 2 ^ todo := by rw [Nat.shiftLeft_eq, Nat.one_mul]
    have e2 : 2 ^ (todo + 1) = 2 ^ todo + 2 ^ todo := by rw [Nat.pow_succ]; omega
    have hp := Nat.two_pow_pos todo
    simp only [Datum.rootFrom]
    rw [e]
    split
    · have := rootFrom_le n todo (root + 2 ^ todo); omega
    · have := rootFrom_le n todo root; omega
/-- The square root of a whole number of at most 2^17, and that it can be made narrow. -/
theorem root_small (P : Nat) (hP : P < 131072) : ∃ r q, double.sqrt (cI double false P) = some r ∧ floatToFloatBits .f64 r .f32 = some q ∧ q < 4294967296 := by
  obtain ⟨m, i, hr, hi1, hm⟩ := read_cI good64 false P (by show P < 9007199254740992; omega)
  have hlow : i ≤ 0 := hi1
  suffices h : ∃ mag place, ((double.read (cI double false P)).root (double.fractionBits + 2)) = some (.number false mag place) ∧ Le mag place 9 by
    obtain ⟨mag, place, h1, h2⟩ := h
    obtain ⟨m', e', h3, h4⟩ := nearest_le good64 false mag place 9 h2 (by decide) (by decide)
    obtain ⟨m'', e'', h5, h6⟩ := nearest_le good32 false m' e' 9 h4 (by decide) (by decide)
    refine ⟨double.nearest false mag place, single.nearest false m' e', ?_, ?_, ?_⟩
    · unfold Format.sqrt
      rw [h1]; rfl
    · unfold floatToFloatBits
      rw [if_neg (by decide), show FloatKind.f64.decode (double.nearest false mag place) = double.read (double.nearest false mag place) from rfl, h3]
      dsimp only
      rw [show FloatKind.f32.encode (.number false m' e') = single.nearest false m' e' from rfl, show FloatKind.f32.decode (single.nearest false m' e') = single.read (single.nearest false m' e') from rfl, h5]
      rfl
    · exact single.nearest_lt false m' e'
  rw [hr]
  simp only [Datum.root]
  by_cases h0 : m = 0
  · rw [if_pos h0]
    exact ⟨m, i, rfl, Or.inl h0⟩
  · rw [if_neg h0]
    simp only [Bool.false_eq_true, if_false]
    have hP0 : P ≠ 0 := by
      rintro rfl
      apply h0; rw [hm]; simp
    have hPl : P.log2 ≤ 16 := by
      have := (Nat.log2_lt hP0).2 (show P < 2 ^ 17 from hP)
      omega
    have hml : m.log2 = P.log2 + (-i).toNat := by rw [hm, log2_mul_pow P _ hP0]
    refine ⟨_, _, rfl, ?_⟩
    rw [show 2 * (double.fractionBits + 2) = 108 from rfl]
    generalize hmore : 108 - m.log2 = more
    have hpar : ((i - (more : Int)) % 2).toNat ≤ 1 := by omega
    generalize hmm : more + ((i - (more : Int)) % 2).toNat = more'
    generalize hnn : m <<< more' = n
    have hnl : n.log2 = m.log2 + more' := by rw [← hnn, Nat.shiftLeft_eq, log2_mul_pow m _ h0]
    have hroot := rootFrom_le n (n.log2 / 2 + 1) 0
    have hsize : 2 * Datum.rootFrom n (n.log2 / 2 + 1) 0 + (Datum.rootFrom n (n.log2 / 2 + 1) 0 * Datum.rootFrom n (n.log2 / 2 + 1) 0 != n).toNat ≤ 2 ^ (n.log2 / 2 + 2) := by
      have h1 := Bool.toNat_le (Datum.rootFrom n (n.log2 / 2 + 1) 0 * Datum.rootFrom n (n.log2 / 2 + 1) 0 != n)
      have h2 : 2 ^ (n.log2 / 2 + 2) = 2 * 2 ^ (n.log2 / 2 + 1) := by rw [← Nat.pow_succ']
      omega
    right
    refine ⟨by omega, Nat.le_trans hsize (Nat.pow_le_pow_right (by decide) ?_)⟩
    omega
end Go.Proofs.YticfmlohkfoccaaGreatDoor
