/- A 32-bit float made wide and narrow again is the float that it was, NaNs apart; plain, and what a conversion gives in every case. -/
import Derived.Test.YticfmlohkfoccaaGreatDoorH43
import Derived.Test.YticfmlohkfoccaaGreatDoorH31
set_option linter.unusedVariables false
set_option linter.unusedSimpArgs false
namespace Go.Proofs.YticfmlohkfoccaaGreatDoor
open Ieee

theorem word32 (b : Nat) (h : b < 4294967296) : b = single.word (b / single.signWeight % 2 == 1) (b % single.signWeight) := by
  unfold Format.word
  rw [sw32]
  have h1 : b / 2147483648 = 0 ∨ b / 2147483648 = 1 := by omega
  rcases h1 with h1 | h1
  · rw [h1]; simp; omega
  · rw [h1]; simp; omega
/-- The number of a 64-bit word that is made of a 32-bit one. -/
theorem read_wide (s : Bool) (m : Nat) (e : Int) (h0 : m ≠ 0) (hm : m < 16777216) (h1 : -149 ≤ e) (h2 : e ≤ 104) : double.read (double.nearest s m e) = .number s (m * 2 ^ (52 - m.log2)) (e - (52 - m.log2 : Nat)) := by
  have hlog : m.log2 < 24 := (Nat.log2_lt h0).2 hm
  have hlt : m < 2 ^ (m.log2 + 1) := Nat.lt_log2_self
  have hX1 : m * 2 ^ (52 - m.log2) < 9007199254740992 := by
    calc m * 2 ^ (52 - m.log2) < 2 ^ (m.log2 + 1) * 2 ^ (52 - m.log2) := Nat.mul_lt_mul_of_pos_right hlt (Nat.two_pow_pos _)
      _ = 2 ^ 53 := by rw [← Nat.pow_add]; congr 1; omega
      _ = 9007199254740992 := by decide
  have hX0 : 4503599627370496 ≤ m * 2 ^ (52 - m.log2) := by
    calc 4503599627370496 = 2 ^ 52 := by decide
      _ = 2 ^ m.log2 * 2 ^ (52 - m.log2) := by rw [← Nat.pow_add]; congr 1; omega
      _ ≤ m * 2 ^ (52 - m.log2) := Nat.mul_le_mul_right _ (Nat.log2_self_le h0)
  have hn : double.nearest s m e = double.word s ((e + (m.log2 : Int) - 52 + 1074).toNat * 4503599627370496 + m * 2 ^ (52 - m.log2)) := by
    unfold Format.nearest
    rw [if_neg h0]
    dsimp only
    rw [show double.leastPlace = -1074 from rfl, show double.fractionBits = 52 from rfl]
    rw [show max (e + (m.log2 : Int) - (52 : Nat)) (-1074) = e + (m.log2 : Int) - 52 from by omega]
    rw [show (e + (m.log2 : Int) - 52 - e).toNat = 0 from by omega, show (e - (e + (m.log2 : Int) - 52)).toNat = 52 - m.log2 from by omega, cut_none, Nat.shiftLeft_eq, bn64, if64]
    congr 1
    rw [show e + (m.log2 : Int) - 52 - -1074 = e + (m.log2 : Int) - 52 + 1074 from by omega]
    apply Nat.min_eq_left
    have : (e + (m.log2 : Int) - 52 + 1074).toNat ≤ 1149 := by omega
    omega
  rw [hn]
  generalize hX : m * 2 ^ (52 - m.log2) = X at *
  generalize hT : (e + (m.log2 : Int) - 52 + 1074).toNat = T at *
  have hTl : T ≤ 1149 := by omega
  have hr : T * 4503599627370496 + X < 9223372036854775808 := by omega
  have h3 : double.word s (T * 4503599627370496 + X) % double.signWeight = T * 4503599627370496 + X := by
    unfold Format.word; rw [sw64]; cases s <;> simp <;> omega
  have h4 : (double.word s (T * 4503599627370496 + X) / double.signWeight % 2 == 1) = s := by
    unfold Format.word; rw [sw64]; cases s <;> simp <;> omega
  unfold Format.read
  dsimp only
  rw [h3, h4, bn64, if64, if_neg (by omega), if_pos (by omega)]
  have h5 : (T * 4503599627370496 + X) % 4503599627370496 = X - 4503599627370496 := by omega
  have h6 : (T * 4503599627370496 + X) / 4503599627370496 = T + 1 := by omega
  rw [h5, h6, show double.leastPlace = -1074 from rfl]
  rw [show 4503599627370496 + (X - 4503599627370496) = X from by omega, show (-1074 : Int) + ((T + 1 - 1 : Nat) : Int) = e - ((52 - m.log2 : Nat) : Int) from by omega]
/-- A finite float, made of its own number with zeros behind, is itself. -/
theorem nearest_back (b : Nat) (hb : b < 4294967296) (hf : b % 2147483648 < 2139095040) (s : Bool) (m : Nat) (e : Int) (hr : single.read b = .number s m e) (d : Nat) : single.nearest s (m * 2 ^ d) (e - d) = b := by
  have hw := word32 b hb
  unfold Format.read at hr
  dsimp only at hr
  rw [sw32] at hw hr
  rw [bn32, if32] at hr
  have hfin : ∀ (s : Bool) (r m : Nat) (e : Int), m ≠ 0 → r < 2139095040 → e + m.log2 - 23 ≤ 104 → (∃ l : Int, max (e + (m.log2 : Int) - 23) (-149) = l ∧ l = e ∧ (l + 149).toNat * 8388608 + m = r) → single.nearest s (m * 2 ^ d) (e - d) = single.word s r := by
    intro s r m e h0 hrl h1 ⟨l, hl, hle, hrr⟩
    have hm0 : m * 2 ^ d ≠ 0 := Nat.mul_ne_zero h0 (Nat.ne_of_gt (Nat.two_pow_pos _))
    unfold Format.nearest
    rw [if_neg hm0]
    dsimp only
    rw [log2_mul_pow m d h0, show single.leastPlace = -149 from rfl, show single.fractionBits = 23 from rfl]
    rw [show max (e - (d : Int) + ((m.log2 + d : Nat) : Int) - (23 : Nat)) (-149) = l from by omega, hle]
    rw [show (e - (d : Int) - e).toNat = 0 from by omega, show (e - (e - (d : Int))).toNat = d from by omega, Nat.shiftLeft_zero, cut_exact s m d h0, bn32, if32]
    congr 1
    rw [show e - -149 = e + 149 from by omega, ← hle, hrr]
    exact Nat.min_eq_left (by omega)
  by_cases hsub : b % 2147483648 < 8388608
  · rw [if_pos hsub] at hr
    injection hr with h1 h2 h3
    rw [show single.leastPlace = -149 from rfl] at h3
    subst h1; subst h2; subst h3
    by_cases h0 : b % 2147483648 = 0
    · rw [h0, Nat.zero_mul]
      conv => rhs; rw [hw, h0]
      unfold Format.nearest
      rfl
    · have hlog : (b % 2147483648).log2 ≤ 22 := by
        have := (Nat.log2_lt h0).2 (show b % 2147483648 < 2 ^ 23 from hsub)
        omega
      conv => rhs; rw [hw]
      exact hfin _ _ _ _ h0 hf (by omega) ⟨-149, by omega, rfl, by omega⟩
  · rw [if_neg hsub, if_pos hf] at hr
    injection hr with h1 h2 h3
    rw [show single.leastPlace = -149 from rfl] at h3
    have hlog : m.log2 = 23 := by
      have h0 : m ≠ 0 := by omega
      apply Nat.le_antisymm
      · have := (Nat.log2_lt h0).2 (show m < 2 ^ 24 by omega)
        omega
      · exact (Nat.le_log2 h0).2 (by show 8388608 ≤ m; omega)
    conv => rhs; rw [hw]
    rw [h1]
    exact hfin _ _ _ _ (by omega) hf (by omega) ⟨e, by omega, rfl, by omega⟩
/-- Making narrow what was made wide. -/
theorem narrow_wide (b : Nat) (hb : b < 4294967296) (hn : nan32 b = false) : ∃ u, floatToFloatBits .f32 b .f64 = some u ∧ floatToFloatBits .f64 u .f32 = some b := by
  unfold nan32 at hn
  rw [decide_eq_false_iff_not] at hn
  by_cases hi : b % 2147483648 = 2139095040
  · have hw := word32 b hb
    rw [sw32, hi] at hw
    rw [hw]
    cases (b / 2147483648 % 2 == 1)
    · exact ⟨9218868437227405312, by decide, by decide⟩
    · exact ⟨18442240474082181120, by decide, by decide⟩
  · have hf : fin b = true := by rw [fin_iff, decide_eq_true_iff]; omega
    obtain ⟨s, m, e, hr, h1, h2, h3⟩ := read_bound b hf
    refine ⟨wide b, (wide_read b hf).2, ?_⟩
    have hw : wide b = double.nearest s m e := by unfold wide; rw [hr]; rfl
    have hback : ∀ d : Nat, single.nearest s (m * 2 ^ d) (e - d) = b := nearest_back b hb (by omega) s m e hr
    have hbr : FloatKind.f32.decode b = .number s m e := hr
    unfold floatToFloatBits
    rw [if_neg (by decide), show FloatKind.f64.decode (wide b) = double.read (wide b) from rfl, hw]
    by_cases h0 : m = 0
    · subst h0
      have hz : double.nearest s 0 e = double.word s 0 := by unfold Format.nearest; rfl
      have hz2 : double.read (double.word s 0) = .number s 0 (-1074) := by cases s <;> rfl
      rw [hz, hz2]
      dsimp only
      have he : FloatKind.f32.encode (.number s 0 (-1074)) = b := by
        rw [← hback 0]
        show single.nearest s 0 (-1074) = _
        unfold Format.nearest
        simp
      rw [he, hbr]
      rfl
    · rw [read_wide s m e h0 h1 h2 h3]
      dsimp only
      have he : FloatKind.f32.encode (.number s (m * 2 ^ (52 - m.log2)) (e - (52 - m.log2 : Nat))) = b := hback _
      rw [he, hbr]
      rfl
end Go.Proofs.YticfmlohkfoccaaGreatDoor
