/- Floats of small whole numbers: their sums, products and quotients are exact; plain. -/
import Derived.Test.YticfmlohkfoccaaGreatDoorH15a
set_option linter.unusedVariables false
set_option linter.unusedSimpArgs false
namespace Go.Proofs.YticfmlohkfoccaaGreatDoor
open Ieee

/-- What a format must have. -/
structure Good (f : Format) : Prop where
  least : f.leastPlace ≤ -(f.fractionBits : Int)
  room : ((-f.leastPlace).toNat + 2) * f.binade ≤ f.infRung
theorem good32 : Good single := ⟨by decide, by decide⟩
theorem good64 : Good double := ⟨by decide, by decide⟩
/-- mag * 2 ^ place is the whole number N. -/
def IsN (mag : Nat) (place : Int) (N : Nat) : Prop := place ≤ 0 ∧ mag = N * 2 ^ (-place).toNat
theorem log2_mul_pow (N k : Nat) (h : N ≠ 0) : (N * 2 ^ k).log2 = N.log2 + k := by
  have h0 : N * 2 ^ k ≠ 0 := Nat.mul_ne_zero h (Nat.ne_of_gt (Nat.two_pow_pos _))
  apply Nat.le_antisymm
  · apply Nat.lt_succ_iff.1
    rw [Nat.log2_lt h0]
    have h1 : N < 2 ^ (N.log2 + 1) := Nat.lt_log2_self
    calc N * 2 ^ k < 2 ^ (N.log2 + 1) * 2 ^ k := Nat.mul_lt_mul_of_pos_right h1 (Nat.two_pow_pos _)
      _ = 2 ^ (N.log2 + k + 1) := by rw [← Nat.pow_add]; congr 1; omega
  · rw [Nat.le_log2 h0, Nat.pow_add]
    exact Nat.mul_le_mul_right _ (Nat.log2_self_le h)
theorem cut_exact (s : Bool) (X d : Nat) (hX : X ≠ 0) : Toward.even.cut s (X * 2 ^ d) d = X := by
  have hl := log2_mul_pow X d hX
  have hm : min d ((X * 2 ^ d).log2 + 2) = d := by omega
  unfold Toward.cut
  rw [hm]
  have hg : (1 <<< d) = 2 ^ d := by rw [Nat.shiftLeft_eq, Nat.one_mul]
  rw [hg]
  have hp : 0 < 2 ^ d := Nat.two_pow_pos d
  simp only [Nat.mul_div_cancel _ hp, Nat.mul_mod_left, Nat.mul_zero]
  have h1 : ¬ (2 ^ d < 0) := by omega
  have h2 : (2 ^ d == 0) = false := by simp
  simp [h2]
/-- The rung of a whole number. -/
def rungOf (f : Format) (N : Nat) : Nat := ((N.log2 : Int) - f.fractionBits - f.leastPlace).toNat * f.binade + N * 2 ^ (f.fractionBits - N.log2)
theorem nearest_isN {f : Format} (hg : Good f) (s : Bool) (mag : Nat) (place : Int) (N : Nat) (hN : N ≠ 0) (hlt : N < 2 ^ (f.fractionBits + 1)) (h : IsN mag place N) : f.nearest s mag place = f.word s (rungOf f N) := by
  obtain ⟨hp, rfl⟩ := h
  have hlog : N.log2 ≤ f.fractionBits := by
    have := (Nat.log2_lt hN).2 hlt
    omega
  have hm0 : N * 2 ^ (-place).toNat ≠ 0 := Nat.mul_ne_zero hN (Nat.ne_of_gt (Nat.two_pow_pos _))
  unfold Format.nearest
  rw [if_neg hm0]
  dsimp only
  rw [log2_mul_pow N _ hN]
  have hgl := hg.least
  have hlast : max (place + ((N.log2 + (-place).toNat : Nat) : Int) - (f.fractionBits : Int)) f.leastPlace = (N.log2 : Int) - f.fractionBits := by omega
  rw [hlast]
  have hkept : Toward.even.cut s ((N * 2 ^ (-place).toNat) <<< (place - ((N.log2 : Int) - f.fractionBits)).toNat) (((N.log2 : Int) - f.fractionBits) - place).toNat = N * 2 ^ (f.fractionBits - N.log2) := by
    by_cases hc : (N.log2 : Int) - f.fractionBits ≤ place
    · have h1 : (((N.log2 : Int) - f.fractionBits) - place).toNat = 0 := by omega
      rw [h1, cut_none, Nat.shiftLeft_eq, Nat.mul_assoc, ← Nat.pow_add]
      congr 2
      omega
    · have h1 : (place - ((N.log2 : Int) - f.fractionBits)).toNat = 0 := by omega
      rw [h1]
      have h2 : N * 2 ^ (-place).toNat = (N * 2 ^ (f.fractionBits - N.log2)) * 2 ^ (((N.log2 : Int) - f.fractionBits) - place).toNat := by
        rw [Nat.mul_assoc, ← Nat.pow_add]
        congr 2
        omega
      rw [Nat.shiftLeft_zero, h2]
      exact cut_exact s _ _ (Nat.mul_ne_zero hN (Nat.ne_of_gt (Nat.two_pow_pos _)))
  rw [hkept]
  congr 1
  show min (rungOf f N) f.infRung = rungOf f N
  apply Nat.min_eq_left
  refine Nat.le_trans ?_ hg.room
  unfold rungOf
  have hX : N * 2 ^ (f.fractionBits - N.log2) < 2 * f.binade := by
    have h1 : N < 2 ^ (N.log2 + 1) := Nat.lt_log2_self
    calc N * 2 ^ (f.fractionBits - N.log2) < 2 ^ (N.log2 + 1) * 2 ^ (f.fractionBits - N.log2) := Nat.mul_lt_mul_of_pos_right h1 (Nat.two_pow_pos _)
      _ = 2 ^ (f.fractionBits + 1) := by rw [← Nat.pow_add]; congr 1; omega
      _ = 2 * f.binade := by unfold Format.binade; rw [Nat.pow_succ, Nat.mul_comm]
  have ht : ((N.log2 : Int) - f.fractionBits - f.leastPlace).toNat ≤ (-f.leastPlace).toNat := by omega
  have := Nat.mul_le_mul_right f.binade ht
  rw [Nat.add_mul]
  omega
/-- The float of a whole number, with a sign. -/
def cI (f : Format) (s : Bool) (N : Nat) : Nat := f.nearest s N 0
theorem cI_nearest {f : Format} (hg : Good f) (s : Bool) (mag : Nat) (place : Int) (N : Nat) (hlt : N < 2 ^ (f.fractionBits + 1)) (h : IsN mag place N) : f.nearest s mag place = cI f s N := by
  by_cases hN : N = 0
  · subst hN
    have h0 : mag = 0 := by rw [h.2]; simp
    subst h0
    unfold cI Format.nearest
    rfl
  · rw [nearest_isN hg s mag place N hN hlt h]
    unfold cI
    rw [nearest_isN hg s N 0 N hN hlt ⟨by omega, by simp⟩]
theorem read_cI {f : Format} (hg : Good f) (s : Bool) (N : Nat) (hlt : N < 2 ^ (f.fractionBits + 1)) : ∃ m e, f.read (cI f s N) = .number s m e ∧ IsN m e N := by
  have hsw := f.infRung_lt
  have hsw2 := f.infRung_add_binade
  have hb : 0 < f.binade := Nat.two_pow_pos _
  have hw : ∀ r, r < f.signWeight → (f.word s r % f.signWeight = r ∧ (f.word s r / f.signWeight % 2 == 1) = s) := by
    intro r hr
    unfold Format.word
    cases s
    · simp only [Bool.false_eq_true, if_false]
      exact ⟨Nat.mod_eq_of_lt hr, by rw [Nat.div_eq_of_lt hr]; rfl⟩
    · simp only [if_true]
      refine ⟨by rw [Nat.add_mod_left, Nat.mod_eq_of_lt hr], ?_⟩
      rw [Nat.add_div_left _ (by omega), Nat.div_eq_of_lt hr]; rfl
  by_cases hN : N = 0
  · subst hN
    have hc : cI f s 0 = f.word s 0 := by unfold cI Format.nearest; rfl
    obtain ⟨h1, h2⟩ := hw 0 (by omega)
    refine ⟨0, f.leastPlace, ?_, by have := hg.least; omega, by simp⟩
    rw [hc]
    unfold Format.read
    dsimp only
    rw [h1, h2, if_pos hb]
  · have hlog : N.log2 ≤ f.fractionBits := by
      have := (Nat.log2_lt hN).2 hlt
      omega
    have hgl := hg.least
    have hX1 : N * 2 ^ (f.fractionBits - N.log2) < 2 * f.binade := by
      have h1 : N < 2 ^ (N.log2 + 1) := Nat.lt_log2_self
      calc N * 2 ^ (f.fractionBits - N.log2) < 2 ^ (N.log2 + 1) * 2 ^ (f.fractionBits - N.log2) := Nat.mul_lt_mul_of_pos_right h1 (Nat.two_pow_pos _)
        _ = 2 ^ (f.fractionBits + 1) := by rw [← Nat.pow_add]; congr 1; omega
        _ = 2 * f.binade := by unfold Format.binade; rw [Nat.pow_succ, Nat.mul_comm]
    have hX0 : f.binade ≤ N * 2 ^ (f.fractionBits - N.log2) := by
      have h1 := Nat.log2_self_le hN
      calc f.binade = 2 ^ N.log2 * 2 ^ (f.fractionBits - N.log2) := by unfold Format.binade; rw [← Nat.pow_add]; congr 1; omega
        _ ≤ N * 2 ^ (f.fractionBits - N.log2) := Nat.mul_le_mul_right _ h1
    have hc : cI f s N = f.word s (rungOf f N) := nearest_isN hg s N 0 N hN hlt ⟨by omega, by simp⟩
    have ht : ((N.log2 : Int) - f.fractionBits - f.leastPlace).toNat ≤ (-f.leastPlace).toNat := by omega
    have hroom := hg.room
    have hr : rungOf f N < f.infRung := by
      unfold rungOf
      have := Nat.mul_le_mul_right f.binade ht
      rw [Nat.add_mul] at hroom
      omega
    obtain ⟨h1, h2⟩ := hw (rungOf f N) (by omega)
    have hge : ¬ rungOf f N < f.binade := by unfold rungOf; omega
    obtain ⟨Y, hY⟩ : ∃ Y, N * 2 ^ (f.fractionBits - N.log2) = f.binade + Y := ⟨N * 2 ^ (f.fractionBits - N.log2) - f.binade, by omega⟩
    have hYl : Y < f.binade := by omega
    have hmod : rungOf f N % f.binade = Y := by
      unfold rungOf
      rw [hY, show ((N.log2 : Int) - f.fractionBits - f.leastPlace).toNat * f.binade + (f.binade + Y) = Y + f.binade * (((N.log2 : Int) - f.fractionBits - f.leastPlace).toNat + 1) from by rw [Nat.mul_add, Nat.mul_comm f.binade]; omega, Nat.add_mul_mod_self_left, Nat.mod_eq_of_lt hYl]
    have hdiv : rungOf f N / f.binade = ((N.log2 : Int) - f.fractionBits - f.leastPlace).toNat + 1 := by
      unfold rungOf
      rw [hY, show ((N.log2 : Int) - f.fractionBits - f.leastPlace).toNat * f.binade + (f.binade + Y) = Y + f.binade * (((N.log2 : Int) - f.fractionBits - f.leastPlace).toNat + 1) from by rw [Nat.mul_add, Nat.mul_comm f.binade]; omega, Nat.add_mul_div_left _ _ hb, Nat.div_eq_of_lt hYl, Nat.zero_add]
    refine ⟨N * 2 ^ (f.fractionBits - N.log2), (N.log2 : Int) - f.fractionBits, ?_, by omega, by congr 2; omega⟩
    rw [hc]
    unfold Format.read
    dsimp only
    rw [h1, h2, if_neg hge, if_pos hr, hmod, hdiv, hY]
    congr 1
    omega
end Go.Proofs.YticfmlohkfoccaaGreatDoor
