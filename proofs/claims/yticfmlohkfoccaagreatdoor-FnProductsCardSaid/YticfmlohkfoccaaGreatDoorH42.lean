/- Floats within bounds, the opposite of a float, and square roots of small whole numbers; plain. -/
import Derived.Test.YticfmlohkfoccaaGreatDoorH41
set_option linter.unusedVariables false
set_option linter.unusedSimpArgs false
namespace Go.Proofs.YticfmlohkfoccaaGreatDoor
open Ieee

/-- mag * 2 ^ place is at most 2 ^ k. -/
def Le (mag : Nat) (place k : Int) : Prop := mag = 0 ∨ (place ≤ k ∧ mag ≤ 2 ^ (k - place).toNat)
theorem cut_le (s : Bool) (n d t : Nat) (h : n ≤ 2 ^ (t + d)) : Toward.even.cut s n d ≤ 2 ^ t := by
  have hp : ∀ x, 0 < 2 ^ x := fun x => Nat.two_pow_pos x
  unfold Toward.cut
  dsimp only
  have hg : ∀ x, 1 <<< x = 2 ^ x := fun x => by rw [Nat.shiftLeft_eq, Nat.one_mul]
  rw [hg]
  by_cases hd : d ≤ n.log2 + 2
  · rw [Nat.min_eq_left hd]
    have h1 : n / 2 ^ d ≤ 2 ^ t := by
      apply Nat.div_le_of_le_mul
      rw [← Nat.pow_add, Nat.add_comm]; exact h
    by_cases he : n / 2 ^ d = 2 ^ t
    · have h2 : n = 2 ^ (t + d) := by
        have h3 := Nat.div_add_mod n (2 ^ d)
        rw [he] at h3
        have h4 : 2 ^ d * 2 ^ t = 2 ^ (t + d) := by rw [← Nat.pow_add, Nat.add_comm]
        omega
      have h5 : n % 2 ^ d = 0 := by rw [h2, Nat.pow_add]; exact Nat.mul_mod_left _ _
      rw [he, h5]
      have h6 : ¬ (2 ^ d < 2 * 0) := by omega
      have h7 : (2 ^ d == 2 * 0) = false := by simp
      simp [h7]
    · have h2 : n / 2 ^ d + 1 ≤ 2 ^ t := by omega
      refine Nat.le_trans (Nat.add_le_add_left ?_ _) h2
      exact Bool.toNat_le _
  · have hlt : n < 2 ^ (n.log2 + 1) := Nat.lt_log2_self
    rw [Nat.min_eq_right (by omega)]
    have hlt2 : 2 * n < 2 ^ (n.log2 + 2) := by
      have : 2 ^ (n.log2 + 2) = 2 * 2 ^ (n.log2 + 1) := by rw [← Nat.pow_succ']
      omega
    have h0 : n / 2 ^ (n.log2 + 2) = 0 := Nat.div_eq_of_lt (by omega)
    have h1 : n % 2 ^ (n.log2 + 2) = n := Nat.mod_eq_of_lt (by omega)
    rw [h0, h1]
    have h2 : ¬ (2 ^ (n.log2 + 2) < 2 * n) := by omega
    have h3 : (2 ^ (n.log2 + 2) == 2 * n) = false := by
      rw [beq_eq_false_iff_ne]; omega
    rw [h3, decide_eq_false h2]
    have := hp t
    simp
theorem pow_log (mag : Nat) (h : mag ≠ 0) (t : Nat) (hle : mag ≤ 2 ^ t) : mag.log2 ≤ t := by
  have : mag < 2 ^ (t + 1) := by
    have : 2 ^ t < 2 ^ (t + 1) := Nat.pow_lt_pow_right (by decide) (by omega)
    omega
  have := (Nat.log2_lt h).2 this
  omega
/-- Rounding keeps a bound that is a power of two. -/
theorem nearest_le {f : Format} (hg : Good f) (s : Bool) (mag : Nat) (place k : Int) (h : Le mag place k) (hk : f.leastPlace + f.fractionBits ≤ k) (hroom : ((k - f.fractionBits - f.leastPlace).toNat + 1) * f.binade < f.infRung) :
    ∃ m e, f.read (f.nearest s mag place) = .number s m e ∧ Le m e k := by
  have hb : 0 < f.binade := Nat.two_pow_pos _
  have hsw := f.infRung_lt
  have hrung : ∃ r, r ≤ ((k - f.fractionBits - f.leastPlace).toNat + 1) * f.binade ∧ f.nearest s mag place = f.word s r := by
    rcases h with rfl | ⟨hp, hm⟩
    · exact ⟨0, by omega, by unfold Format.nearest; rfl⟩
    · by_cases h0 : mag = 0
      · exact ⟨0, by omega, by unfold Format.nearest; rw [if_pos h0]⟩
      · have hlog := pow_log mag h0 _ hm
        have hlt : mag < 2 ^ (mag.log2 + 1) := Nat.lt_log2_self
        unfold Format.nearest
        rw [if_neg h0]
        dsimp only
        refine ⟨_, ?_, rfl⟩
        refine Nat.le_trans (Nat.min_le_left _ _) ?_
        by_cases hsub : place + mag.log2 - f.fractionBits ≤ f.leastPlace
        · rw [show max (place + (mag.log2 : Int) - f.fractionBits) f.leastPlace = f.leastPlace from by omega]
          rw [show (f.leastPlace - f.leastPlace).toNat = 0 from by omega, Nat.zero_mul, Nat.zero_add]
          have hc : Toward.even.cut s (mag <<< (place - f.leastPlace).toNat) (f.leastPlace - place).toNat ≤ 2 ^ (f.fractionBits + 1) := by
            apply cut_le
            rw [Nat.shiftLeft_eq]
            calc mag * 2 ^ (place - f.leastPlace).toNat ≤ 2 ^ (mag.log2 + 1) * 2 ^ (place - f.leastPlace).toNat := Nat.mul_le_mul_right _ (Nat.le_of_lt hlt)
              _ = 2 ^ (mag.log2 + 1 + (place - f.leastPlace).toNat) := by rw [← Nat.pow_add]
              _ ≤ 2 ^ (f.fractionBits + 1 + (f.leastPlace - place).toNat) := Nat.pow_le_pow_right (by decide) (by omega)
          by_cases hkk : k = f.leastPlace + f.fractionBits
          · have hc2 : Toward.even.cut s (mag <<< (place - f.leastPlace).toNat) (f.leastPlace - place).toNat ≤ 2 ^ f.fractionBits := by
              apply cut_le
              rw [Nat.shiftLeft_eq]
              calc mag * 2 ^ (place - f.leastPlace).toNat ≤ 2 ^ (k - place).toNat * 2 ^ (place - f.leastPlace).toNat := Nat.mul_le_mul_right _ hm
                _ = 2 ^ ((k - place).toNat + (place - f.leastPlace).toNat) := by rw [← Nat.pow_add]
                _ ≤ 2 ^ (f.fractionBits + (f.leastPlace - place).toNat) := Nat.pow_le_pow_right (by decide) (by omega)
            refine Nat.le_trans hc2 ?_
            show f.binade ≤ _
            exact Nat.le_mul_of_pos_left _ (by omega)
          · refine Nat.le_trans hc ?_
            have e : 2 ^ (f.fractionBits + 1) = 2 * f.binade := by unfold Format.binade; rw [Nat.pow_succ, Nat.mul_comm]
            rw [e]
            exact Nat.mul_le_mul_right _ (by omega)
        · rw [show max (place + (mag.log2 : Int) - f.fractionBits) f.leastPlace = place + (mag.log2 : Int) - f.fractionBits from by omega]
          by_cases htop : place + (mag.log2 : Int) = k
          · have hmag : mag ≤ 2 ^ mag.log2 := by
              rw [show (k - place).toNat = mag.log2 from by omega] at hm
              exact hm
            have hc : Toward.even.cut s (mag <<< (place - (place + (mag.log2 : Int) - f.fractionBits)).toNat) ((place + (mag.log2 : Int) - f.fractionBits) - place).toNat ≤ 2 ^ f.fractionBits := by
              apply cut_le
              rw [Nat.shiftLeft_eq]
              calc mag * 2 ^ (place - (place + (mag.log2 : Int) - f.fractionBits)).toNat ≤ 2 ^ mag.log2 * 2 ^ (place - (place + (mag.log2 : Int) - f.fractionBits)).toNat := Nat.mul_le_mul_right _ hmag
                _ = 2 ^ (mag.log2 + (place - (place + (mag.log2 : Int) - f.fractionBits)).toNat) := by rw [← Nat.pow_add]
                _ ≤ 2 ^ (f.fractionBits + ((place + (mag.log2 : Int) - f.fractionBits) - place).toNat) := Nat.pow_le_pow_right (by decide) (by omega)
            rw [show (place + (mag.log2 : Int) - f.fractionBits - f.leastPlace).toNat = (k - f.fractionBits - f.leastPlace).toNat from by omega, Nat.add_mul, Nat.one_mul]
            exact Nat.add_le_add_left hc _
          · have hc : Toward.even.cut s (mag <<< (place - (place + (mag.log2 : Int) - f.fractionBits)).toNat) ((place + (mag.log2 : Int) - f.fractionBits) - place).toNat ≤ 2 ^ (f.fractionBits + 1) := by
              apply cut_le
              rw [Nat.shiftLeft_eq]
              calc mag * 2 ^ (place - (place + (mag.log2 : Int) - f.fractionBits)).toNat ≤ 2 ^ (mag.log2 + 1) * 2 ^ (place - (place + (mag.log2 : Int) - f.fractionBits)).toNat := Nat.mul_le_mul_right _ (Nat.le_of_lt hlt)
                _ = 2 ^ (mag.log2 + 1 + (place - (place + (mag.log2 : Int) - f.fractionBits)).toNat) := by rw [← Nat.pow_add]
                _ ≤ 2 ^ (f.fractionBits + 1 + ((place + (mag.log2 : Int) - f.fractionBits) - place).toNat) := Nat.pow_le_pow_right (by decide) (by omega)
            have e : 2 ^ (f.fractionBits + 1) = 2 * f.binade := by unfold Format.binade; rw [Nat.pow_succ, Nat.mul_comm]
            rw [e] at hc
            have h1 : (place + (mag.log2 : Int) - f.fractionBits - f.leastPlace).toNat + 2 ≤ (k - f.fractionBits - f.leastPlace).toNat + 1 := by omega
            have h2 := Nat.mul_le_mul_right f.binade h1
            rw [Nat.add_mul] at h2
            omega
  obtain ⟨r, hr, hw⟩ := hrung
  rw [hw]
  have hlt : r < f.infRung := Nat.lt_of_le_of_lt hr hroom
  have h1 : f.word s r % f.signWeight = r := by
    unfold Format.word
    cases s
    · simp only [Bool.false_eq_true, if_false]; exact Nat.mod_eq_of_lt (by omega)
    · simp only [if_true]; rw [Nat.add_mod_left, Nat.mod_eq_of_lt (by omega)]
  have h2 : (f.word s r / f.signWeight % 2 == 1) = s := by
    unfold Format.word
    cases s
    · simp only [Bool.false_eq_true, if_false]; rw [Nat.div_eq_of_lt (by omega)]; rfl
    · simp only [if_true]; rw [Nat.add_div_left _ (by omega), Nat.div_eq_of_lt (by omega)]; rfl
  unfold Format.read
  dsimp only
  rw [h1, h2]
  by_cases hs : r < f.binade
  · rw [if_pos hs]
    refine ⟨_, _, rfl, Or.inr ⟨by omega, ?_⟩⟩
    refine Nat.le_trans (Nat.le_of_lt hs) ?_
    unfold Format.binade
    exact Nat.pow_le_pow_right (by decide) (by omega)
  · rw [if_neg hs, if_pos hlt]
    have hq : r / f.binade ≤ (k - f.fractionBits - f.leastPlace).toNat + 1 := by
      apply Nat.div_le_of_le_mul
      rw [Nat.mul_comm]; exact hr
    have hq1 : 1 ≤ r / f.binade := (Nat.le_div_iff_mul_le hb).2 (by omega)
    have hmod : r % f.binade < f.binade := Nat.mod_lt _ hb
    refine ⟨_, _, rfl, Or.inr ⟨by omega, ?_⟩⟩
    by_cases htop : r / f.binade = (k - f.fractionBits - f.leastPlace).toNat + 1
    · have hz : r % f.binade = 0 := by
        have h3 := Nat.div_add_mod r f.binade
        rw [htop, Nat.mul_comm] at h3
        omega
      rw [hz, Nat.add_zero, htop]
      unfold Format.binade
      exact Nat.pow_le_pow_right (by decide) (by omega)
    · have h3 : f.binade + r % f.binade ≤ 2 ^ (f.fractionBits + 1) := by
        have e : 2 ^ (f.fractionBits + 1) = 2 * f.binade := by unfold Format.binade; rw [Nat.pow_succ, Nat.mul_comm]
        omega
      refine Nat.le_trans h3 (Nat.pow_le_pow_right (by decide) (by omega))
end Go.Proofs.YticfmlohkfoccaaGreatDoor
