/- Numbers of 32 bits made wide: a finite one stays finite and equals itself; plain. -/
import Derived.Test.YticfmlohkfoccaaGreatDoorH10
import Derived.Laws.ComplexArith
set_option linter.unusedVariables false
set_option linter.unusedSimpArgs false
namespace Go.Proofs.YticfmlohkfoccaaGreatDoor
open Go.RowKit

/-- A finite number as 64 bits. -/
def wide (b : Nat) : Nat := Ieee.double.write (Ieee.single.read b)
theorem read_bound (b : Nat) (h : fin b = true) : ∃ s m e, Ieee.single.read b = .number s m e ∧ m < 16777216 ∧ -149 ≤ e ∧ e ≤ 104 := by
  rw [fin_iff, decide_eq_true_iff] at h
  unfold Ieee.Format.read
  dsimp only
  by_cases h1 : b % 2147483648 < 8388608
  · rw [if_pos (by rw [sw32, bn32]; omega)]
    exact ⟨_, _, _, rfl, by rw [sw32]; omega, by decide, by decide⟩
  · rw [if_neg (by rw [sw32, bn32]; omega), if_pos (by rw [sw32, if32]; omega)]
    refine ⟨_, _, _, rfl, by rw [bn32]; omega, ?_, ?_⟩
    · rw [show Ieee.single.leastPlace = -149 from rfl]; omega
    · rw [show Ieee.single.leastPlace = -149 from rfl, sw32, bn32]; omega
theorem sw64 : Ieee.double.signWeight = 9223372036854775808 := by rfl
theorem bn64 : Ieee.double.binade = 4503599627370496 := by rfl
theorem if64 : Ieee.double.infRung = 9218868437227405312 := by rfl
theorem read_word (s : Bool) (r : Nat) (h : r < 9218868437227405312) : ∃ m e, Ieee.double.read (Ieee.double.word s r) = .number s m e := by
  have hm : Ieee.double.word s r % Ieee.double.signWeight = r := by
    unfold Ieee.Format.word; rw [sw64]; cases s <;> simp <;> omega
  have hd : (Ieee.double.word s r / Ieee.double.signWeight % 2 == 1) = s := by
    unfold Ieee.Format.word; rw [sw64]; cases s <;> simp <;> omega
  unfold Ieee.Format.read
  dsimp only
  rw [hm, hd]
  by_cases h1 : r < Ieee.double.binade
  · rw [if_pos h1]; exact ⟨_, _, rfl⟩
  · rw [if_neg h1, if_pos (by rw [if64]; omega)]; exact ⟨_, _, rfl⟩
theorem cut_none (neg : Bool) (n : Nat) : Ieee.Toward.even.cut neg n 0 = n := by
  unfold Ieee.Toward.cut
  simp
  omega
theorem nearest_wide (s : Bool) (m : Nat) (e : Int) (hm : m < 16777216) (h1 : -149 ≤ e) (h2 : e ≤ 104) : ∃ r, r < 9218868437227405312 ∧ Ieee.double.nearest s m e = Ieee.double.word s r := by
  unfold Ieee.Format.nearest
  by_cases h0 : m = 0
  · rw [if_pos h0]; exact ⟨0, by decide, rfl⟩
  · rw [if_neg h0]
    dsimp only
    have hl : m.log2 < 24 := (Nat.log2_lt h0).2 hm
    have hlt : m < 2 ^ (m.log2 + 1) := Nat.lt_log2_self
    have hlast : max (e + m.log2 - (Ieee.double.fractionBits : Nat)) Ieee.double.leastPlace = e + m.log2 - 52 := by
      rw [show Ieee.double.leastPlace = -1074 from rfl, show Ieee.double.fractionBits = 52 from rfl]; omega
    rw [hlast]
    have hd : (e + (m.log2 : Int) - 52 - e).toNat = 0 := by omega
    have hu : (e - (e + (m.log2 : Int) - 52)).toNat = 52 - m.log2 := by omega
    rw [hd, hu, cut_none]
    refine ⟨_, ?_, rfl⟩
    refine Nat.lt_of_le_of_lt (Nat.min_le_left _ _) ?_
    rw [Nat.shiftLeft_eq, bn64, show Ieee.double.leastPlace = -1074 from rfl]
    have hk : m * 2 ^ (52 - m.log2) < 9007199254740992 := by
      calc m * 2 ^ (52 - m.log2) < 2 ^ (m.log2 + 1) * 2 ^ (52 - m.log2) := Nat.mul_lt_mul_of_pos_right hlt (Nat.two_pow_pos _)
        _ = 2 ^ 53 := by rw [← Nat.pow_add]; congr 1; omega
        _ = 9007199254740992 := by decide
    have ht : (e + (m.log2 : Int) - 52 - -1074).toNat ≤ 1149 := by omega
    generalize (e + (m.log2 : Int) - 52 - -1074).toNat = a at *
    generalize m * 2 ^ (52 - m.log2) = k at *
    omega
theorem wide_read (b : Nat) (h : fin b = true) : (∃ s m e, Ieee.double.read (wide b) = .number s m e) ∧ floatToFloatBits .f32 b .f64 = some (wide b) := by
  obtain ⟨s, m, e, hr, h1, h2, h3⟩ := read_bound b h
  obtain ⟨r, hr1, hr2⟩ := nearest_wide s m e h1 h2 h3
  have hw : wide b = Ieee.double.word s r := by
    unfold wide; rw [hr]; exact hr2
  obtain ⟨m', e', hx⟩ := read_word s r hr1
  rw [← hw] at hx
  refine ⟨⟨s, m', e', hx⟩, ?_⟩
  unfold floatToFloatBits
  rw [if_neg (by decide)]
  rw [show FloatKind.f32.decode b = Ieee.single.read b from rfl, hr]
  dsimp only
  rw [show FloatKind.f64.encode (.number s m e) = wide b by unfold wide; rw [hr]; rfl]
  rw [show FloatKind.f64.decode (wide b) = Ieee.double.read (wide b) from rfl, hx]
  rfl
/-- A number of 64 bits that is finite. -/
def num64 (x : Nat) : Prop := ∃ s m e, Ieee.double.read x = .number s m e
theorem order_self {x : Nat} (h : num64 x) : FloatKind.f64.format.order x x = some .eq := by
  obtain ⟨s, m, e, hr⟩ := h
  show Ieee.double.order x x = some .eq
  unfold Ieee.Format.order
  rw [hr]
  simp [Ieee.Datum.order]
theorem wide_complex (a b : Nat) (ha : fin a = true) (hb : fin b = true) : cConvBits .f32 a b .f64 = some (wide a, wide b) := by
  unfold cConvBits
  rw [(wide_read a ha).2, (wide_read b hb).2]
  rfl
theorem signed_zero {s : Bool} {m k : Nat} (h : Ieee.signed s m k = 0) : m = 0 := by
  unfold Ieee.signed at h
  have hz : m <<< k = 0 := by
    cases s
    · simp only [Bool.false_eq_true, if_false] at h; omega
    · simp only [if_true] at h; omega
  rw [Nat.shiftLeft_eq] at hz
  rcases Nat.mul_eq_zero.1 hz with h | h
  · exact h
  · exact absurd h (Nat.ne_of_gt (Nat.two_pow_pos _))
/-- One by a zero. -/
theorem one_by {x : Nat} (h : num64 x) (h0 : (FloatKind.f64.format.order x 0 == some Ordering.eq) = true) : ∃ q, floatBits .quo .f64 4607182418800017408 x = some q := by
  obtain ⟨s, m, e, hr⟩ := h
  have h0' : Ieee.double.order x 0 = some .eq := beq_iff_eq.1 h0
  unfold Ieee.Format.order at h0'
  rw [hr, show Ieee.double.read 0 = .number false 0 (-1074) from rfl] at h0'
  have hm : m = 0 := by
    simp only [Ieee.Datum.order, Option.some.injEq, Int.compare_eq_eq] at h0'
    refine signed_zero (h0'.trans ?_)
    simp [Ieee.signed]
  subst hm
  unfold floatBits Ieee.Format.div
  simp only
  rw [show FloatKind.f64.format = Ieee.double from rfl, hr, show Ieee.double.read 4607182418800017408 = .number false 4503599627370496 (-52) from rfl]
  simp [Ieee.Datum.quotient]
end Go.Proofs.YticfmlohkfoccaaGreatDoor
