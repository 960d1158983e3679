import Derived.Test.YticfmlohkfoccaaGreatDoorH15a
import Derived.Test.YticfmlohkfoccaaGreatDoorB3
import Derived.Test.YticfmlohkfoccaaGreatDoorH11
import Derived.StillTailTactics

/- Floats of small whole numbers: their sums, products and quotients are exact; plain. -/
set_option linter.unusedVariables false
set_option linter.unusedSimpArgs false
namespace Go.Proofs.YticfmlohkfoccaaGreatDoor
open Ieee

/-- What a format must have. -/
structure Good (f : Format) : Prop where
  least : f.leastPlace ≤ -(f.fractionBits : Int)
  room : ((-f.leastPlace).toNat + 2) * f.binade ≤ f.infRung
theorem good32 : Good single := ⟨by decide, by decide⟩
theorem good64 : Good double := ⟨by decide, by decide⟩
/-- mag * 2 ^ place is the whole number N. -/
def IsN (mag : Nat) (place : Int) (N : Nat) : Prop := place ≤ 0 ∧ mag = N * 2 ^ (-place).toNat
theorem log2_mul_pow (N k : Nat) (h : N ≠ 0) : (N * 2 ^ k).log2 = N.log2 + k := by
  have h0 : N * 2 ^ k ≠ 0 := Nat.mul_ne_zero h (Nat.ne_of_gt (Nat.two_pow_pos _))
  apply Nat.le_antisymm
  · apply Nat.lt_succ_iff.1
    rw [Nat.log2_lt h0]
    have h1 : N < 2 ^ (N.log2 + 1) := Nat.lt_log2_self
    calc N * 2 ^ k < 2 ^ (N.log2 + 1) * 2 ^ k := Nat.mul_lt_mul_of_pos_right h1 (Nat.two_pow_pos _)
      _ = 2 ^ (N.log2 + k + 1) := by rw [← Nat.pow_add]; congr 1; omega
  · rw [Nat.le_log2 h0, Nat.pow_add]
    exact Nat.mul_le_mul_right _ (Nat.log2_self_le h)
theorem cut_exact (s : Bool) (X d : Nat) (hX : X ≠ 0) : Toward.even.cut s (X * 2 ^ d) d = X := by
  have hl := log2_mul_pow X d hX
  have hm : min d ((X * 2 ^ d).log2 + 2) = d := by omega
  unfold Toward.cut
  rw [hm]
  have hg : (1 <<< d) = 2 ^ d := by rw [Nat.shiftLeft_eq, Nat.one_mul]
  rw [hg]
  have hp : 0 < 2 ^ d := Nat.two_pow_pos d
  simp only [Nat.mul_div_cancel _ hp, Nat.mul_mod_left, Nat.mul_zero]
  have h1 : ¬ (2 ^ d < 0) := by omega
  have h2 : (2 ^ d == 0) = false := by simp
  simp [h2]
/-- The rung of a whole number. -/
def rungOf (f : Format) (N : Nat) : Nat := ((N.log2 : Int) - f.fractionBits - f.leastPlace).toNat * f.binade + N * 2 ^ (f.fractionBits - N.log2)
theorem nearest_isN {f : Format} (hg : Good f) (s : Bool) (mag : Nat) (place : Int) (N : Nat) (hN : N ≠ 0) (hlt : N < 2 ^ (f.fractionBits + 1)) (h : IsN mag place N) : f.nearest s mag place = f.word s (rungOf f N) := by
  obtain ⟨hp, rfl⟩ := h
  have hlog : N.log2 ≤ f.fractionBits := by
    have := (Nat.log2_lt hN).2 hlt
    omega
  have hm0 : N * 2 ^ (-place).toNat ≠ 0 := Nat.mul_ne_zero hN (Nat.ne_of_gt (Nat.two_pow_pos _))
  unfold Format.nearest
  rw [if_neg hm0]
  dsimp only
  rw [log2_mul_pow N _ hN]
  have hgl := hg.least
  have hlast : max (place + ((N.log2 + (-place).toNat : Nat) : Int) - (f.fractionBits : Int)) f.leastPlace = (N.log2 : Int) - f.fractionBits := by omega
  rw [hlast]
  have hkept : Toward.even.cut s ((N * 2 ^ (-place).toNat) <<< (place - ((N.log2 : Int) - f.fractionBits)).toNat) (((N.log2 : Int) - f.fractionBits) - place).toNat = N * 2 ^ (f.fractionBits - N.log2) := by
    by_cases hc : (N.log2 : Int) - f.fractionBits ≤ place
    · have h1 : (((N.log2 : Int) - f.fractionBits) - place).toNat = 0 := by omega
      rw [h1, cut_none, Nat.shiftLeft_eq, Nat.mul_assoc, ← Nat.pow_add]
      congr 2
      omega
    · have h1 : (place - ((N.log2 : Int) - f.fractionBits)).toNat = 0 := by omega
      rw [h1]
      have h2 : N * 2 ^ (-place).toNat = (N * 2 ^ (f.fractionBits - N.log2)) * 2 ^ (((N.log2 : Int) - f.fractionBits) - place).toNat := by
        rw [Nat.mul_assoc, ← Nat.pow_add]
        congr 2
        omega
      rw [Nat.shiftLeft_zero, h2]
      exact cut_exact s _ _ (Nat.mul_ne_zero hN (Nat.ne_of_gt (Nat.two_pow_pos _)))
  rw [hkept]
  congr 1
  show min (rungOf f N) f.infRung = rungOf f N
  apply Nat.min_eq_left
  refine Nat.le_trans ?_ hg.room
  unfold rungOf
  have hX : N * 2 ^ (f.fractionBits - N.log2) < 2 * f.binade := by
    have h1 : N < 2 ^ (N.log2 + 1) := Nat.lt_log2_self
    calc N * 2 ^ (f.fractionBits - N.log2) < 2 ^ (N.log2 + 1) * 2 ^ (f.fractionBits - N.log2) := Nat.mul_lt_mul_of_pos_right h1 (Nat.two_pow_pos _)
      _ = 2 ^ (f.fractionBits + 1) := by rw [← Nat.pow_add]; congr 1; omega
      _ = 2 * f.binade := by unfold Format.binade; rw [Nat.pow_succ, Nat.mul_comm]
  have ht : ((N.log2 : Int) - f.fractionBits - f.leastPlace).toNat ≤ (-f.leastPlace).toNat := by omega
  have := Nat.mul_le_mul_right f.binade ht
  rw [Nat.add_mul]
  omega
/-- The float of a whole number, with a sign. -/
def cI (f : Format) (s : Bool) (N : Nat) : Nat := f.nearest s N 0
theorem cI_nearest {f : Format} (hg : Good f) (s : Bool) (mag : Nat) (place : Int) (N : Nat) (hlt : N < 2 ^ (f.fractionBits + 1)) (h : IsN mag place N) : f.nearest s mag place = cI f s N := by
  by_cases hN : N = 0
  · subst hN
    have h0 : mag = 0 := by rw [h.2]; simp
    subst h0
    unfold cI Format.nearest
    rfl
  · rw [nearest_isN hg s mag place N hN hlt h]
    unfold cI
    rw [nearest_isN hg s N 0 N hN hlt ⟨by omega, by simp⟩]
theorem read_cI {f : Format} (hg : Good f) (s : Bool) (N : Nat) (hlt : N < 2 ^ (f.fractionBits + 1)) : ∃ m e, f.read (cI f s N) = .number s m e ∧ IsN m e N := by
  have hsw := f.infRung_lt
  have hsw2 := f.infRung_add_binade
  have hb : 0 < f.binade := Nat.two_pow_pos _
  have hw : ∀ r, r < f.signWeight → (f.word s r % f.signWeight = r ∧ (f.word s r / f.signWeight % 2 == 1) = s) := by
    intro r hr
    unfold Format.word
    cases s
    · simp only [Bool.false_eq_true, if_false]
      exact ⟨Nat.mod_eq_of_lt hr, by rw [Nat.div_eq_of_lt hr]; rfl⟩
    · simp only [if_true]
      refine ⟨by rw [Nat.add_mod_left, Nat.mod_eq_of_lt hr], ?_⟩
      rw [Nat.add_div_left _ (by omega), Nat.div_eq_of_lt hr]; rfl
  by_cases hN : N = 0
  · subst hN
    have hc : cI f s 0 = f.word s 0 := by unfold cI Format.nearest; rfl
    obtain ⟨h1, h2⟩ := hw 0 (by omega)
    refine ⟨0, f.leastPlace, ?_, by have := hg.least; omega, by simp⟩
    rw [hc]
    unfold Format.read
    dsimp only
    rw [h1, h2, if_pos hb]
  · have hlog : N.log2 ≤ f.fractionBits := by
      have := (Nat.log2_lt hN).2 hlt
      omega
    have hgl := hg.least
    have hX1 : N * 2 ^ (f.fractionBits - N.log2) < 2 * f.binade := by
      have h1 : N < 2 ^ (N.log2 + 1) := Nat.lt_log2_self
      calc N * 2 ^ (f.fractionBits - N.log2) < 2 ^ (N.log2 + 1) * 2 ^ (f.fractionBits - N.log2) := Nat.mul_lt_mul_of_pos_right h1 (Nat.two_pow_pos _)
        _ = 2 ^ (f.fractionBits + 1) := by rw [← Nat.pow_add]; congr 1; omega
        _ = 2 * f.binade := by unfold Format.binade; rw [Nat.pow_succ, Nat.mul_comm]
    have hX0 : f.binade ≤ N * 2 ^ (f.fractionBits - N.log2) := by
      have h1 := Nat.log2_self_le hN
      calc f.binade = 2 ^ N.log2 * 2 ^ (f.fractionBits - N.log2) := by unfold Format.binade; rw [← Nat.pow_add]; congr 1; omega
        _ ≤ N * 2 ^ (f.fractionBits - N.log2) := Nat.mul_le_mul_right _ h1
    have hc : cI f s N = f.word s (rungOf f N) := nearest_isN hg s N 0 N hN hlt ⟨by omega, by simp⟩
    have ht : ((N.log2 : Int) - f.fractionBits - f.leastPlace).toNat ≤ (-f.leastPlace).toNat := by omega
    have hroom := hg.room
    have hr : rungOf f N < f.infRung := by
      unfold rungOf
      have := Nat.mul_le_mul_right f.binade ht
      rw [Nat.add_mul] at hroom
      omega
    obtain ⟨h1, h2⟩ := hw (rungOf f N) (by omega)
    have hge : ¬ rungOf f N < f.binade := by unfold rungOf; omega
    obtain ⟨Y, hY⟩ : ∃ Y, N * 2 ^ (f.fractionBits - N.log2) = f.binade + Y := ⟨N * 2 ^ (f.fractionBits - N.log2) - f.binade, by omega⟩
    have hYl : Y < f.binade := by omega
    have hmod : rungOf f N % f.binade = Y := by
      unfold rungOf
      rw [hY, show ((N.log2 : Int) - f.fractionBits - f.leastPlace).toNat * f.binade + (f.binade + Y) = Y + f.binade * (((N.log2 : Int) - f.fractionBits - f.leastPlace).toNat + 1) from by rw [Nat.mul_add, Nat.mul_comm f.binade]; omega, Nat.add_mul_mod_self_left, Nat.mod_eq_of_lt hYl]
    have hdiv : rungOf f N / f.binade = ((N.log2 : Int) - f.fractionBits - f.leastPlace).toNat + 1 := by
      unfold rungOf
      rw [hY, show ((N.log2 : Int) - f.fractionBits - f.leastPlace).toNat * f.binade + (f.binade + Y) = Y + f.binade * (((N.log2 : Int) - f.fractionBits - f.leastPlace).toNat + 1) from by rw [Nat.mul_add, Nat.mul_comm f.binade]; omega, Nat.add_mul_div_left _ _ hb, Nat.div_eq_of_lt hYl, Nat.zero_add]
    refine ⟨N * 2 ^ (f.fractionBits - N.log2), (N.log2 : Int) - f.fractionBits, ?_, by omega, by congr 2; omega⟩
    rw [hc]
    unfold Format.read
    dsimp only
    rw [h1, h2, if_neg hge, if_pos hr, hmod, hdiv, hY]
    congr 1
    omega
end Go.Proofs.YticfmlohkfoccaaGreatDoor

/- Floats of small whole numbers: what each operation gives; plain. -/
set_option linter.unusedVariables false
set_option linter.unusedSimpArgs false
namespace Go.Proofs.YticfmlohkfoccaaGreatDoor
open Ieee

theorem IsN.mul {m n M N : Nat} {i j : Int} (h : IsN m i M) (k : IsN n j N) : IsN (m * n) (i + j) (M * N) := by
  obtain ⟨h1, rfl⟩ := h
  obtain ⟨k1, rfl⟩ := k
  refine ⟨by omega, ?_⟩
  rw [show (-(i + j)).toNat = (-i).toNat + (-j).toNat from by omega, Nat.pow_add]
  simp only [Nat.mul_assoc, Nat.mul_comm, Nat.mul_left_comm]
theorem cI_mul {f : Format} (hg : Good f) (s t : Bool) (M N : Nat) (hM : M < 2 ^ (f.fractionBits + 1)) (hN : N < 2 ^ (f.fractionBits + 1)) (hMN : M * N < 2 ^ (f.fractionBits + 1)) : f.mul (cI f s M) (cI f t N) = some (cI f (s ^^ t) (M * N)) := by
  obtain ⟨m, i, hr, hi⟩ := read_cI hg s M hM
  obtain ⟨n, j, hr', hj⟩ := read_cI hg t N hN
  unfold Format.mul
  rw [hr, hr']
  simp only [Datum.product, Option.map_some, Format.write, Option.some.injEq]
  exact cI_nearest hg _ _ _ _ hMN (hi.mul hj)
/-- A whole number with its sign. -/
def sval (s : Bool) (N : Nat) : Int := if s then -(N : Int) else N
theorem signed_isN {m M : Nat} {i b : Int} (s : Bool) (h : IsN m i M) (hb : b ≤ i) : signed s m (i - b).toNat = sval s M * 2 ^ (-b).toNat := by
  obtain ⟨h1, rfl⟩ := h
  have e : ((M * 2 ^ (-i).toNat) <<< (i - b).toNat : Nat) = M * 2 ^ (-b).toNat := by
    rw [Nat.shiftLeft_eq, Nat.mul_assoc, ← Nat.pow_add]
    congr 2
    omega
  unfold signed sval
  rw [e]
  cases s
  · simp
  · simp [Int.neg_mul]
theorem cI_sum {f : Format} (hg : Good f) (s t : Bool) (M N : Nat) (hM : M < 2 ^ (f.fractionBits + 1)) (hN : N < 2 ^ (f.fractionBits + 1)) (hz : (sval s M + sval t N).natAbs < 2 ^ (f.fractionBits + 1)) (m n : Nat) (i j : Int) (hi : IsN m i M) (hj : IsN n j N) :
    ((Datum.number s m i).sum (Datum.number t n j)).map f.write = some (cI f (if sval s M + sval t N = 0 then s && t else decide (sval s M + sval t N < 0)) (sval s M + sval t N).natAbs) := by
  simp only [Datum.sum, Option.map_some, Option.some.injEq]
  rw [signed_isN s hi (by omega), signed_isN t hj (by omega), ← Int.add_mul]
  generalize hzz : sval s M + sval t N = z at *
  have hp : (0 : Int) < 2 ^ (-(min i j)).toNat := Int.pow_pos (by decide)
  have h0 : (z * 2 ^ (-(min i j)).toNat = 0) ↔ z = 0 := by
    constructor
    · intro h
      rcases Int.mul_eq_zero.1 h with h | h
      · exact h
      · omega
    · intro h; rw [h]; simp
  have hn : (z * 2 ^ (-(min i j)).toNat < 0) ↔ z < 0 := by
    constructor
    · intro h
      exact Int.not_le.1 (fun hc => absurd (Int.mul_nonneg hc (Int.le_of_lt hp)) (Int.not_le.2 h))
    · intro h
      exact Int.mul_neg_of_neg_of_pos h hp
  have ha : (z * 2 ^ (-(min i j)).toNat).natAbs = z.natAbs * 2 ^ (-(min i j)).toNat := by
    rw [Int.natAbs_mul, Int.natAbs_pow]; rfl
  rw [ha]
  simp only [Format.write]
  have e : (if z * 2 ^ (-(min i j)).toNat = 0 then (s && t) else decide (z * 2 ^ (-(min i j)).toNat < 0)) = (if z = 0 then s && t else decide (z < 0)) := by
    by_cases hz0 : z = 0
    · rw [if_pos (h0.2 hz0), if_pos hz0]
    · rw [if_neg (fun h => hz0 (h0.1 h)), if_neg hz0, decide_eq_decide]; exact hn
  rw [e]
  exact cI_nearest hg _ _ _ _ hz ⟨by have := hi.1; omega, rfl⟩
theorem cI_add {f : Format} (hg : Good f) (s t : Bool) (M N : Nat) (hM : M < 2 ^ (f.fractionBits + 1)) (hN : N < 2 ^ (f.fractionBits + 1)) (hz : (sval s M + sval t N).natAbs < 2 ^ (f.fractionBits + 1)) :
    f.add (cI f s M) (cI f t N) = some (cI f (if sval s M + sval t N = 0 then s && t else decide (sval s M + sval t N < 0)) (sval s M + sval t N).natAbs) := by
  obtain ⟨m, i, hr, hi⟩ := read_cI hg s M hM
  obtain ⟨n, j, hr', hj⟩ := read_cI hg t N hN
  unfold Format.add
  rw [hr, hr']
  exact cI_sum hg s t M N hM hN hz m n i j hi hj
theorem sval_not (t : Bool) (N : Nat) : sval (!t) N = -sval t N := by cases t <;> simp [sval]
theorem sval_sign (z : Int) (s t : Bool) : sval (if z = 0 then s && t else decide (z < 0)) z.natAbs = z := by
  by_cases hz0 : z = 0
  · subst hz0; cases s <;> cases t <;> rfl
  · rw [if_neg hz0]
    by_cases hn : z < 0
    · rw [decide_eq_true hn]; simp [sval]; omega
    · rw [decide_eq_false hn]; simp [sval]; omega
theorem cI_sub {f : Format} (hg : Good f) (s t : Bool) (M N : Nat) (hM : M < 2 ^ (f.fractionBits + 1)) (hN : N < 2 ^ (f.fractionBits + 1)) (hz : (sval s M - sval t N).natAbs < 2 ^ (f.fractionBits + 1)) :
    ∃ r, f.sub (cI f s M) (cI f t N) = some (cI f r (sval s M - sval t N).natAbs) ∧ sval r (sval s M - sval t N).natAbs = sval s M - sval t N := by
  obtain ⟨m, i, hr, hi⟩ := read_cI hg s M hM
  obtain ⟨n, j, hr', hj⟩ := read_cI hg t N hN
  have e : sval s M + sval (!t) N = sval s M - sval t N := by rw [sval_not]; omega
  have h := cI_sum hg s (!t) M N hM hN (by rw [e]; exact hz) m n i j hi hj
  rw [e] at h
  refine ⟨if sval s M - sval t N = 0 then s && !t else decide (sval s M - sval t N < 0), ?_, sval_sign _ _ _⟩
  unfold Format.sub
  rw [hr, hr']
  exact h
theorem cI_order {f : Format} (hg : Good f) (s t : Bool) (M N : Nat) (hM : M < 2 ^ (f.fractionBits + 1)) (hN : N < 2 ^ (f.fractionBits + 1)) : f.order (cI f s M) (cI f t N) = some (compare (sval s M) (sval t N)) := by
  obtain ⟨m, i, hr, hi⟩ := read_cI hg s M hM
  obtain ⟨n, j, hr', hj⟩ := read_cI hg t N hN
  unfold Format.order
  rw [hr, hr']
  simp only [Datum.order, Option.some.injEq]
  rw [signed_isN s hi (by omega), signed_isN t hj (by omega)]
  have hp : (0 : Int) < 2 ^ (-(min i j)).toNat := Int.pow_pos (by decide)
  generalize (2 : Int) ^ (-(min i j)).toNat = k at *
  generalize sval s M = a
  generalize sval t N = b
  rcases Int.lt_trichotomy a b with h | h | h
  · rw [Int.compare_eq_lt.2 h, Int.compare_eq_lt.2 (Int.mul_lt_mul_of_pos_right h hp)]
  · subst h; rw [Int.compare_eq_eq.2 rfl, Int.compare_eq_eq.2 rfl]
  · rw [Int.compare_eq_gt.2 h, Int.compare_eq_gt.2 (Int.mul_lt_mul_of_pos_right h hp)]
theorem cI_toInt {f : Format} (hg : Good f) (s : Bool) (N : Nat) (hN : N < 2 ^ (f.fractionBits + 1)) : (f.read (cI f s N)).toInt .zero = some (sval s N) := by
  obtain ⟨m, i, hr, hi1, rfl⟩ := read_cI hg s N hN
  rw [hr]
  simp only [Datum.toInt, Datum.integral, Option.some.injEq]
  rw [show i.toNat = 0 from by omega, Nat.shiftLeft_zero]
  have hc : Toward.zero.cut s (N * 2 ^ (-i).toNat) (-i).toNat = N := by
    by_cases hN0 : N = 0
    · subst hN0; unfold Toward.cut; simp
    · have hl := log2_mul_pow N (-i).toNat hN0
      unfold Toward.cut
      rw [show min (-i).toNat ((N * 2 ^ (-i).toNat).log2 + 2) = (-i).toNat from by omega]
      have hg' : (1 <<< (-i).toNat) = 2 ^ (-i).toNat := by rw [Nat.shiftLeft_eq, Nat.one_mul]
      rw [hg']
      simp only [Nat.mul_div_cancel _ (Nat.two_pow_pos _)]
      simp
  rw [hc]
  unfold signed sval
  simp
theorem cI_div {f : Format} (hg : Good f) (s t : Bool) (q N : Nat) (hN0 : N ≠ 0) (hM : q * N < 2 ^ (f.fractionBits + 1)) (hN : N < 2 ^ (f.fractionBits + 1)) (hq : q < 2 ^ (f.fractionBits + 1)) : f.div (cI f s (q * N)) (cI f t N) = some (cI f (s ^^ t) q) := by
  obtain ⟨m, i, hr, hi1, hm⟩ := read_cI hg s (q * N) hM
  obtain ⟨n, j, hr', hj1, hn⟩ := read_cI hg t N hN
  have hn0 : n ≠ 0 := by rw [hn]; exact Nat.mul_ne_zero hN0 (Nat.ne_of_gt (Nat.two_pow_pos _))
  unfold Format.div
  rw [hr, hr']
  simp only [Datum.quotient]
  rw [if_neg hn0]
  simp only [Option.map_some, Format.write, Option.some.injEq]
  by_cases hq0 : q = 0
  · subst hq0
    have hm0 : m = 0 := by rw [hm]; simp
    rw [hm0]
    simp only [Nat.zero_shiftLeft, Nat.zero_div, Nat.zero_mod, Nat.mul_zero]
    unfold cI Format.nearest
    simp
  · have hqN : q * N ≠ 0 := Nat.mul_ne_zero hq0 hN0
    have hlm : m.log2 = (q * N).log2 + (-i).toNat := by rw [hm, log2_mul_pow _ _ hqN]
    have hln : n.log2 = N.log2 + (-j).toNat := by rw [hn, log2_mul_pow _ _ hN0]
    have hlq : q.log2 ≤ f.fractionBits := by
      have := (Nat.log2_lt hq0).2 hq
      omega
    have hlqN : (q * N).log2 ≤ q.log2 + N.log2 + 1 := by
      have h1 : q < 2 ^ (q.log2 + 1) := Nat.lt_log2_self
      have h2 : N < 2 ^ (N.log2 + 1) := Nat.lt_log2_self
      have h3 : q * N < 2 ^ (q.log2 + N.log2 + 2) := by
        calc q * N < 2 ^ (q.log2 + 1) * 2 ^ (N.log2 + 1) := Nat.mul_lt_mul'' h1 h2
          _ = 2 ^ (q.log2 + N.log2 + 2) := by rw [← Nat.pow_add]; congr 1; omega
      have := (Nat.log2_lt hqN).2 h3
      omega
    generalize hmore : f.fractionBits + 2 + n.log2 - m.log2 = more
    have hT : (-j).toNat ≤ (-i).toNat + more := by omega
    obtain ⟨T, hT'⟩ : ∃ T, (-i).toNat + more = (-j).toNat + T := ⟨(-i).toNat + more - (-j).toNat, by omega⟩
    have hdiv : m <<< more = (q * 2 ^ T) * n := by
      rw [Nat.shiftLeft_eq, hm, hn, Nat.mul_assoc, ← Nat.pow_add, hT', Nat.pow_add]
      simp only [Nat.mul_assoc, Nat.mul_comm, Nat.mul_left_comm]
    rw [hdiv, Nat.mul_div_cancel _ (Nat.pos_of_ne_zero hn0), Nat.mul_mod_left]
    refine cI_nearest hg _ _ _ _ hq ⟨by omega, ?_⟩
    have e : (-(i - j - (more : Int) - 1)).toNat = T + 1 := by omega
    rw [e, Nat.pow_succ]
    simp
    rw [Nat.mul_comm 2, Nat.mul_assoc]

/-! ### Floats that are whole numbers -/
/-- x is the 32-bit float of z. -/
def J32 (x : Nat) (z : Int) : Prop := ∃ s N, x = cI single s N ∧ N < 16777216 ∧ sval s N = z
/-- x is the 64-bit float of z. -/
def J64 (x : Nat) (z : Int) : Prop := ∃ s N, x = cI double s N ∧ N < 9007199254740992 ∧ sval s N = z
theorem sval_abs (s : Bool) (N : Nat) : (sval s N).natAbs = N := by cases s <;> simp [sval]
theorem sval_mul (s t : Bool) (M N : Nat) : sval (s ^^ t) (M * N) = sval s M * sval t N := by
  cases s <;> cases t <;> simp [sval, Int.neg_mul, Int.mul_neg]
theorem J32.bound {x : Nat} {z : Int} (h : J32 x z) : z.natAbs < 16777216 := by
  obtain ⟨s, N, _, h1, rfl⟩ := h; rw [sval_abs]; exact h1
theorem J64.mul {x y : Nat} {a b : Int} (h : J64 x a) (k : J64 y b) (hb : (a * b).natAbs < 9007199254740992) : ∃ r, floatBits .mul .f64 x y = some r ∧ J64 r (a * b) := by
  obtain ⟨s, M, rfl, hM, rfl⟩ := h
  obtain ⟨t, N, rfl, hN, rfl⟩ := k
  rw [Int.natAbs_mul, sval_abs, sval_abs] at hb
  exact ⟨_, cI_mul good64 s t M N hM hN hb, _, _, rfl, hb, sval_mul s t M N⟩
theorem J32.mul {x y : Nat} {a b : Int} (h : J32 x a) (k : J32 y b) (hb : (a * b).natAbs < 16777216) : ∃ r, floatBits .mul .f32 x y = some r ∧ J32 r (a * b) := by
  obtain ⟨s, M, rfl, hM, rfl⟩ := h
  obtain ⟨t, N, rfl, hN, rfl⟩ := k
  rw [Int.natAbs_mul, sval_abs, sval_abs] at hb
  exact ⟨_, cI_mul good32 s t M N hM hN hb, _, _, rfl, hb, sval_mul s t M N⟩
theorem J64.add {x y : Nat} {a b : Int} (h : J64 x a) (k : J64 y b) (hb : (a + b).natAbs < 9007199254740992) : ∃ r, floatBits .add .f64 x y = some r ∧ J64 r (a + b) := by
  obtain ⟨s, M, rfl, hM, rfl⟩ := h
  obtain ⟨t, N, rfl, hN, rfl⟩ := k
  exact ⟨_, cI_add good64 s t M N hM hN hb, _, _, rfl, hb, sval_sign _ s t⟩
theorem J32.add {x y : Nat} {a b : Int} (h : J32 x a) (k : J32 y b) (hb : (a + b).natAbs < 16777216) : ∃ r, floatBits .add .f32 x y = some r ∧ J32 r (a + b) := by
  obtain ⟨s, M, rfl, hM, rfl⟩ := h
  obtain ⟨t, N, rfl, hN, rfl⟩ := k
  exact ⟨_, cI_add good32 s t M N hM hN hb, _, _, rfl, hb, sval_sign _ s t⟩
theorem J64.sub {x y : Nat} {a b : Int} (h : J64 x a) (k : J64 y b) (hb : (a - b).natAbs < 9007199254740992) : ∃ r, floatBits .sub .f64 x y = some r ∧ J64 r (a - b) := by
  obtain ⟨s, M, rfl, hM, rfl⟩ := h
  obtain ⟨t, N, rfl, hN, rfl⟩ := k
  obtain ⟨r, h1, h2⟩ := cI_sub good64 s t M N hM hN hb
  exact ⟨_, h1, _, _, rfl, hb, h2⟩
theorem J64.quo {x y : Nat} {q b : Int} (h : J64 x (q * b)) (k : J64 y b) (hb : b ≠ 0) (hq : q.natAbs < 9007199254740992) : ∃ r, floatBits .quo .f64 x y = some r ∧ J64 r q := by
  obtain ⟨s, M, rfl, hM, hs⟩ := h
  obtain ⟨t, N, rfl, hN, rfl⟩ := k
  have hMq : M = q.natAbs * N := by
    have := congrArg Int.natAbs hs
    rw [sval_abs, Int.natAbs_mul, sval_abs] at this
    exact this
  subst hMq
  have hN0 : N ≠ 0 := by
    rintro rfl
    apply hb
    cases t <;> simp [sval]
  refine ⟨_, cI_div good64 s t q.natAbs N hN0 hM hN hq, _, _, rfl, hq, ?_⟩
  by_cases hq0 : q = 0
  · subst hq0; cases s <;> cases t <;> rfl
  · have h1 := sval_mul (s ^^ t) t q.natAbs N
    rw [show ((s ^^ t) ^^ t) = s from by cases s <;> cases t <;> rfl, hs] at h1
    exact (Int.eq_of_mul_eq_mul_right hb h1).symm
theorem J32.order {x y : Nat} {a b : Int} (h : J32 x a) (k : J32 y b) : FloatKind.f32.format.order x y = some (compare a b) := by
  obtain ⟨s, M, rfl, hM, rfl⟩ := h
  obtain ⟨t, N, rfl, hN, rfl⟩ := k
  exact cI_order good32 s t M N hM hN
theorem cI_num {f : Format} (hg : Good f) (s : Bool) (N : Nat) (hN : N < 2 ^ (f.fractionBits + 1)) : (f.read (cI f s N)).isInfinity = false := by
  obtain ⟨m, i, hr, _⟩ := read_cI hg s N hN
  rw [hr]; rfl
theorem J32.wide {x : Nat} {z : Int} (h : J32 x z) : ∃ r, floatToFloatBits .f32 x .f64 = some r ∧ J64 r z := by
  obtain ⟨s, N, rfl, hN, rfl⟩ := h
  obtain ⟨m, i, hr, hi⟩ := read_cI good32 s N hN
  refine ⟨cI double s N, ?_, s, N, rfl, by omega, rfl⟩
  unfold floatToFloatBits
  rw [if_neg (by decide), show FloatKind.f32.decode (cI single s N) = single.read (cI single s N) from rfl, hr]
  dsimp only
  have e : FloatKind.f64.encode (.number s m i) = cI double s N := cI_nearest good64 s m i N (by show N < 9007199254740992; omega) hi
  rw [e, show FloatKind.f64.decode (cI double s N) = double.read (cI double s N) from rfl, cI_num good64 s N (by show N < 9007199254740992; omega)]
  rfl
theorem narrow_cI (s : Bool) (N : Nat) (hN : N < 16777216) : floatToFloatBits .f64 (cI double s N) .f32 = some (cI single s N) := by
  obtain ⟨m, i, hr, hi⟩ := read_cI good64 s N (by show N < 9007199254740992; omega)
  unfold floatToFloatBits
  rw [if_neg (by decide), show FloatKind.f64.decode (cI double s N) = double.read (cI double s N) from rfl, hr]
  dsimp only
  have e : FloatKind.f32.encode (.number s m i) = cI single s N := cI_nearest good32 s m i N hN hi
  rw [e, show FloatKind.f32.decode (cI single s N) = single.read (cI single s N) from rfl, cI_num good32 s N hN]
  rfl
theorem J64.narrow {x : Nat} {z : Int} (h : J64 x z) (hz : z.natAbs < 16777216) : ∃ r, floatToFloatBits .f64 x .f32 = some r ∧ J32 r z := by
  obtain ⟨s, N, rfl, _, rfl⟩ := h
  rw [sval_abs] at hz
  exact ⟨_, narrow_cI s N hz, s, N, rfl, hz, rfl⟩
theorem J32.int {x : Nat} {z : Int} (h : J32 x z) : floatToIntVal .f32 x .i64 = some z := by
  obtain ⟨s, N, rfl, hN, rfl⟩ := h
  unfold floatToIntVal
  rw [show FloatKind.f32.decode (cI single s N) = single.read (cI single s N) from rfl, cI_toInt good32 s N hN]
  dsimp only
  have hb : (sval s N).natAbs < 16777216 := by rw [sval_abs]; exact hN
  rw [if_pos]
  rw [show IntKind.i64.min = -9223372036854775808 from rfl, show IntKind.i64.max = 9223372036854775807 from rfl]
  omega
theorem J32.of (z : Int) (h : z.natAbs < 16777216) : J32 (floatOfInt .f32 z) z := by
  refine ⟨decide (z < 0), z.natAbs, rfl, h, ?_⟩
  by_cases hn : z < 0
  · rw [decide_eq_true hn]; simp [sval]; omega
  · rw [decide_eq_false hn]; simp [sval]; omega
end Go.Proofs.YticfmlohkfoccaaGreatDoor

/- Floats within bounds, the opposite of a float, and square roots of small whole numbers; plain. -/
set_option linter.unusedVariables false
set_option linter.unusedSimpArgs false
namespace Go.Proofs.YticfmlohkfoccaaGreatDoor
open Ieee

/-- mag * 2 ^ place is at most 2 ^ k. -/
def Le (mag : Nat) (place k : Int) : Prop := mag = 0 ∨ (place ≤ k ∧ mag ≤ 2 ^ (k - place).toNat)
theorem cut_le (s : Bool) (n d t : Nat) (h : n ≤ 2 ^ (t + d)) : Toward.even.cut s n d ≤ 2 ^ t := by
  have hp : ∀ x, 0 < 2 ^ x := fun x => Nat.two_pow_pos x
  unfold Toward.cut
  dsimp only
  have hg : ∀ x, 1 <<< x = 2 ^ x := fun x => by rw [Nat.shiftLeft_eq, Nat.one_mul]
  rw [hg]
  by_cases hd : d ≤ n.log2 + 2
  · rw [Nat.min_eq_left hd]
    have h1 : n / 2 ^ d ≤ 2 ^ t := by
      apply Nat.div_le_of_le_mul
      rw [← Nat.pow_add, Nat.add_comm]; exact h
    by_cases he : n / 2 ^ d = 2 ^ t
    · have h2 : n = 2 ^ (t + d) := by
        have h3 := Nat.div_add_mod n (2 ^ d)
        rw [he] at h3
        have h4 : 2 ^ d * 2 ^ t = 2 ^ (t + d) := by rw [← Nat.pow_add, Nat.add_comm]
        omega
      have h5 : n % 2 ^ d = 0 := by rw [h2, Nat.pow_add]; exact Nat.mul_mod_left _ _
      rw [he, h5]
      have h6 : ¬ (2 ^ d < 2 * 0) := by omega
      have h7 : (2 ^ d == 2 * 0) = false := by simp
      simp [h7]
    · have h2 : n / 2 ^ d + 1 ≤ 2 ^ t := by omega
      refine Nat.le_trans (Nat.add_le_add_left ?_ _) h2
      exact Bool.toNat_le _
  · have hlt : n < 2 ^ (n.log2 + 1) := Nat.lt_log2_self
    rw [Nat.min_eq_right (by omega)]
    have hlt2 : 2 * n < 2 ^ (n.log2 + 2) := by
      have : 2 ^ (n.log2 + 2) = 2 * 2 ^ (n.log2 + 1) := by rw [← Nat.pow_succ']
      omega
    have h0 : n / 2 ^ (n.log2 + 2) = 0 := Nat.div_eq_of_lt (by omega)
    have h1 : n % 2 ^ (n.log2 + 2) = n := Nat.mod_eq_of_lt (by omega)
    rw [h0, h1]
    have h2 : ¬ (2 ^ (n.log2 + 2) < 2 * n) := by omega
    have h3 : (2 ^ (n.log2 + 2) == 2 * n) = false := by
      rw [beq_eq_false_iff_ne]; omega
    rw [h3, decide_eq_false h2]
    have := hp t
    simp
theorem pow_log (mag : Nat) (h : mag ≠ 0) (t : Nat) (hle : mag ≤ 2 ^ t) : mag.log2 ≤ t := by
  have : mag < 2 ^ (t + 1) := by
    have : 2 ^ t < 2 ^ (t + 1) := Nat.pow_lt_pow_right (by decide) (by omega)
    omega
  have := (Nat.log2_lt h).2 this
  omega
/-- Rounding keeps a bound that is a power of two. -/
theorem nearest_le {f : Format} (hg : Good f) (s : Bool) (mag : Nat) (place k : Int) (h : Le mag place k) (hk : f.leastPlace + f.fractionBits ≤ k) (hroom : ((k - f.fractionBits - f.leastPlace).toNat + 1) * f.binade < f.infRung) :
    ∃ m e, f.read (f.nearest s mag place) = .number s m e ∧ Le m e k := by
  have hb : 0 < f.binade := Nat.two_pow_pos _
  have hsw := f.infRung_lt
  have hrung : ∃ r, r ≤ ((k - f.fractionBits - f.leastPlace).toNat + 1) * f.binade ∧ f.nearest s mag place = f.word s r := by
    rcases h with rfl | ⟨hp, hm⟩
    · exact ⟨0, by omega, by unfold Format.nearest; rfl⟩
    · by_cases h0 : mag = 0
      · exact ⟨0, by omega, by unfold Format.nearest; rw [if_pos h0]⟩
      · have hlog := pow_log mag h0 _ hm
        have hlt : mag < 2 ^ (mag.log2 + 1) := Nat.lt_log2_self
        unfold Format.nearest
        rw [if_neg h0]
        dsimp only
        refine ⟨_, ?_, rfl⟩
        refine Nat.le_trans (Nat.min_le_left _ _) ?_
        by_cases hsub : place + mag.log2 - f.fractionBits ≤ f.leastPlace
        · rw [show max (place + (mag.log2 : Int) - f.fractionBits) f.leastPlace = f.leastPlace from by omega]
          rw [show (f.leastPlace - f.leastPlace).toNat = 0 from by omega, Nat.zero_mul, Nat.zero_add]
          have hc : Toward.even.cut s (mag <<< (place - f.leastPlace).toNat) (f.leastPlace - place).toNat ≤ 2 ^ (f.fractionBits + 1) := by
            apply cut_le
            rw [Nat.shiftLeft_eq]
            calc mag * 2 ^ (place - f.leastPlace).toNat ≤ 2 ^ (mag.log2 + 1) * 2 ^ (place - f.leastPlace).toNat := Nat.mul_le_mul_right _ (Nat.le_of_lt hlt)
              _ = 2 ^ (mag.log2 + 1 + (place - f.leastPlace).toNat) := by rw [← Nat.pow_add]
              _ ≤ 2 ^ (f.fractionBits + 1 + (f.leastPlace - place).toNat) := Nat.pow_le_pow_right (by decide) (by omega)
          by_cases hkk : k = f.leastPlace + f.fractionBits
          · have hc2 : Toward.even.cut s (mag <<< (place - f.leastPlace).toNat) (f.leastPlace - place).toNat ≤ 2 ^ f.fractionBits := by
              apply cut_le
              rw [Nat.shiftLeft_eq]
              calc mag * 2 ^ (place - f.leastPlace).toNat ≤ 2 ^ (k - place).toNat * 2 ^ (place - f.leastPlace).toNat := Nat.mul_le_mul_right _ hm
                _ = 2 ^ ((k - place).toNat + (place - f.leastPlace).toNat) := by rw [← Nat.pow_add]
                _ ≤ 2 ^ (f.fractionBits + (f.leastPlace - place).toNat) := Nat.pow_le_pow_right (by decide) (by omega)
            refine Nat.le_trans hc2 ?_
            show f.binade ≤ _
            exact Nat.le_mul_of_pos_left _ (by omega)
          · refine Nat.le_trans hc ?_
            have e : 2 ^ (f.fractionBits + 1) = 2 * f.binade := by unfold Format.binade; rw [Nat.pow_succ, Nat.mul_comm]
            rw [e]
            exact Nat.mul_le_mul_right _ (by omega)
        · rw [show max (place + (mag.log2 : Int) - f.fractionBits) f.leastPlace = place + (mag.log2 : Int) - f.fractionBits from by omega]
          by_cases htop : place + (mag.log2 : Int) = k
          · have hmag : mag ≤ 2 ^ mag.log2 := by
              rw [show (k - place).toNat = mag.log2 from by omega] at hm
              exact hm
            have hc : Toward.even.cut s (mag <<< (place - (place + (mag.log2 : Int) - f.fractionBits)).toNat) ((place + (mag.log2 : Int) - f.fractionBits) - place).toNat ≤ 2 ^ f.fractionBits := by
              apply cut_le
              rw [Nat.shiftLeft_eq]
              calc mag * 2 ^ (place - (place + (mag.log2 : Int) - f.fractionBits)).toNat ≤ 2 ^ mag.log2 * 2 ^ (place - (place + (mag.log2 : Int) - f.fractionBits)).toNat := Nat.mul_le_mul_right _ hmag
                _ = 2 ^ (mag.log2 + (place - (place + (mag.log2 : Int) - f.fractionBits)).toNat) := by rw [← Nat.pow_add]
                _ ≤ 2 ^ (f.fractionBits + ((place + (mag.log2 : Int) - f.fractionBits) - place).toNat) := Nat.pow_le_pow_right (by decide) (by omega)
            rw [show (place + (mag.log2 : Int) - f.fractionBits - f.leastPlace).toNat = (k - f.fractionBits - f.leastPlace).toNat from by omega, Nat.add_mul, Nat.one_mul]
            exact Nat.add_le_add_left hc _
          · have hc : Toward.even.cut s (mag <<< (place - (place + (mag.log2 : Int) - f.fractionBits)).toNat) ((place + (mag.log2 : Int) - f.fractionBits) - place).toNat ≤ 2 ^ (f.fractionBits + 1) := by
              apply cut_le
              rw [Nat.shiftLeft_eq]
              calc mag * 2 ^ (place - (place + (mag.log2 : Int) - f.fractionBits)).toNat ≤ 2 ^ (mag.log2 + 1) * 2 ^ (place - (place + (mag.log2 : Int) - f.fractionBits)).toNat := Nat.mul_le_mul_right _ (Nat.le_of_lt hlt)
                _ = 2 ^ (mag.log2 + 1 + (place - (place + (mag.log2 : Int) - f.fractionBits)).toNat) := by rw [← Nat.pow_add]
                _ ≤ 2 ^ (f.fractionBits + 1 + ((place + (mag.log2 : Int) - f.fractionBits) - place).toNat) := Nat.pow_le_pow_right (by decide) (by omega)
            have e : 2 ^ (f.fractionBits + 1) = 2 * f.binade := by unfold Format.binade; rw [Nat.pow_succ, Nat.mul_comm]
            rw [e] at hc
            have h1 : (place + (mag.log2 : Int) - f.fractionBits - f.leastPlace).toNat + 2 ≤ (k - f.fractionBits - f.leastPlace).toNat + 1 := by omega
            have h2 := Nat.mul_le_mul_right f.binade h1
            rw [Nat.add_mul] at h2
            omega
  obtain ⟨r, hr, hw⟩ := hrung
  rw [hw]
  have hlt : r < f.infRung := Nat.lt_of_le_of_lt hr hroom
  have h1 : f.word s r % f.signWeight = r := by
    unfold Format.word
    cases s
    · simp only [Bool.false_eq_true, if_false]; exact Nat.mod_eq_of_lt (by omega)
    · simp only [if_true]; rw [Nat.add_mod_left, Nat.mod_eq_of_lt (by omega)]
  have h2 : (f.word s r / f.signWeight % 2 == 1) = s := by
    unfold Format.word
    cases s
    · simp only [Bool.false_eq_true, if_false]; rw [Nat.div_eq_of_lt (by omega)]; rfl
    · simp only [if_true]; rw [Nat.add_div_left _ (by omega), Nat.div_eq_of_lt (by omega)]; rfl
  unfold Format.read
  dsimp only
  rw [h1, h2]
  by_cases hs : r < f.binade
  · rw [if_pos hs]
    refine ⟨_, _, rfl, Or.inr ⟨by omega, ?_⟩⟩
    refine Nat.le_trans (Nat.le_of_lt hs) ?_
    unfold Format.binade
    exact Nat.pow_le_pow_right (by decide) (by omega)
  · rw [if_neg hs, if_pos hlt]
    have hq : r / f.binade ≤ (k - f.fractionBits - f.leastPlace).toNat + 1 := by
      apply Nat.div_le_of_le_mul
      rw [Nat.mul_comm]; exact hr
    have hq1 : 1 ≤ r / f.binade := (Nat.le_div_iff_mul_le hb).2 (by omega)
    have hmod : r % f.binade < f.binade := Nat.mod_lt _ hb
    refine ⟨_, _, rfl, Or.inr ⟨by omega, ?_⟩⟩
    by_cases htop : r / f.binade = (k - f.fractionBits - f.leastPlace).toNat + 1
    · have hz : r % f.binade = 0 := by
        have h3 := Nat.div_add_mod r f.binade
        rw [htop, Nat.mul_comm] at h3
        omega
      rw [hz, Nat.add_zero, htop]
      unfold Format.binade
      exact Nat.pow_le_pow_right (by decide) (by omega)
    · have h3 : f.binade + r % f.binade ≤ 2 ^ (f.fractionBits + 1) := by
        have e : 2 ^ (f.fractionBits + 1) = 2 * f.binade := by unfold Format.binade; rw [Nat.pow_succ, Nat.mul_comm]
        omega
      refine Nat.le_trans h3 (Nat.pow_le_pow_right (by decide) (by omega))
end Go.Proofs.YticfmlohkfoccaaGreatDoor

/- The opposite of a float; square roots of small whole numbers; a 32-bit float made wide and narrow again; plain. -/
set_option linter.unusedVariables false
set_option linter.unusedSimpArgs false
namespace Go.Proofs.YticfmlohkfoccaaGreatDoor
open Ieee

theorem xor_top (r : Nat) (h : r < 2147483648) : r ^^^ 2 ^ 31 = 2 ^ 31 + r := by
  apply Nat.eq_of_testBit_eq
  intro i
  rw [Nat.testBit_xor, Nat.testBit_two_pow]
  by_cases hi : i = 31
  · subst hi
    rw [Nat.testBit_two_pow_add_eq, Nat.testBit_lt_two_pow h]; rfl
  · rw [decide_eq_false (fun h => hi h.symm), Bool.xor_false]
    by_cases hlt : i < 31
    · rw [Nat.testBit_two_pow_add_gt hlt]
    · have h1 : r < 2 ^ i := by
        have : 2 ^ 31 ≤ 2 ^ i := Nat.pow_le_pow_right (by decide) (show 31 ≤ i by omega)
        have e' : 2 ^ 31 = 2147483648 := by decide
        omega
      have h2 : 2 ^ 31 + r < 2 ^ i := by
        have : 2 ^ 32 ≤ 2 ^ i := Nat.pow_le_pow_right (by decide) (show 32 ≤ i by omega)
        have e : 2 ^ 32 = 4294967296 := by decide
        have e' : 2 ^ 31 = 2147483648 := by decide
        omega
      rw [Nat.testBit_lt_two_pow h1, Nat.testBit_lt_two_pow h2]
theorem xor_xor (b c : Nat) : (b ^^^ c) ^^^ c = b := by rw [Nat.xor_assoc, Nat.xor_self, Nat.xor_zero]
theorem neg_word (s : Bool) (r : Nat) (h : r < 2147483648) : Op.negFloat .f32 (single.word s r) = single.word (!s) r := by
  unfold Op.negFloat
  rw [show FloatKind.f32.format.exponentBits + FloatKind.f32.format.fractionBits = 31 from rfl]
  unfold Format.word
  rw [sw32]
  cases s
  · simp only [Bool.false_eq_true, if_false, Bool.not_false, if_true]
    rw [xor_top r h]
  · simp only [if_true, Bool.not_true, Bool.false_eq_true, if_false]
    have := xor_xor r (2 ^ 31)
    rw [xor_top r h] at this
    exact this
theorem cI_word (s : Bool) (N : Nat) (hN : N < 16777216) : ∃ r, r < 2147483648 ∧ ∀ s, cI single s N = single.word s r := by
  by_cases h0 : N = 0
  · subst h0
    exact ⟨0, by decide, fun s => by unfold cI Format.nearest; rfl⟩
  · refine ⟨rungOf single N, ?_, fun s => nearest_isN good32 s N 0 N h0 hN ⟨by omega, by simp⟩⟩
    have hl : N.log2 ≤ 23 := by
      have := (Nat.log2_lt h0).2 (show N < 2 ^ 24 from hN)
      omega
    unfold rungOf
    rw [show single.fractionBits = 23 from rfl, show single.leastPlace = -149 from rfl, bn32]
    have h1 : N < 2 ^ (N.log2 + 1) := Nat.lt_log2_self
    have h2 : N * 2 ^ (23 - N.log2) < 16777216 := by
      calc N * 2 ^ (23 - N.log2) < 2 ^ (N.log2 + 1) * 2 ^ (23 - N.log2) := Nat.mul_lt_mul_of_pos_right h1 (Nat.two_pow_pos _)
        _ = 2 ^ 24 := by rw [← Nat.pow_add]; congr 1; omega
        _ = 16777216 := by decide
    have h3 : ((N.log2 : Int) - (23 : Nat) - -149).toNat ≤ 149 := by omega
    omega
theorem J32.neg {x : Nat} {z : Int} (h : J32 x z) : J32 (Op.negFloat .f32 x) (-z) := by
  obtain ⟨s, N, rfl, hN, rfl⟩ := h
  obtain ⟨r, hr, hw⟩ := cI_word s N hN
  refine ⟨!s, N, ?_, hN, sval_not s N⟩
  rw [hw s, hw (!s), neg_word s r hr]
theorem neg_lt (b : Nat) (h : b < 4294967296) : Op.negFloat .f32 b < 4294967296 := by
  unfold Op.negFloat
  exact Nat.xor_lt_two_pow (n := 32) h (by decide)
theorem neg_neg (b : Nat) : Op.negFloat .f32 (Op.negFloat .f32 b) = b := xor_xor b _

/-! ### Square roots -/
theorem rootFrom_le (n : Nat) : ∀ todo root, Datum.rootFrom n todo root < root + 2 ^ todo
  | 0, root => by simp [Datum.rootFrom]
  | todo + 1, root => by
    have e : 1 <<< todo = 2 ^ todo := by rw [Nat.shiftLeft_eq, Nat.one_mul]
    have e2 : 2 ^ (todo + 1) = 2 ^ todo + 2 ^ todo := by rw [Nat.pow_succ]; omega
    have hp := Nat.two_pow_pos todo
    simp only [Datum.rootFrom]
    rw [e]
    split
    · have := rootFrom_le n todo (root + 2 ^ todo); omega
    · have := rootFrom_le n todo root; omega
/-- The square root of a whole number of at most 2^17, and that it can be made narrow. -/
theorem root_small (P : Nat) (hP : P < 131072) : ∃ r q, double.sqrt (cI double false P) = some r ∧ floatToFloatBits .f64 r .f32 = some q ∧ q < 4294967296 := by
  obtain ⟨m, i, hr, hi1, hm⟩ := read_cI good64 false P (by show P < 9007199254740992; omega)
  have hlow : i ≤ 0 := hi1
  suffices h : ∃ mag place, ((double.read (cI double false P)).root (double.fractionBits + 2)) = some (.number false mag place) ∧ Le mag place 9 by
    obtain ⟨mag, place, h1, h2⟩ := h
    obtain ⟨m', e', h3, h4⟩ := nearest_le good64 false mag place 9 h2 (by decide) (by decide)
    obtain ⟨m'', e'', h5, h6⟩ := nearest_le good32 false m' e' 9 h4 (by decide) (by decide)
    refine ⟨double.nearest false mag place, single.nearest false m' e', ?_, ?_, ?_⟩
    · unfold Format.sqrt
      rw [h1]; rfl
    · unfold floatToFloatBits
      rw [if_neg (by decide), show FloatKind.f64.decode (double.nearest false mag place) = double.read (double.nearest false mag place) from rfl, h3]
      dsimp only
      rw [show FloatKind.f32.encode (.number false m' e') = single.nearest false m' e' from rfl, show FloatKind.f32.decode (single.nearest false m' e') = single.read (single.nearest false m' e') from rfl, h5]
      rfl
    · exact single.nearest_lt false m' e'
  rw [hr]
  simp only [Datum.root]
  by_cases h0 : m = 0
  · rw [if_pos h0]
    exact ⟨m, i, rfl, Or.inl h0⟩
  · rw [if_neg h0]
    simp only [Bool.false_eq_true, if_false]
    have hP0 : P ≠ 0 := by
      rintro rfl
      apply h0; rw [hm]; simp
    have hPl : P.log2 ≤ 16 := by
      have := (Nat.log2_lt hP0).2 (show P < 2 ^ 17 from hP)
      omega
    have hml : m.log2 = P.log2 + (-i).toNat := by rw [hm, log2_mul_pow P _ hP0]
    refine ⟨_, _, rfl, ?_⟩
    rw [show 2 * (double.fractionBits + 2) = 108 from rfl]
    generalize hmore : 108 - m.log2 = more
    have hpar : ((i - (more : Int)) % 2).toNat ≤ 1 := by omega
    generalize hmm : more + ((i - (more : Int)) % 2).toNat = more'
    generalize hnn : m <<< more' = n
    have hnl : n.log2 = m.log2 + more' := by rw [← hnn, Nat.shiftLeft_eq, log2_mul_pow m _ h0]
    have hroot := rootFrom_le n (n.log2 / 2 + 1) 0
    have hsize : 2 * Datum.rootFrom n (n.log2 / 2 + 1) 0 + (Datum.rootFrom n (n.log2 / 2 + 1) 0 * Datum.rootFrom n (n.log2 / 2 + 1) 0 != n).toNat ≤ 2 ^ (n.log2 / 2 + 2) := by
      have h1 := Bool.toNat_le (Datum.rootFrom n (n.log2 / 2 + 1) 0 * Datum.rootFrom n (n.log2 / 2 + 1) 0 != n)
      have h2 : 2 ^ (n.log2 / 2 + 2) = 2 * 2 ^ (n.log2 / 2 + 1) := by rw [← Nat.pow_succ']
      omega
    right
    refine ⟨by omega, Nat.le_trans hsize (Nat.pow_le_pow_right (by decide) ?_)⟩
    omega
end Go.Proofs.YticfmlohkfoccaaGreatDoor

/- A 32-bit float made wide and narrow again is the float that it was, NaNs apart; plain, and what a conversion gives in every case. -/
set_option linter.unusedVariables false
set_option linter.unusedSimpArgs false
namespace Go.Proofs.YticfmlohkfoccaaGreatDoor
open Ieee

theorem word32 (b : Nat) (h : b < 4294967296) : b = single.word (b / single.signWeight % 2 == 1) (b % single.signWeight) := by
  unfold Format.word
  rw [sw32]
  have h1 : b / 2147483648 = 0 ∨ b / 2147483648 = 1 := by omega
  rcases h1 with h1 | h1
  · rw [h1]; simp; omega
  · rw [h1]; simp; omega
/-- The number of a 64-bit word that is made of a 32-bit one. -/
theorem read_wide (s : Bool) (m : Nat) (e : Int) (h0 : m ≠ 0) (hm : m < 16777216) (h1 : -149 ≤ e) (h2 : e ≤ 104) : double.read (double.nearest s m e) = .number s (m * 2 ^ (52 - m.log2)) (e - (52 - m.log2 : Nat)) := by
  have hlog : m.log2 < 24 := (Nat.log2_lt h0).2 hm
  have hlt : m < 2 ^ (m.log2 + 1) := Nat.lt_log2_self
  have hX1 : m * 2 ^ (52 - m.log2) < 9007199254740992 := by
    calc m * 2 ^ (52 - m.log2) < 2 ^ (m.log2 + 1) * 2 ^ (52 - m.log2) := Nat.mul_lt_mul_of_pos_right hlt (Nat.two_pow_pos _)
      _ = 2 ^ 53 := by rw [← Nat.pow_add]; congr 1; omega
      _ = 9007199254740992 := by decide
  have hX0 : 4503599627370496 ≤ m * 2 ^ (52 - m.log2) := by
    calc 4503599627370496 = 2 ^ 52 := by decide
      _ = 2 ^ m.log2 * 2 ^ (52 - m.log2) := by rw [← Nat.pow_add]; congr 1; omega
      _ ≤ m * 2 ^ (52 - m.log2) := Nat.mul_le_mul_right _ (Nat.log2_self_le h0)
  have hn : double.nearest s m e = double.word s ((e + (m.log2 : Int) - 52 + 1074).toNat * 4503599627370496 + m * 2 ^ (52 - m.log2)) := by
    unfold Format.nearest
    rw [if_neg h0]
    dsimp only
    rw [show double.leastPlace = -1074 from rfl, show double.fractionBits = 52 from rfl]
    rw [show max (e + (m.log2 : Int) - (52 : Nat)) (-1074) = e + (m.log2 : Int) - 52 from by omega]
    rw [show (e + (m.log2 : Int) - 52 - e).toNat = 0 from by omega, show (e - (e + (m.log2 : Int) - 52)).toNat = 52 - m.log2 from by omega, cut_none, Nat.shiftLeft_eq, bn64, if64]
    congr 1
    rw [show e + (m.log2 : Int) - 52 - -1074 = e + (m.log2 : Int) - 52 + 1074 from by omega]
    apply Nat.min_eq_left
    have : (e + (m.log2 : Int) - 52 + 1074).toNat ≤ 1149 := by omega
    omega
  rw [hn]
  generalize hX : m * 2 ^ (52 - m.log2) = X at *
  generalize hT : (e + (m.log2 : Int) - 52 + 1074).toNat = T at *
  have hTl : T ≤ 1149 := by omega
  have hr : T * 4503599627370496 + X < 9223372036854775808 := by omega
  have h3 : double.word s (T * 4503599627370496 + X) % double.signWeight = T * 4503599627370496 + X := by
    unfold Format.word; rw [sw64]; cases s <;> simp <;> omega
  have h4 : (double.word s (T * 4503599627370496 + X) / double.signWeight % 2 == 1) = s := by
    unfold Format.word; rw [sw64]; cases s <;> simp <;> omega
  unfold Format.read
  dsimp only
  rw [h3, h4, bn64, if64, if_neg (by omega), if_pos (by omega)]
  have h5 : (T * 4503599627370496 + X) % 4503599627370496 = X - 4503599627370496 := by omega
  have h6 : (T * 4503599627370496 + X) / 4503599627370496 = T + 1 := by omega
  rw [h5, h6, show double.leastPlace = -1074 from rfl]
  rw [show 4503599627370496 + (X - 4503599627370496) = X from by omega, show (-1074 : Int) + ((T + 1 - 1 : Nat) : Int) = e - ((52 - m.log2 : Nat) : Int) from by omega]
/-- A finite float, made of its own number with zeros behind, is itself. -/
theorem nearest_back (b : Nat) (hb : b < 4294967296) (hf : b % 2147483648 < 2139095040) (s : Bool) (m : Nat) (e : Int) (hr : single.read b = .number s m e) (d : Nat) : single.nearest s (m * 2 ^ d) (e - d) = b := by
  have hw := word32 b hb
  unfold Format.read at hr
  dsimp only at hr
  rw [sw32] at hw hr
  rw [bn32, if32] at hr
  have hfin : ∀ (s : Bool) (r m : Nat) (e : Int), m ≠ 0 → r < 2139095040 → e + m.log2 - 23 ≤ 104 → (∃ l : Int, max (e + (m.log2 : Int) - 23) (-149) = l ∧ l = e ∧ (l + 149).toNat * 8388608 + m = r) → single.nearest s (m * 2 ^ d) (e - d) = single.word s r := by
    intro s r m e h0 hrl h1 ⟨l, hl, hle, hrr⟩
    have hm0 : m * 2 ^ d ≠ 0 := Nat.mul_ne_zero h0 (Nat.ne_of_gt (Nat.two_pow_pos _))
    unfold Format.nearest
    rw [if_neg hm0]
    dsimp only
    rw [log2_mul_pow m d h0, show single.leastPlace = -149 from rfl, show single.fractionBits = 23 from rfl]
    rw [show max (e - (d : Int) + ((m.log2 + d : Nat) : Int) - (23 : Nat)) (-149) = l from by omega, hle]
    rw [show (e - (d : Int) - e).toNat = 0 from by omega, show (e - (e - (d : Int))).toNat = d from by omega, Nat.shiftLeft_zero, cut_exact s m d h0, bn32, if32]
    congr 1
    rw [show e - -149 = e + 149 from by omega, ← hle, hrr]
    exact Nat.min_eq_left (by omega)
  by_cases hsub : b % 2147483648 < 8388608
  · rw [if_pos hsub] at hr
    injection hr with h1 h2 h3
    rw [show single.leastPlace = -149 from rfl] at h3
    subst h1; subst h2; subst h3
    by_cases h0 : b % 2147483648 = 0
    · rw [h0, Nat.zero_mul]
      conv => rhs; rw [hw, h0]
      unfold Format.nearest
      rfl
    · have hlog : (b % 2147483648).log2 ≤ 22 := by
        have := (Nat.log2_lt h0).2 (show b % 2147483648 < 2 ^ 23 from hsub)
        omega
      conv => rhs; rw [hw]
      exact hfin _ _ _ _ h0 hf (by omega) ⟨-149, by omega, rfl, by omega⟩
  · rw [if_neg hsub, if_pos hf] at hr
    injection hr with h1 h2 h3
    rw [show single.leastPlace = -149 from rfl] at h3
    have hlog : m.log2 = 23 := by
      have h0 : m ≠ 0 := by omega
      apply Nat.le_antisymm
      · have := (Nat.log2_lt h0).2 (show m < 2 ^ 24 by omega)
        omega
      · exact (Nat.le_log2 h0).2 (by show 8388608 ≤ m; omega)
    conv => rhs; rw [hw]
    rw [h1]
    exact hfin _ _ _ _ (by omega) hf (by omega) ⟨e, by omega, rfl, by omega⟩
/-- Making narrow what was made wide. -/
theorem narrow_wide (b : Nat) (hb : b < 4294967296) (hn : nan32 b = false) : ∃ u, floatToFloatBits .f32 b .f64 = some u ∧ floatToFloatBits .f64 u .f32 = some b := by
  unfold nan32 at hn
  rw [decide_eq_false_iff_not] at hn
  by_cases hi : b % 2147483648 = 2139095040
  · have hw := word32 b hb
    rw [sw32, hi] at hw
    rw [hw]
    cases (b / 2147483648 % 2 == 1)
    · exact ⟨9218868437227405312, by decide, by decide⟩
    · exact ⟨18442240474082181120, by decide, by decide⟩
  · have hf : fin b = true := by rw [fin_iff, decide_eq_true_iff]; omega
    obtain ⟨s, m, e, hr, h1, h2, h3⟩ := read_bound b hf
    refine ⟨wide b, (wide_read b hf).2, ?_⟩
    have hw : wide b = double.nearest s m e := by unfold wide; rw [hr]; rfl
    have hback : ∀ d : Nat, single.nearest s (m * 2 ^ d) (e - d) = b := nearest_back b hb (by omega) s m e hr
    have hbr : FloatKind.f32.decode b = .number s m e := hr
    unfold floatToFloatBits
    rw [if_neg (by decide), show FloatKind.f64.decode (wide b) = double.read (wide b) from rfl, hw]
    by_cases h0 : m = 0
    · subst h0
      have hz : double.nearest s 0 e = double.word s 0 := by unfold Format.nearest; rfl
      have hz2 : double.read (double.word s 0) = .number s 0 (-1074) := by cases s <;> rfl
      rw [hz, hz2]
      dsimp only
      have he : FloatKind.f32.encode (.number s 0 (-1074)) = b := by
        rw [← hback 0]
        show single.nearest s 0 (-1074) = _
        unfold Format.nearest
        simp
      rw [he, hbr]
      rfl
    · rw [read_wide s m e h0 h1 h2 h3]
      dsimp only
      have he : FloatKind.f32.encode (.number s (m * 2 ^ (52 - m.log2)) (e - (52 - m.log2 : Nat))) = b := hback _
      rw [he, hbr]
      rfl
end Go.Proofs.YticfmlohkfoccaaGreatDoor

/- The program's products, powers, quotients of complex numbers whose parts are small whole numbers, walked: exact. -/
set_option linter.unusedVariables false
set_option linter.unusedSimpArgs false
namespace Go.Proofs.YticfmlohkfoccaaGreatDoor
open Go.RowKit Go.Proofs.YticfmlohkfoccaaGreatDoorW.PrintWords

theorem run_wide {b r : Nat} (h : floatToFloatBits .f32 b .f64 = some r) (W : World) : (convert 29 57 (.float .f32 b)).run Tryz.prog W = .ok (.float .f64 r) W :=
  run_convert_float_float W 29 57 .f32 .f64 b r (by rw [Tryz.underlying29]; rfl) Tryz.underlying57 h
theorem run_narrow {b r : Nat} (h : floatToFloatBits .f64 b .f32 = some r) (W : World) : (convert 57 29 (.float .f64 b)).run Tryz.prog W = .ok (.float .f32 r) W :=
  run_convert_float_float W 57 29 .f64 .f32 b r (by rw [Tryz.underlying57]; rfl) Tryz.underlying29 h
theorem run64 {op : BinOp} {x y r : Nat} (h : floatBits op .f64 x y = some r) (W : World) : (binOp op 57 (.float .f64 x) (.float .f64 y)).run Tryz.prog W = .ok (.float .f64 r) W := run_float_arith W op 57 .f64 x y r h
theorem run32 {op : BinOp} {x y r : Nat} (h : floatBits op .f32 x y = some r) (W : World) : (binOp op 29 (.float .f32 x) (.float .f32 y)).run Tryz.prog W = .ok (.float .f32 r) W := run_float_arith W op 29 .f32 x y r h
/-- A call that gives a value and leaves the world. -/
def Pure (f : Nat) (args : Array Value) (v : Value) : Prop := ∀ w, Calls Tryz.prog f args w fun e w' => e = .returned v ∧ w' = w
set_option maxRecDepth 100000 in
theorem wideParts_calls {x y : Nat} {a b : Int} (hx : J32 x a) (hy : J32 y b) : ∃ u v, J64 u a ∧ J64 v b ∧ Pure 116 #[.complex .f32 x y] (.tuple #[.float .f64 u, .float .f64 v]) := by
  obtain ⟨u, hu, ju⟩ := hx.wide
  obtain ⟨v, hv, jv⟩ := hy.wide
  refine ⟨u, v, ju, jv, fun w => ?_⟩
  have c1 := run_wide hu
  have c2 := run_wide hv
  clear hu hv ju jv hx hy
  go_enter Tryz.func116, Tryz.ntmps116
  go_wp2_with fail
  go_ret2
  exact ⟨rfl, rfl⟩
theorem mul_bound {a b : Int} {A B : Nat} (ha : a.natAbs ≤ A) (hb : b.natAbs ≤ B) : (a * b).natAbs ≤ A * B := by
  rw [Int.natAbs_mul]; exact Nat.mul_le_mul ha hb
set_option maxRecDepth 100000 in
theorem wideProduct_calls {x y z t : Nat} {a b c d : Int} (hx : J32 x a) (hy : J32 y b) (hz : J32 z c) (ht : J32 t d) (ha : a.natAbs ≤ 100000) (hb : b.natAbs ≤ 100000) (hc : c.natAbs ≤ 100000) (hd : d.natAbs ≤ 100000) :
    ∃ u v, J64 u (a * c - b * d) ∧ J64 v (a * d + b * c) ∧ Pure 66 #[.complex .f32 x y, .complex .f32 z t] (.tuple #[.float .f64 u, .float .f64 v]) := by
  obtain ⟨x', y', jx, jy, hp1⟩ := wideParts_calls hx hy
  obtain ⟨z', t', jz, jt, hp2⟩ := wideParts_calls hz ht
  have b1 := mul_bound ha hc
  have b2 := mul_bound hb hd
  have b3 := mul_bound ha hd
  have b4 := mul_bound hb hc
  obtain ⟨m1, h1, j1⟩ := jx.mul jz (by omega)
  obtain ⟨m2, h2, j2⟩ := jy.mul jt (by omega)
  obtain ⟨m3, h3, j3⟩ := jx.mul jt (by omega)
  obtain ⟨m4, h4, j4⟩ := jy.mul jz (by omega)
  obtain ⟨u, h5, j5⟩ := j1.sub j2 (by omega)
  obtain ⟨v, h6, j6⟩ := j3.add j4 (by omega)
  refine ⟨u, v, j5, j6, fun w => ?_⟩
  have r1 := run64 h1
  have r2 := run64 h2
  have r3 := run64 h3
  have r4 := run64 h4
  have r5 := run64 h5
  have r6 := run64 h6
  have HP1 := Lib.hid hp1
  have HP2 := Lib.hid hp2
  clear h1 h2 h3 h4 h5 h6 j1 j2 j3 j4 j5 j6 b1 b2 b3 b4 hp1 hp2 jx jy jz jt hx hy hz ht ha hb hc hd
  go_enter Tryz.func66, Tryz.ntmps66
  go_wp2_with fail
  refine (HP1.out _).mono ?_
  rintro e w1 ⟨rfl, rfl⟩
  go_wp2_with fail
  refine (HP2.out _).mono ?_
  rintro e w1 ⟨rfl, rfl⟩
  go_wp2_with fail
  go_ret2
  exact ⟨rfl, rfl⟩
set_option maxRecDepth 100000 in
theorem mul_calls {x y z t : Nat} {a b c d : Int} (hx : J32 x a) (hy : J32 y b) (hz : J32 z c) (ht : J32 t d) (ha : a.natAbs ≤ 200) (hb : b.natAbs ≤ 200) (hc : c.natAbs ≤ 200) (hd : d.natAbs ≤ 200) :
    ∃ u v, J32 u (a * c - b * d) ∧ J32 v (a * d + b * c) ∧ Pure 18 #[.complex .f32 x y, .complex .f32 z t] (.complex .f32 u v) := by
  obtain ⟨u', v', ju, jv, hp⟩ := wideProduct_calls hx hy hz ht (by omega) (by omega) (by omega) (by omega)
  have b1 := mul_bound ha hc
  have b2 := mul_bound hb hd
  have b3 := mul_bound ha hd
  have b4 := mul_bound hb hc
  obtain ⟨u, h1, j1⟩ := ju.narrow (by omega)
  obtain ⟨v, h2, j2⟩ := jv.narrow (by omega)
  refine ⟨u, v, j1, j2, fun w => ?_⟩
  have r1 := run_narrow h1
  have r2 := run_narrow h2
  have HP := Lib.hid hp
  clear h1 h2 j1 j2 b1 b2 b3 b4 hp ju jv hx hy hz ht ha hb hc hd
  go_enter Tryz.func18, Tryz.ntmps18
  go_wp2_with fail
  refine (HP.out _).mono ?_
  rintro e w1 ⟨rfl, rfl⟩
  go_wp2_with fail
  go_ret
  exact ⟨rfl, rfl⟩
/-- The power of a number. -/
def pw (a b : Int) : Nat := a.natAbs * a.natAbs + b.natAbs * b.natAbs
theorem J64.sq {u : Nat} {a : Int} (h : J64 u a) (hb : a.natAbs ≤ 100000) : floatBits .mul .f64 u u = some (cI Ieee.double false (a.natAbs * a.natAbs)) := by
  obtain ⟨s, M, rfl, hM, rfl⟩ := h
  rw [sval_abs] at hb ⊢
  have hm : M * M ≤ 100000 * 100000 := Nat.mul_le_mul hb hb
  have := cI_mul good64 s s M M hM hM (by show M * M < 9007199254740992; omega)
  rw [show (s ^^ s) = false from by cases s <;> rfl] at this
  exact this
theorem add_nonneg (A B : Nat) (h : A + B < 9007199254740992) : floatBits .add .f64 (cI Ieee.double false A) (cI Ieee.double false B) = some (cI Ieee.double false (A + B)) := by
  have e : sval false A + sval false B = ((A + B : Nat) : Int) := by simp [sval]
  have := cI_add good64 false false A B (by show A < 9007199254740992; omega) (by show B < 9007199254740992; omega) (by rw [e]; show A + B < 9007199254740992; omega)
  rw [e] at this
  refine this.trans ?_
  congr 2
  by_cases hz : ((A + B : Nat) : Int) = 0
  · rw [if_pos hz]; rfl
  · rw [if_neg hz]; exact decide_eq_false (by omega)
set_option maxRecDepth 100000 in
theorem widePower_calls {x y : Nat} {a b : Int} (hx : J32 x a) (hy : J32 y b) (ha : a.natAbs ≤ 200) (hb : b.natAbs ≤ 200) : Pure 67 #[.complex .f32 x y] (.float .f64 (cI Ieee.double false (pw a b))) := by
  obtain ⟨x', y', jx, jy, hp⟩ := wideParts_calls hx hy
  intro w
  have h1 := jx.sq (by omega)
  have h2 := jy.sq (by omega)
  have m1 : a.natAbs * a.natAbs ≤ 200 * 200 := Nat.mul_le_mul ha ha
  have m2 : b.natAbs * b.natAbs ≤ 200 * 200 := Nat.mul_le_mul hb hb
  have h3 := add_nonneg (a.natAbs * a.natAbs) (b.natAbs * b.natAbs) (by omega)
  have r1 := run64 h1
  have r2 := run64 h2
  have r3 := run64 h3
  have HP := Lib.hid hp
  unfold pw
  clear h1 h2 h3 m1 m2 hp jx jy hx hy ha hb
  generalize cI Ieee.double false (a.natAbs * a.natAbs + b.natAbs * b.natAbs) = p at *
  generalize cI Ieee.double false (a.natAbs * a.natAbs) = p1 at *
  generalize cI Ieee.double false (b.natAbs * b.natAbs) = p2 at *
  go_enter Tryz.func67, Tryz.ntmps67
  go_wp2_with fail
  refine (HP.out _).mono ?_
  rintro e w1 ⟨rfl, rfl⟩
  go_wp2_with fail
  go_ret
  exact ⟨rfl, rfl⟩
theorem pw_lt {a b : Int} (ha : a.natAbs ≤ 200) (hb : b.natAbs ≤ 200) : pw a b ≤ 80000 := by
  have m1 : a.natAbs * a.natAbs ≤ 200 * 200 := Nat.mul_le_mul ha ha
  have m2 : b.natAbs * b.natAbs ≤ 200 * 200 := Nat.mul_le_mul hb hb
  unfold pw; omega
set_option maxRecDepth 100000 in
theorem power_calls {x y : Nat} {a b : Int} (hx : J32 x a) (hy : J32 y b) (ha : a.natAbs ≤ 200) (hb : b.natAbs ≤ 200) : Pure 19 #[.complex .f32 x y] (.float .f32 (cI Ieee.single false (pw a b))) := by
  intro w
  have HP := Lib.hid (widePower_calls hx hy ha hb)
  have hl := pw_lt ha hb
  have r1 := run_narrow (narrow_cI false (pw a b) (by omega))
  clear hx hy ha hb hl
  generalize cI Ieee.double false (pw a b) = p at *
  generalize cI Ieee.single false (pw a b) = q at *
  go_enter Tryz.func19, Tryz.ntmps19
  go_wp2_with fail
  refine (HP.out _).mono ?_
  rintro e w1 ⟨rfl, rfl⟩
  go_wp2_with fail
  go_ret
  exact ⟨rfl, rfl⟩
set_option maxRecDepth 100000 in
theorem conj_calls (x y : Nat) : Pure 20 #[.complex .f32 x y] (.complex .f32 x (Op.negFloat .f32 y)) := by
  intro w
  have hneg : Op.unary .neg (.float .f32 y) = pure (.float .f32 (Op.negFloat .f32 y)) := rfl
  go_enter Tryz.func20, Tryz.ntmps20
  go_wp2_with fail
  go_ret
  exact ⟨rfl, rfl⟩

/-! ### Square roots -/
theorem run_sqrt {x r : Nat} (h : FloatKind.f64.format.sqrt x = some r) (w : World) : (callFunc 118 #[.float .f64 x]).run Tryz.prog w = .ok (.value (.float .f64 r)) w := by
  have e : Extern.MathSqrt.sqrt #[.float .f64 x] = pure (.float .f64 r) := by
    show (match FloatKind.f64.format.sqrt x with
      | some r => pure (.float .f64 r)
      | none => do pure (.float .f64 (← choose (.nanBits .f64 x x)))) = (pure (.float .f64 r) : Sem Value)
    rw [h]
  rw [run_callFunc_extern Tryz.func118 (by kernel_rfl) (by kernel_rfl) (by kernel_rfl) (e := Extern.MathSqrt.sqrt) (by kernel_rfl), e]
  rfl
set_option maxRecDepth 100000 in
theorem sqrt_calls {x r : Nat} (h : FloatKind.f64.format.sqrt x = some r) : Pure 69 #[.float .f64 x] (.float .f64 r) := by
  intro w
  have hs := run_sqrt h
  clear h
  go_enter Tryz.func69, Tryz.ntmps69
  go_wp2_with fail
  go_ret
  exact ⟨rfl, rfl⟩
/-- Both sides' root of a power. -/
theorem roots_calls {x y : Nat} {a b : Int} (hx : J32 x a) (hy : J32 y b) (ha : a.natAbs ≤ 200) (hb : b.natAbs ≤ 200) : ∃ q, q < 4294967296 ∧ Pure 22 #[.complex .f32 x y] (.float .f32 q) ∧ Pure 23 #[.float .f32 (cI Ieee.single false (pw a b))] (.float .f32 q) := by
  have hl := pw_lt ha hb
  obtain ⟨r, q, h1, h2, h3⟩ := root_small (pw a b) (by omega)
  have hp := widePower_calls hx hy ha hb
  have hs := sqrt_calls h1
  have hn := run_narrow h2
  have hw : floatToFloatBits .f32 (cI Ieee.single false (pw a b)) .f64 = some (cI Ieee.double false (pw a b)) := by
    obtain ⟨m, i, hr, hi⟩ := read_cI good32 false (pw a b) (by show pw a b < 16777216; omega)
    unfold floatToFloatBits
    rw [if_neg (by decide), show FloatKind.f32.decode (cI Ieee.single false (pw a b)) = Ieee.single.read (cI Ieee.single false (pw a b)) from rfl, hr]
    dsimp only
    have e : FloatKind.f64.encode (.number false m i) = cI Ieee.double false (pw a b) := cI_nearest good64 false m i _ (by show pw a b < 9007199254740992; omega) hi
    rw [e, show FloatKind.f64.decode (cI Ieee.double false (pw a b)) = Ieee.double.read (cI Ieee.double false (pw a b)) from rfl, cI_num good64 false _ (by show pw a b < 9007199254740992; omega)]
    rfl
  have hv := run_wide hw
  have HP := Lib.hid hp
  have HS := Lib.hid hs
  clear hp hs h1 h2 hw hx hy ha hb hl
  generalize cI Ieee.double false (pw a b) = p at *
  generalize cI Ieee.single false (pw a b) = ps at *
  have hN : Pure 119 #[.float .f64 r] (.float .f32 q) := by
    intro w
    clear HP HS hv
    go_enter Tryz.func119, Tryz.ntmps119
    go_wp2_with fail
    go_ret
    exact ⟨rfl, rfl⟩
  have HN := Lib.hid hN
  clear hN
  have h70 : Pure 70 #[.float .f32 ps] (.float .f32 q) := by
    intro w
    go_enter Tryz.func70, Tryz.ntmps70
    go_wp2_with fail
    refine (HS.out _).mono ?_
    rintro e w1 ⟨rfl, rfl⟩
    go_wp2_with fail
    refine (HN.out _).mono ?_
    rintro e w1 ⟨rfl, rfl⟩
    go_wp2_with fail
    go_ret
    exact ⟨rfl, rfl⟩
  have H70 := Lib.hid h70
  clear h70
  refine ⟨q, h3, fun w => ?_, fun w => ?_⟩
  · go_enter Tryz.func22, Tryz.ntmps22
    go_wp2_with fail
    refine (HP.out _).mono ?_
    rintro e w1 ⟨rfl, rfl⟩
    go_wp2_with fail
    refine (HS.out _).mono ?_
    rintro e w1 ⟨rfl, rfl⟩
    go_wp2_with fail
    go_ret
    exact ⟨rfl, rfl⟩
  · go_enter Tryz.func23, Tryz.ntmps23
    go_wp2_with fail
    refine (H70.out _).mono ?_
    rintro e w1 ⟨rfl, rfl⟩
    go_wp2_with fail
    go_ret
    exact ⟨rfl, rfl⟩
/-! ### Quotients and multiples -/
theorem pw_int (c d : Int) : (pw c d : Int) = c * c + d * d := by
  unfold pw
  have h : ∀ x : Int, ((x.natAbs * x.natAbs : Nat) : Int) = x * x := fun x => Int.natAbs_mul_self
  rw [Int.natCast_add, h, h]
set_option maxRecDepth 100000 in
theorem quotient_calls {p1 p2 z t : Nat} {a b c d : Int} (hp1 : J32 p1 (a * c - b * d)) (hp2 : J32 p2 (a * d + b * c)) (hz : J32 z c) (ht : J32 t d) (ha : a.natAbs ≤ 200) (hb : b.natAbs ≤ 200) (hc : c.natAbs ≤ 200) (hd : d.natAbs ≤ 200) (h0 : pw c d ≠ 0) :
    ∃ u v, J32 u a ∧ J32 v b ∧ Pure 24 #[.complex .f32 p1 p2, .complex .f32 z t] (.complex .f32 u v) := by
  have b1 := mul_bound ha hc
  have b2 := mul_bound hb hd
  have b3 := mul_bound ha hd
  have b4 := mul_bound hb hc
  have hN := ht.neg
  obtain ⟨n1, n2, j1, j2, hw⟩ := wideProduct_calls hp1 hp2 hz hN (by omega) (by omega) (by omega) (by omega)
  have hl := pw_lt hc hd
  have e1 : (a * c - b * d) * c - (a * d + b * c) * -d = a * (pw c d : Int) := by rw [pw_int]; simp only [Int.sub_mul, Int.add_mul, Int.mul_add, Int.mul_neg]; have := Int.mul_assoc a c c; have := Int.mul_assoc a d d; have := Int.mul_right_comm b d c; omega
  have e2 : (a * c - b * d) * -d + (a * d + b * c) * c = b * (pw c d : Int) := by rw [pw_int]; simp only [Int.sub_mul, Int.add_mul, Int.mul_add, Int.mul_neg]; have := Int.mul_assoc b c c; have := Int.mul_assoc b d d; have := Int.mul_right_comm a d c; omega
  rw [e1] at j1
  rw [e2] at j2
  have jp : J64 (cI Ieee.double false (pw c d)) (pw c d : Int) := ⟨false, pw c d, rfl, by omega, rfl⟩
  obtain ⟨u', hu, ju⟩ := j1.quo jp (by omega) (by omega)
  obtain ⟨v', hv, jv⟩ := j2.quo jp (by omega) (by omega)
  obtain ⟨u, hu2, ju2⟩ := ju.narrow (by omega)
  obtain ⟨v, hv2, jv2⟩ := jv.narrow (by omega)
  refine ⟨u, v, ju2, jv2, fun w => ?_⟩
  have r1 := run64 hu
  have r2 := run64 hv
  have r3 := run_narrow hu2
  have r4 := run_narrow hv2
  have HW := Lib.hid hw
  have HC := Lib.hid (conj_calls z t)
  have HP := Lib.hid (widePower_calls hz ht hc hd)
  clear hu hv hu2 hv2 ju jv ju2 jv2 jp j1 j2 hw hN b1 b2 b3 b4 hp1 hp2 hz ht ha hb hc hd h0 hl e1 e2
  generalize cI Ieee.double false (pw c d) = pp at *
  go_enter Tryz.func24, Tryz.ntmps24
  go_wp2_with fail
  refine (HC.out _).mono ?_
  rintro e w1 ⟨rfl, rfl⟩
  go_wp2_with fail
  refine (HW.out _).mono ?_
  rintro e w1 ⟨rfl, rfl⟩
  go_wp2_with fail
  refine (HP.out _).mono ?_
  rintro e w1 ⟨rfl, rfl⟩
  go_wp2_with fail
  go_ret
  exact ⟨rfl, rfl⟩
theorem two_J32 : J32 1073741824 2 := ⟨false, 2, by decide +kernel, by decide, rfl⟩
set_option maxRecDepth 100000 in
theorem scale_calls {x y : Nat} {a b : Int} (hx : J32 x a) (hy : J32 y b) (ha : a.natAbs ≤ 200) (hb : b.natAbs ≤ 200) : ∃ u v, J32 u (a * 2) ∧ J32 v (b * 2) ∧ Pure 25 #[.complex .f32 x y, .float .f32 1073741824] (.complex .f32 u v) := by
  obtain ⟨u, hu, ju⟩ := hx.mul two_J32 (by omega)
  obtain ⟨v, hv, jv⟩ := hy.mul two_J32 (by omega)
  refine ⟨u, v, ju, jv, fun w => ?_⟩
  have r1 := run32 hu
  have r2 := run32 hv
  clear hu hv ju jv hx hy ha hb
  go_enter Tryz.func25, Tryz.ntmps25
  go_wp2_with fail
  go_ret
  exact ⟨rfl, rfl⟩
end Go.Proofs.YticfmlohkfoccaaGreatDoor

/- The texts of lists of numbers, at slices of whatever capacity and at empty ones, walked; and that reading them gives the numbers back, plain. -/
set_option linter.unusedVariables false
set_option linter.unusedSimpArgs false
namespace Go.Proofs.YticfmlohkfoccaaGreatDoor
open Go.RowKit Go.Proofs.YticfmlohkfoccaaGreatDoorW.PrintWords

/-! ### Plain -/
theorem dg_ne (d : Nat) (h : d < 16) : Plain.dg d ≠ 44 := by
  intro e
  have h1 := Plain.dg_toNat d h
  rw [e] at h1
  have h2 : (44 : UInt8).toNat = 44 := rfl
  split at h1 <;> omega
theorem hexL_no (k : Nat) : ∀ n, (44 : UInt8) ∉ Plain.hexL k n := by
  induction k with
  | zero => intro n h; cases h
  | succ k ih =>
    intro n h
    simp only [Plain.hexL] at h
    rcases List.mem_append.1 h with h | h
    · exact ih _ h
    · exact dg_ne _ (Nat.mod_lt _ (by decide)) (List.mem_singleton.1 h).symm
theorem textF_no (n : Nat) : (44 : UInt8) ∉ textF n := hexL_no 8 _
theorem textC_no (x : Nat × Nat) : (44 : UInt8) ∉ textC x := by
  intro h
  rcases List.mem_append.1 h with h | h
  · exact textF_no _ h
  · exact textF_no _ h
theorem cutAll_join_no (m : UInt8) : ∀ (L : List (List UInt8)), L ≠ [] → (∀ p ∈ L, m ∉ p) → Plain.cutAll m (Lib.join L [m]) = L
  | [], h, _ => absurd rfl h
  | [x], _, h => by
    have e : Lib.join [x] [m] = x := by simp [Lib.join_cons, Lib.joinTail]
    rw [e]
    exact Plain.cutAll_none m x (h x (by simp))
  | x :: y :: r, _, h => by
    have e : Lib.join (x :: y :: r) [m] = x ++ m :: Lib.join (y :: r) [m] := by
      simp [Lib.join_cons, Lib.joinTail]
    rw [e, Plain.cutAll_found m x _ (h x (by simp)), cutAll_join_no m (y :: r) (by simp) (fun p hp => h p (by simp [hp]))]
theorem bits_bits (n : Nat) : bits (bits n) = bits n := by
  unfold bits
  by_cases h : nan32 n
  · rw [if_pos h]; rfl
  · rw [if_neg h, if_neg h]
theorem bits_lt' {n : Nat} (h : n < 4294967296) : bits n < 4294967296 := by
  unfold bits; split
  · decide
  · exact h
theorem num8_back (n : Nat) (h : n < 4294967296) : num8 (textF n) = some (bits n) := by
  unfold num8 textF
  rw [if_pos (Plain.hexL_length 8 _), Plain.hexN_hexL 8 _ (bits_lt' h)]
  dsimp only
  rw [if_pos (bits_bits n)]
theorem readC_back (x : Nat × Nat) (h : x.1 < 4294967296 ∧ x.2 < 4294967296) : readC (textC x) = some (bits x.1, bits x.2) := by
  unfold readC
  rw [if_pos (textC_length x)]
  have h1 : (textC x).take 8 = textF x.1 := by
    unfold textC
    rw [List.take_append_of_le_length (Nat.le_of_eq (textF_length _).symm)]
    exact List.take_of_length_le (Nat.le_of_eq (textF_length _))
  have h2 : (textC x).drop 8 = textF x.2 := by
    unfold textC
    rw [List.drop_append_of_le_length (Nat.le_of_eq (textF_length _).symm), List.drop_of_length_le (Nat.le_of_eq (textF_length _))]
    rfl
  rw [h1, h2, num8_back _ h.1, num8_back _ h.2]
theorem readAll_map {α β : Type} (read : List UInt8 → Option β) (text : α → List UInt8) (f : α → β) : ∀ (l : List α), (∀ x ∈ l, read (text x) = some (f x)) → Plain.readAll read (l.map text) = some (l.map f)
  | [], _ => rfl
  | x :: r, h => by
    simp only [List.map_cons, Plain.readAll]
    rw [h x (by simp), readAll_map read text f r (fun y hy => h y (by simp [hy]))]
theorem readList_map {α β : Type} (read : List UInt8 → Option β) (text : α → List UInt8) (f : α → β) (l : List α) (hn : l ≠ []) (hl : l.length ≤ 256) (h : ∀ x ∈ l, read (text x) = some (f x)) (hno : ∀ x ∈ l, (44 : UInt8) ∉ text x) (hlen : ∀ x ∈ l, 8 ≤ (text x).length) :
    Plain.readList read (Lib.join (l.map text) [44]) = some (l.map f) := by
  have hc : Plain.cutAll 44 (Lib.join (l.map text) [44]) = l.map text := cutAll_join_no 44 _ (by simpa using hn) (by
    intro p hp
    obtain ⟨x, hx, rfl⟩ := List.mem_map.1 hp
    exact hno x hx)
  have hne : Lib.join (l.map text) [44] ≠ Plain.none4 := by
    intro e
    cases l with
    | nil => exact hn rfl
    | cons x r =>
      have h1 := congrArg List.length e
      rw [List.map_cons, Lib.join_cons, List.length_append] at h1
      have h2 := hlen x (by simp)
      have h3 : Plain.none4.length = 4 := rfl
      omega
  unfold Plain.readList
  rw [if_neg hne, hc, if_neg (by simp; omega)]
  exact readAll_map read text f l h

/-! ### Walked -/
set_option maxHeartbeats 1000000 in
set_option maxRecDepth 100000 in
theorem textOfC2_calls (g c0 : Nat) (l : List (Nat × Nat)) (hn : l ≠ []) (hl : l.length ≤ 256) (hb : ∀ x ∈ l, x.1 < 4294967296 ∧ x.2 < 4294967296) (w : World) (hv : Vars w) (hc : ∀ j (h : j < l.length), w.cell? ⟨g, j, none⟩ = some (.complex .f32 l[j].1 l[j].2)) :
    Calls Tryz.prog 72 #[.slice (some ⟨g, 0, none⟩) l.length c0, .func (.func 73) #[] #[]] w fun e w' => e = .returned (.tuple #[.string (mk (Lib.join (l.map textC) [44])), .bool true]) ∧ Below w.heap.size w w' := by
  have HV := Lib.hid hv; clear hv
  have HC := Lib.hid hc; clear hc
  have HN := Lib.hid hb; clear hb
  go_enter Tryz.func72, Tryz.ntmps72
  go_wp2_with fail
  refine (fewC_calls _ _ _ hl w).mono ?_
  rintro e w1 ⟨rfl, rfl⟩
  go_wp2_with (first | ((with_reducible refine gate_dst (N := 12) rfl ?_); refine Kd.R_lit Kd.string w.heap.size 9 ?hg (N := 12) ?hd (xs := ([] : List ByteArray)) (inner := []) (ok := fun _ => True) (okp := fun _ => True) ?hr ?hp (fun _ hk => hk) trivial (Below.refl w.heap.size w) (Nat.le_refl _) (by simp) ?_; (case hd => rfl); (case hg => rfl); (case hr => first | (go_simp; done) | (go_simp; rfl)); (case hp => exact (Reps.none _ _)); intro v2 w2 ho2 hb2 hg2 hnew2; clear hg2 hnew2))
  have HO : Aside0 (Out Kd.string 9 w v2 [] w2) := ⟨⟨ho2, hb2⟩⟩
  clear ho2 hb2
  go_loopw [6, 15] (fun v i wr => ∃ (k : Nat), i = .int .i64 k ∧ k ≤ l.length ∧ Aside0 (Out Kd.string 9 w v ((l.take k).map fun x => mk (textC x)) wr)) (fun _ i _ => l.length - (intOf i).toNat)
  case atStart => exact ⟨0, rfl, by omega, HO⟩
  case round =>
    clear HO
    obtain ⟨k, rfl, hk, HO⟩ := hrel
    by_cases hlt : k < l.length
    · have hcell := pw_cell_below HO.out.bel (HC.out k hlt)
      have hxb := HN.out l[k] (List.getElem_mem _)
      have hst : (l.take (k + 1)).map (fun x => mk (textC x)) = (l.take k).map (fun x => mk (textC x)) ++ [mk (textC l[k])] := by rw [List.take_succ_eq_append_getElem hlt, List.map_append]; rfl
      have hol : ((l.take k).map fun x => mk (textC x)).length = k := by simp; omega
      have Hst := Lib.hid hst; clear hst
      generalize (l.take k).map (fun x => mk (textC x)) = o at *
      have HX := Lib.hid (fun W hW => hexC_calls l[k] hxb W hW)
      generalize l[k] = x at *
      clear hxb
      generalize mk (textC x) = tx at *
      have e24 : decide (k < l.length) = true := decide_eq_true hlt
      go_wp2_with fail
      refine (HX.out _ (HV.out.step HO.out.bel)).mono ?_
      rintro e w5 ⟨rfl, hb⟩
      have HO5 := Aside0.mk (HO.out.more hb); clear hb HX HO hcell
      go_wp2_with (first | ((with_reducible refine gate_builtin (b := .append) (xs := #[.tmp 19, .tmp 23]) rfl ?_); at_builtin; refine Kd.R_append Kd.string (w0 := w) w.heap.size rfl (.tmp 19) (.tmp 23) 85 9 (.string ⟨#[]⟩) 16 rfl Tryz.underlying85 PFnExactReadGrain.info9 rfl (by decide) (by omega) u6 o tx [.string tx] (fun _ => True) (fun _ => False) rfl rfl ?aP (fun _ hk => hk.elim) ?aF ?aO ?aB ?aS ?aL ?_; (case aP => exact rfl); (case aB => exact HO5.out.bel); (case aF => exact (fun _ _ => trivial)); (case aO => exact HO5.out.row); (case aS => exact HO5.out.bel.size); (case aL => omega); intro v5 w6 ho5 hb5 hg5 hat5; have HO6 : Aside0 (Out Kd.string 9 w v5 (o ++ [tx]) w6) := ⟨⟨ho5, hb5⟩⟩; clear ho5 hb5 hg5 hat5))
      go_roundw
      case rel => exact ⟨k + 1, by go_num, by omega, by rw [Hst.out]; exact HO6⟩
      case measure => simp [intOf]; omega
    · have ht : l.take k = l := List.take_of_length_le (by omega)
      rw [ht] at HO
      have hne : l.map (fun x => mk (textC x)) ≠ [] := by simpa using hn
      have hle : (l.map (fun x => mk (textC x))).length ≤ 256 := by simpa using hl
      have HJ := Lib.hid (orNone_calls _ _ w wr HO.out hne hle (by
        intro p hp
        simp only [List.mem_map] at hp
        obtain ⟨q, ⟨x, hx, rfl⟩, rfl⟩ := hp
        rw [mk_data, textC_length]; omega))
      have hj : (l.map (fun x => mk (textC x))).map (·.data.toList) = l.map textC := by simp [Function.comp_def, mk_data]
      rw [hj] at HJ
      clear hj hne hle ht
      go_wp2_with fail
      refine HJ.out.mono ?_
      rintro e w5 ⟨rfl, hb⟩
      have HB := Lib.hid (below_then HO.out.bel HO.out.bel.size hb); clear hb
      go_wp2
      go_ret2
      exact ⟨rfl, HB.out⟩

set_option maxHeartbeats 1000000 in
set_option maxRecDepth 100000 in
theorem textOfF2_calls (g c0 : Nat) (l : List Nat) (hn : l ≠ []) (hl : l.length ≤ 256) (hb : ∀ x ∈ l, x < 4294967296) (w : World) (hv : Vars w) (hc : ∀ j (h : j < l.length), w.cell? ⟨g, j, none⟩ = some (.float .f32 l[j])) :
    Calls Tryz.prog 93 #[.slice (some ⟨g, 0, none⟩) l.length c0, .func (.func 74) #[] #[]] w fun e w' => e = .returned (.tuple #[.string (mk (Lib.join (l.map textF) [44])), .bool true]) ∧ Below w.heap.size w w' := by
  have HV := Lib.hid hv; clear hv
  have HC := Lib.hid hc; clear hc
  have HN := Lib.hid hb; clear hb
  go_enter Tryz.func93, Tryz.ntmps93
  go_wp2_with fail
  refine (fewF_calls _ _ _ hl w).mono ?_
  rintro e w1 ⟨rfl, rfl⟩
  go_wp2_with (first | ((with_reducible refine gate_dst (N := 12) rfl ?_); refine Kd.R_lit Kd.string w.heap.size 9 ?hg (N := 12) ?hd (xs := ([] : List ByteArray)) (inner := []) (ok := fun _ => True) (okp := fun _ => True) ?hr ?hp (fun _ hk => hk) trivial (Below.refl w.heap.size w) (Nat.le_refl _) (by simp) ?_; (case hd => rfl); (case hg => rfl); (case hr => first | (go_simp; done) | (go_simp; rfl)); (case hp => exact (Reps.none _ _)); intro v2 w2 ho2 hb2 hg2 hnew2; clear hg2 hnew2))
  have HO : Aside0 (Out Kd.string 9 w v2 [] w2) := ⟨⟨ho2, hb2⟩⟩
  clear ho2 hb2
  go_loopw [6, 15] (fun v i wr => ∃ (k : Nat), i = .int .i64 k ∧ k ≤ l.length ∧ Aside0 (Out Kd.string 9 w v ((l.take k).map fun x => mk (textF x)) wr)) (fun _ i _ => l.length - (intOf i).toNat)
  case atStart => exact ⟨0, rfl, by omega, HO⟩
  case round =>
    clear HO
    obtain ⟨k, rfl, hk, HO⟩ := hrel
    by_cases hlt : k < l.length
    · have hcell := pw_cell_below HO.out.bel (HC.out k hlt)
      have hxb := HN.out l[k] (List.getElem_mem _)
      have hst : (l.take (k + 1)).map (fun x => mk (textF x)) = (l.take k).map (fun x => mk (textF x)) ++ [mk (textF l[k])] := by rw [List.take_succ_eq_append_getElem hlt, List.map_append]; rfl
      have hol : ((l.take k).map fun x => mk (textF x)).length = k := by simp; omega
      have Hst := Lib.hid hst; clear hst
      generalize (l.take k).map (fun x => mk (textF x)) = o at *
      have HX := Lib.hid (fun W hW => hexF_calls l[k] hxb W hW)
      generalize l[k] = x at *
      clear hxb
      generalize mk (textF x) = tx at *
      have e24 : decide (k < l.length) = true := decide_eq_true hlt
      go_wp2_with fail
      refine (HX.out _ (HV.out.step HO.out.bel)).mono ?_
      rintro e w5 ⟨rfl, hb⟩
      have HO5 := Aside0.mk (HO.out.more hb); clear hb HX HO hcell
      go_wp2_with (first | ((with_reducible refine gate_builtin (b := .append) (xs := #[.tmp 19, .tmp 23]) rfl ?_); at_builtin; refine Kd.R_append Kd.string (w0 := w) w.heap.size rfl (.tmp 19) (.tmp 23) 85 9 (.string ⟨#[]⟩) 16 rfl Tryz.underlying85 PFnExactReadGrain.info9 rfl (by decide) (by omega) u6 o tx [.string tx] (fun _ => True) (fun _ => False) rfl rfl ?aP (fun _ hk => hk.elim) ?aF ?aO ?aB ?aS ?aL ?_; (case aP => exact rfl); (case aB => exact HO5.out.bel); (case aF => exact (fun _ _ => trivial)); (case aO => exact HO5.out.row); (case aS => exact HO5.out.bel.size); (case aL => omega); intro v5 w6 ho5 hb5 hg5 hat5; have HO6 : Aside0 (Out Kd.string 9 w v5 (o ++ [tx]) w6) := ⟨⟨ho5, hb5⟩⟩; clear ho5 hb5 hg5 hat5))
      go_roundw
      case rel => exact ⟨k + 1, by go_num, by omega, by rw [Hst.out]; exact HO6⟩
      case measure => simp [intOf]; omega
    · have ht : l.take k = l := List.take_of_length_le (by omega)
      rw [ht] at HO
      have hne : l.map (fun x => mk (textF x)) ≠ [] := by simpa using hn
      have hle : (l.map (fun x => mk (textF x))).length ≤ 256 := by simpa using hl
      have HJ := Lib.hid (orNone_calls _ _ w wr HO.out hne hle (by
        intro p hp
        simp only [List.mem_map] at hp
        obtain ⟨q, ⟨x, hx, rfl⟩, rfl⟩ := hp
        rw [mk_data, textF_length]; omega))
      have hj : (l.map (fun x => mk (textF x))).map (·.data.toList) = l.map textF := by simp [Function.comp_def, mk_data]
      rw [hj] at HJ
      clear hj hne hle ht
      go_wp2_with fail
      refine HJ.out.mono ?_
      rintro e w5 ⟨rfl, hb⟩
      have HB := Lib.hid (below_then HO.out.bel HO.out.bel.size hb); clear hb
      go_wp2
      go_ret2
      exact ⟨rfl, HB.out⟩

theorem ComplexText2_calls (g c0 : Nat) (l : List (Nat × Nat)) (hn : l ≠ []) (hl : l.length ≤ 256) (hb : ∀ x ∈ l, x.1 < 4294967296 ∧ x.2 < 4294967296) (w : World) (hv : Vars w) (hc : ∀ j (h : j < l.length), w.cell? ⟨g, j, none⟩ = some (.complex .f32 l[j].1 l[j].2)) :
    Calls Tryz.prog 28 #[.slice (some ⟨g, 0, none⟩) l.length c0] w fun e w' => e = .returned (.tuple #[.string (mk (Lib.join (l.map textC) [44])), .bool true]) ∧ Below w.heap.size w w' := by
  have HC := Lib.hid (textOfC2_calls g c0 l hn hl hb w hv hc)
  clear hc
  go_enter Tryz.func28, Tryz.ntmps28
  go_wp2_with fail
  refine HC.out.mono ?_
  rintro e w1 ⟨rfl, hb⟩
  have HB := Lib.hid hb; clear hb
  go_wp2
  go_ret2
  exact ⟨rfl, HB.out⟩
theorem NumbersText2_calls (g c0 : Nat) (l : List Nat) (hn : l ≠ []) (hl : l.length ≤ 256) (hb : ∀ x ∈ l, x < 4294967296) (w : World) (hv : Vars w) (hc : ∀ j (h : j < l.length), w.cell? ⟨g, j, none⟩ = some (.float .f32 l[j])) :
    Calls Tryz.prog 42 #[.slice (some ⟨g, 0, none⟩) l.length c0] w fun e w' => e = .returned (.tuple #[.string (mk (Lib.join (l.map textF) [44])), .bool true]) ∧ Below w.heap.size w w' := by
  have HC := Lib.hid (textOfF2_calls g c0 l hn hl hb w hv hc)
  clear hc
  go_enter Tryz.func42, Tryz.ntmps42
  go_wp2_with fail
  refine HC.out.mono ?_
  rintro e w1 ⟨rfl, hb⟩
  have HB := Lib.hid hb; clear hb
  go_wp2
  go_ret2
  exact ⟨rfl, HB.out⟩

theorem orNone_empty (v : Value) (w0 w : World) (ho : Out Kd.string 9 w0 v [] w) : Calls Tryz.prog 121 #[v, .string ⟨#[44]⟩] w fun e w' => e = .returned (.string (mk Plain.none4)) ∧ w' = w := by
  obtain ⟨A, c, rfl, hc, hC⟩ := ho.reads
  clear ho hC
  go_enter Tryz.func121, Tryz.ntmps121
  go_wp2_with fail
  go_ret
  exact ⟨rfl, rfl⟩

set_option maxHeartbeats 1000000 in
set_option maxRecDepth 100000 in
theorem ComplexText_empty (A : Option Addr) (c0 : Nat) (w : World) : Calls Tryz.prog 28 #[.slice A 0 c0] w fun e w' => e = .returned (.tuple #[.string (mk Plain.none4), .bool true]) ∧ Below w.heap.size w w' := by
  have HT : Hid (∀ w, Calls Tryz.prog 72 #[.slice A 0 c0, .func (.func 73) #[] #[]] w fun e w' => e = .returned (.tuple #[.string (mk Plain.none4), .bool true]) ∧ Below w.heap.size w w') := Lib.hid (fun w => by
    go_enter Tryz.func72, Tryz.ntmps72
    go_wp2_with fail
    refine (fewC_calls A 0 c0 (by decide) w).mono ?_
    rintro e w1 ⟨rfl, rfl⟩
    go_wp2_with (first | ((with_reducible refine gate_dst (N := 12) rfl ?_); refine Kd.R_lit Kd.string w.heap.size 9 ?hg (N := 12) ?hd (xs := ([] : List ByteArray)) (inner := []) (ok := fun _ => True) (okp := fun _ => True) ?hr ?hp (fun _ hk => hk) trivial (Below.refl w.heap.size w) (Nat.le_refl _) (by simp) ?_; (case hd => rfl); (case hg => rfl); (case hr => first | (go_simp; done) | (go_simp; rfl)); (case hp => exact (Reps.none _ _)); intro v2 w2 ho2 hb2 hg2 hnew2; clear hg2 hnew2))
    have HO : Aside0 (Out Kd.string 9 w v2 [] w2) := ⟨⟨ho2, hb2⟩⟩
    clear ho2 hb2
    go_loopw [6, 15] (fun v i wr => i = .int .i64 0 ∧ Aside0 (Out Kd.string 9 w v [] wr)) (fun _ _ _ => 0)
    case atStart => exact ⟨rfl, HO⟩
    case round =>
      clear HO
      obtain ⟨rfl, HO⟩ := hrel
      have HJ := Lib.hid (orNone_empty _ w wr HO.out)
      go_wp2_with fail
      refine HJ.out.mono ?_
      rintro e w5 ⟨rfl, rfl⟩
      go_wp2
      go_ret2
      exact ⟨rfl, HO.out.bel⟩)
  go_enter Tryz.func28, Tryz.ntmps28
  go_wp2_with fail
  refine (HT.out _).mono ?_
  rintro e w1 ⟨rfl, hb⟩
  have HB := Lib.hid hb; clear hb HT
  go_wp2
  go_ret2
  exact ⟨rfl, HB.out⟩

set_option maxHeartbeats 1000000 in
set_option maxRecDepth 100000 in
theorem NumbersText_empty (A : Option Addr) (c0 : Nat) (w : World) : Calls Tryz.prog 42 #[.slice A 0 c0] w fun e w' => e = .returned (.tuple #[.string (mk Plain.none4), .bool true]) ∧ Below w.heap.size w w' := by
  have HT : Hid (∀ w, Calls Tryz.prog 93 #[.slice A 0 c0, .func (.func 74) #[] #[]] w fun e w' => e = .returned (.tuple #[.string (mk Plain.none4), .bool true]) ∧ Below w.heap.size w w') := Lib.hid (fun w => by
    go_enter Tryz.func93, Tryz.ntmps93
    go_wp2_with fail
    refine (fewF_calls A 0 c0 (by decide) w).mono ?_
    rintro e w1 ⟨rfl, rfl⟩
    go_wp2_with (first | ((with_reducible refine gate_dst (N := 12) rfl ?_); refine Kd.R_lit Kd.string w.heap.size 9 ?hg (N := 12) ?hd (xs := ([] : List ByteArray)) (inner := []) (ok := fun _ => True) (okp := fun _ => True) ?hr ?hp (fun _ hk => hk) trivial (Below.refl w.heap.size w) (Nat.le_refl _) (by simp) ?_; (case hd => rfl); (case hg => rfl); (case hr => first | (go_simp; done) | (go_simp; rfl)); (case hp => exact (Reps.none _ _)); intro v2 w2 ho2 hb2 hg2 hnew2; clear hg2 hnew2))
    have HO : Aside0 (Out Kd.string 9 w v2 [] w2) := ⟨⟨ho2, hb2⟩⟩
    clear ho2 hb2
    go_loopw [6, 15] (fun v i wr => i = .int .i64 0 ∧ Aside0 (Out Kd.string 9 w v [] wr)) (fun _ _ _ => 0)
    case atStart => exact ⟨rfl, HO⟩
    case round =>
      clear HO
      obtain ⟨rfl, HO⟩ := hrel
      have HJ := Lib.hid (orNone_empty _ w wr HO.out)
      go_wp2_with fail
      refine HJ.out.mono ?_
      rintro e w5 ⟨rfl, rfl⟩
      go_wp2
      go_ret2
      exact ⟨rfl, HO.out.bel⟩)
  go_enter Tryz.func42, Tryz.ntmps42
  go_wp2_with fail
  refine (HT.out _).mono ?_
  rintro e w1 ⟨rfl, hb⟩
  have HB := Lib.hid hb; clear hb HT
  go_wp2
  go_ret2
  exact ⟨rfl, HB.out⟩
end Go.Proofs.YticfmlohkfoccaaGreatDoor

/- Sameness of numbers, bits there and back, bytes' picks and conversions, walked. -/
set_option linter.unusedVariables false
set_option linter.unusedSimpArgs false
namespace Go.Proofs.YticfmlohkfoccaaGreatDoor
open Go.RowKit Go.Proofs.YticfmlohkfoccaaGreatDoorW.PrintWords

theorem beq_cast (a b : Nat) : ((a : Int) == (b : Int)) = decide (a = b) := by
  rw [Bool.eq_iff_iff, beq_iff_eq, decide_eq_true_iff]; omega
set_option maxRecDepth 100000 in
theorem same68_calls (a b : Nat) (ha : a < 4294967296) (hb : b < 4294967296) : Pure 68 #[.float .f32 a, .float .f32 b] (.bool (decide (bits a = bits b))) := by
  intro w
  have H1 := Lib.hid (fun w => l01Bits_calls a ha w)
  have H2 := Lib.hid (fun w => l01Bits_calls b hb w)
  have hq := beq_cast (bits a) (bits b)
  generalize bits a = x at *
  generalize bits b = y at *
  go_enter Tryz.func68, Tryz.ntmps68
  go_wp2_with fail
  refine (H1.out _).mono ?_
  rintro e w1 ⟨rfl, rfl⟩
  go_wp2_with fail
  refine (H2.out _).mono ?_
  rintro e w1 ⟨rfl, rfl⟩
  go_wp2_with fail
  go_ret
  exact ⟨by first | rfl | rw [← hq]; rfl, rfl⟩
set_option maxRecDepth 100000 in
theorem same21_calls (a b : Nat) (ha : a < 4294967296) (hb : b < 4294967296) : Pure 21 #[.float .f32 a, .float .f32 b] (.bool (decide (bits a = bits b))) := by
  intro w
  have H1 := Lib.hid (same68_calls a b ha hb)
  go_enter Tryz.func21, Tryz.ntmps21
  go_wp2_with fail
  refine (H1.out _).mono ?_
  rintro e w1 ⟨rfl, rfl⟩
  go_wp2_with fail
  go_ret
  exact ⟨rfl, rfl⟩
set_option maxRecDepth 100000 in
theorem same87_calls (a b : Nat) (ha : a < 4294967296) (hb : b < 4294967296) : Pure 87 #[.float .f32 a, .float .f32 b] (.bool (decide (bits a = bits b))) := by
  intro w
  have H1 := Lib.hid (fun w => bitsOf_calls a ha w)
  have H2 := Lib.hid (fun w => bitsOf_calls b hb w)
  have hq := beq_cast (bits a) (bits b)
  generalize bits a = x at *
  generalize bits b = y at *
  go_enter Tryz.func87, Tryz.ntmps87
  go_wp2_with fail
  refine (H1.out _).mono ?_
  rintro e w1 ⟨rfl, rfl⟩
  go_wp2_with fail
  refine (H2.out _).mono ?_
  rintro e w1 ⟨rfl, rfl⟩
  go_wp2_with fail
  go_ret
  exact ⟨by first | rfl | rw [← hq]; rfl, rfl⟩
set_option maxRecDepth 100000 in
theorem sameC129_calls (a b c d : Nat) (ha : a < 4294967296) (hb : b < 4294967296) (hc : c < 4294967296) (hd : d < 4294967296) (h1 : bits a = bits c) (h2 : bits b = bits d) : Pure 129 #[.complex .f32 a b, .complex .f32 c d] (.bool true) := by
  intro w
  have q1 := same68_calls a c ha hc
  have q2 := same68_calls b d hb hd
  rw [decide_eq_true h1] at q1
  rw [decide_eq_true h2] at q2
  have H1 := Lib.hid q1
  have H2 := Lib.hid q2
  clear q1 q2 h1 h2
  go_enter Tryz.func129, Tryz.ntmps129
  go_wp2_with fail
  refine (H1.out _).mono ?_
  rintro e w1 ⟨rfl, rfl⟩
  go_wp2_with fail
  refine (H2.out _).mono ?_
  rintro e w1 ⟨rfl, rfl⟩
  go_wp2_with fail
  go_ret
  exact ⟨rfl, rfl⟩
set_option maxRecDepth 100000 in
theorem sameC86_calls (a b c d : Nat) (ha : a < 4294967296) (hb : b < 4294967296) (hc : c < 4294967296) (hd : d < 4294967296) (h1 : bits a = bits c) (h2 : bits b = bits d) : Pure 86 #[.complex .f32 a b, .complex .f32 c d] (.bool true) := by
  intro w
  have H1 := Lib.hid (sameC129_calls a b c d ha hb hc hd h1 h2)
  clear h1 h2
  go_enter Tryz.func86, Tryz.ntmps86
  go_wp2_with fail
  refine (H1.out _).mono ?_
  rintro e w1 ⟨rfl, rfl⟩
  go_wp2_with fail
  go_ret
  exact ⟨rfl, rfl⟩
set_option maxRecDepth 100000 in
theorem sameC35_calls (a b c d : Nat) (ha : a < 4294967296) (hb : b < 4294967296) (hc : c < 4294967296) (hd : d < 4294967296) (h1 : bits a = bits c) (h2 : bits b = bits d) : Pure 35 #[.complex .f32 a b, .complex .f32 c d] (.bool true) := by
  intro w
  have q1 := same87_calls a c ha hc
  have q2 := same87_calls b d hb hd
  rw [decide_eq_true h1] at q1
  rw [decide_eq_true h2] at q2
  have H1 := Lib.hid q1
  have H2 := Lib.hid q2
  clear q1 q2 h1 h2
  go_enter Tryz.func35, Tryz.ntmps35
  go_wp2_with fail
  refine (H1.out _).mono ?_
  rintro e w1 ⟨rfl, rfl⟩
  go_wp2_with fail
  refine (H2.out _).mono ?_
  rintro e w1 ⟨rfl, rfl⟩
  go_wp2_with fail
  go_ret
  exact ⟨rfl, rfl⟩
set_option maxRecDepth 100000 in
theorem fromBits_calls (n : Nat) (hn : n < 4294967296) : Pure 31 #[.int .i64 n] (.tuple #[.float .f32 n, .bool true]) := by
  intro w
  have d1 : decide ((0 : Int) ≤ (n : Int)) = true := decide_eq_true (by omega)
  have d2 : decide ((n : Int) ≤ 4294967295) = true := decide_eq_true (by omega)
  have hw : IntKind.u32.wrap (n : Int) = (n : Int) := by show (n : Int) % 4294967296 = n; omega
  have hx := f32from n
  have HW : Hid (Pure 81 #[.int .i64 n, .int .i64 0, .int .i64 4294967295] (.bool true)) := Lib.hid (by
    intro w
    clear hw hx hn
    go_enter Tryz.func81, Tryz.ntmps81
    go_wp2_with fail
    go_ret
    exact ⟨rfl, rfl⟩)
  clear hn d1 d2
  go_enter Tryz.func31, Tryz.ntmps31
  go_wp2_with fail
  refine (HW.out _).mono ?_
  rintro e w1 ⟨rfl, rfl⟩
  go_wp2_with fail
  go_ret2
  exact ⟨rfl, rfl⟩
set_option maxRecDepth 100000 in
theorem finite38_calls (b : Nat) (w : World) : Calls Tryz.prog 38 #[.float .f32 b] w fun e w' => e = .returned (.bool (fin b)) ∧ Below w.heap.size w w' := by
  have H := Lib.hid (l01Finite_calls b w)
  go_enter Tryz.func38, Tryz.ntmps38
  go_wp2_with fail
  refine H.out.mono ?_
  rintro e w1 ⟨rfl, n, rfl⟩
  go_wp2_with fail
  go_ret
  exact ⟨rfl, pw_below_drewN (Below.refl _ _) n⟩
set_option maxRecDepth 100000 in
theorem long_calls (A B : Option Addr) (n m c d : Nat) : Pure 16 #[.slice A n c, .slice B m d] (.bool (decide (1048576 < n) || decide (1048576 < m))) := by
  intro w
  by_cases h1 : 1048576 < n
  · have d1 : decide ((1048576 : Int) < (n : Int)) = true := decide_eq_true (by omega)
    rw [decide_eq_true h1]
    clear h1
    go_enter Tryz.func16, Tryz.ntmps16
    go_wp2_with fail
    go_ret
    exact ⟨rfl, rfl⟩
  · have d1 : decide ((1048576 : Int) < (n : Int)) = false := decide_eq_false (by omega)
    rw [decide_eq_false h1]
    clear h1
    by_cases h2 : 1048576 < m
    · have d2 : decide ((1048576 : Int) < (m : Int)) = true := decide_eq_true (by omega)
      rw [decide_eq_true h2]
      clear h2
      go_enter Tryz.func16, Tryz.ntmps16
      go_wp2_with fail
      go_ret
      exact ⟨rfl, rfl⟩
    · have d2 : decide ((1048576 : Int) < (m : Int)) = false := decide_eq_false (by omega)
      rw [decide_eq_false h2]
      clear h2
      go_enter Tryz.func16, Tryz.ntmps16
      go_wp2_with fail
      go_ret
      exact ⟨rfl, rfl⟩
set_option maxRecDepth 100000 in
theorem at_calls (A : Option Addr) (n c k : Nat) (hk : 1 < k) (hk2 : k ≤ 1000) (w : World) (hc : Code w A n) : Calls Tryz.prog 27 #[.slice A n c, .int .i64 0, .int .i64 k] w fun e w' => (∃ r : Nat, e = .returned (.int .i64 r) ∧ r < k) ∧ w' = w := by
  have d1 : decide ((k : Int) ≤ 1) = false := decide_eq_false (by omega)
  by_cases hn : 0 < n
  · obtain ⟨ad, b, rfl, hcell, hb⟩ := hc.cells 0 hn
    have e0 : ad.add 0 = ad := by
      obtain ⟨p, o, s⟩ := ad
      cases s <;> simp [Addr.add]
    rw [e0] at hcell
    clear e0
    have d2 : decide ((0 : Int) < (n : Int)) = true := decide_eq_true (by omega)
    have d3 : decide (0 < n) = true := decide_eq_true hn
    clear hc
    go_enter Tryz.func27, Tryz.ntmps27
    go_wp2_with fail
    go_ret
    exact ⟨⟨b % k, congrArg (fun x => Ending.returned (Value.int IntKind.i64 x)) (by push_cast; rfl), Nat.mod_lt _ (by omega)⟩, rfl⟩
  · have hn0 : n = 0 := by omega
    subst hn0
    clear hc
    go_enter Tryz.func27, Tryz.ntmps27
    go_wp2_with fail
    go_ret
    exact ⟨⟨11 % k, congrArg (fun x => Ending.returned (Value.int IntKind.i64 x)) (by push_cast; rfl), Nat.mod_lt _ (by omega)⟩, rfl⟩
end Go.Proofs.YticfmlohkfoccaaGreatDoor

/- Conversions of any floats, rows of complex numbers compared, whole complex numbers drawn: walked. -/
set_option linter.unusedVariables false
set_option linter.unusedSimpArgs false
namespace Go.Proofs.YticfmlohkfoccaaGreatDoor
open Go.RowKit Go.Proofs.YticfmlohkfoccaaGreatDoorW.PrintWords

/-- u is a 64-bit float out of the 32-bit one b. -/
def Back (u b : Nat) : Prop := ((∃ s f, Ieee.double.read u = .nan s f) ∧ nan32 b = true) ∨ floatToFloatBits .f64 u .f32 = some b
theorem nan64_read (t : Nat) : ∃ s f, Ieee.double.read ((t % 2) * 2 ^ 63 + 0x7ff0000000000000 + 1 + (t / 2) % (2 ^ 52 - 1)) = .nan s f := by
  have h1 : t % 2 < 2 := Nat.mod_lt _ (by decide)
  have h2 : (t / 2) % (2 ^ 52 - 1) < 2 ^ 52 - 1 := Nat.mod_lt _ (by decide)
  generalize t % 2 = a at *
  generalize (t / 2) % (2 ^ 52 - 1) = c at *
  unfold Ieee.Format.read
  dsimp only
  rw [if_neg (by rw [sw64, bn64]; omega), if_neg (by rw [sw64, if64]; omega), if_neg (by rw [sw64, if64]; omega)]
  exact ⟨_, _, rfl⟩
theorem nan32_cut (t : Nat) : nan32 ((t % 2) * 2 ^ 31 + 0x7f800000 + 1 + (t / 2) % (2 ^ 23 - 1)) = true ∧ (t % 2) * 2 ^ 31 + 0x7f800000 + 1 + (t / 2) % (2 ^ 23 - 1) < 4294967296 := by
  have h1 : t % 2 < 2 := Nat.mod_lt _ (by decide)
  have h2 : (t / 2) % (2 ^ 23 - 1) < 2 ^ 23 - 1 := Nat.mod_lt _ (by decide)
  generalize t % 2 = a at *
  generalize (t / 2) % (2 ^ 23 - 1) = c at *
  unfold nan32
  rw [decide_eq_true_iff]
  omega
theorem run_conv_nan (src dst : TypeId) (s k : FloatKind) (b : Nat) (hs : (Tryz.prog.underlying src).isSome = true) (hd : Tryz.prog.underlying dst = some (.float k)) (hne : s ≠ k) (sg : Bool) (fr : Nat) (hr : s.decode b = .nan sg fr) (w : World) :
    (convert src dst (.float s b)).run Tryz.prog w = .ok (.float k (Question.cut (.nanConv k b) (w.tape w.drawn (.nanConv k b)))) w.drew := by
  obtain ⟨u, hs'⟩ := Option.isSome_iff_exists.1 hs
  cases u <;> simp [convert, run_underlying hs', run_underlying hd, Conv.floatToFloat, hne, hr, choose, Sem.run, Question.forced]
theorem widen_any (b : Nat) (hb : b < 4294967296) : ∃ (V : World → Nat) (D : Nat), (∀ W, (convert 29 57 (.float .f32 b)).run Tryz.prog W = .ok (.float .f64 (V W)) (W.drewN D)) ∧ ∀ W, Back (V W) b := by
  cases hn : nan32 b with
  | false =>
    obtain ⟨u, h1, h2⟩ := narrow_wide b hb hn
    exact ⟨fun _ => u, 0, run_wide h1, fun _ => Or.inr h2⟩
  | true =>
    have hx : 2139095040 < b % 2147483648 := by unfold nan32 at hn; exact of_decide_eq_true hn
    obtain ⟨s, f, hr⟩ := read_nan b hx
    exact ⟨_, 1, run_conv_nan 29 57 .f32 .f64 b (by rw [Tryz.underlying29]; rfl) Tryz.underlying57 (by decide) s f hr, fun W => Or.inl ⟨nan64_read _, hn⟩⟩
theorem narrow_any (u b : Nat) (hb : b < 4294967296) (h : Back u b) : ∃ (V : World → Nat) (D : Nat), (∀ W, (convert 57 29 (.float .f64 u)).run Tryz.prog W = .ok (.float .f32 (V W)) (W.drewN D)) ∧ ∀ W, V W < 4294967296 ∧ bits (V W) = bits b := by
  rcases h with ⟨⟨s, f, hr⟩, hn⟩ | h
  · refine ⟨_, 1, run_conv_nan 57 29 .f64 .f32 u (by rw [Tryz.underlying57]; rfl) Tryz.underlying29 (by decide) s f hr, fun W => ?_⟩
    obtain ⟨h1, h2⟩ := nan32_cut (W.tape W.drawn (.nanConv .f32 u))
    refine ⟨h2, ?_⟩
    unfold bits
    rw [hn]
    show (if nan32 ((W.tape W.drawn (.nanConv .f32 u) % 2) * 2 ^ 31 + 0x7f800000 + 1 + (W.tape W.drawn (.nanConv .f32 u) / 2) % (2 ^ 23 - 1)) = true then 2143289344 else _) = _
    rw [h1]
    rfl
  · exact ⟨fun _ => b, 0, run_narrow h, fun _ => ⟨hb, rfl⟩⟩
set_option maxRecDepth 100000 in
theorem narrowC_calls (u v a b : Nat) (ha : a < 4294967296) (hb : b < 4294967296) (h1 : Back u a) (h2 : Back v b) (w : World) : Calls Tryz.prog 36 #[.complex .f64 u v] w fun e w' => (∃ x y : Nat, e = .returned (.complex .f32 x y) ∧ x < 4294967296 ∧ y < 4294967296 ∧ bits x = bits a ∧ bits y = bits b) ∧ Below w.heap.size w w' := by
  obtain ⟨V1, D1, r1, k1⟩ := narrow_any u a ha h1
  obtain ⟨V2, D2, r2, k2⟩ := narrow_any v b hb h2
  have K1 := Lib.hid k1
  have K2 := Lib.hid k2
  clear h1 h2 k1 k2 ha hb
  go_enter Tryz.func36, Tryz.ntmps36
  go_wp2_with fail
  go_ret
  refine ⟨⟨_, _, rfl, (K1.out _).1, (K2.out _).1, (K1.out _).2, (K2.out _).2⟩, ?_⟩
  first | exact pw_below_drewN (pw_below_drewN (Below.refl _ _) D1) D2 | exact pw_below_drewN (Below.refl _ _) _
theorem kC_at {W : World} {g n : Nat} {xs : List (Nat × Nat)} (h : Kd.C kC W (some ⟨g, 0, none⟩) n xs) (j : Nat) (hj : j < n) (x : Nat × Nat) (hx : xs[j]? = some x) : W.cell? ⟨g, j, none⟩ = some (.complex .f32 x.1 x.2) := by
  obtain ⟨ad, cs, e, hcl, hK, hc⟩ := Kd.C_get h (0, 0) (j : Int) (by omega) (by omega)
  injection e with e
  subst e
  have hk : cs = [.complex .f32 x.1 x.2] := by
    have : xs.getD (j : Int).toNat (0, 0) = x := by rw [Int.toNat_natCast, List.getD_eq_getElem?_getD, hx]; rfl
    rw [this] at hK
    exact hK
  have := hc 0 (.complex .f32 x.1 x.2) (by rw [hk]; rfl)
  rw [Lib.add_plain, show kC.sz = 1 from rfl, Int.toNat_natCast] at this
  simpa using this
/-- A row of complex numbers that can be read. -/
structure CRow (W : World) (A : Option Addr) (l : List (Nat × Nat)) : Prop where
  row : Kd.C kC W A l.length l
  at0 : l ≠ [] → ∃ g, A = some ⟨g, 0, none⟩
theorem CRow.more {W W2 : World} {A : Option Addr} {l : List (Nat × Nat)} (h : CRow W A l) (k : Below W.heap.size W W2) : CRow W2 A l := ⟨Kd.C_below h.row k, h.at0⟩
theorem CRow.get {W : World} {A : Option Addr} {l : List (Nat × Nat)} (h : CRow W A l) (j : Nat) (hj : j < l.length) : ∃ g, A = some ⟨g, 0, none⟩ ∧ W.cell? ⟨g, j, none⟩ = some (.complex .f32 l[j].1 l[j].2) := by
  obtain ⟨g, rfl⟩ := h.at0 (by intro e; subst e; simp at hj)
  exact ⟨g, rfl, kC_at h.row j hj _ (List.getElem?_eq_getElem hj)⟩
theorem rowC {e base : Nat} {W : World} {ok : Nat → Prop} {v : Value} {l : List (Nat × Nat)} (h : Kd.R kC e W base ok v l) : ∃ A c, v = .slice A l.length c ∧ l.length ≤ c ∧ CRow W A l := by
  obtain ⟨A, c, rfl, hc, hC⟩ := Kd.R_reads h
  refine ⟨A, c, rfl, hc, hC, fun hne => ?_⟩
  obtain ⟨g, cap, e1, _⟩ := Kd.R_form h (List.length_pos_iff.2 hne)
  injection e1 with e1
  exact ⟨g, e1⟩
def bitsC (x : Nat × Nat) : Nat × Nat := (bits x.1, bits x.2)
set_option maxHeartbeats 1000000 in
set_option maxRecDepth 100000 in
theorem sameRows_calls (A B : Option Addr) (c d : Nat) (l : List (Nat × Nat)) (hl : l.length ≤ 100) (hg : ∀ x ∈ l, goodC x) (w : World) (ha : CRow w A (l.map bitsC)) (hb : CRow w B l) :
    Calls Tryz.prog 34 #[.slice A l.length c, .slice B l.length d] w fun e w' => e = .returned (.bool true) ∧ ∃ n, w' = w.drewN n := by
  have HA : Hid (∀ n, CRow (w.drewN n) A (l.map bitsC)) := Lib.hid (fun n => ha.more (pw_below_drewN (Below.refl _ _) n))
  have HB : Hid (∀ n, CRow (w.drewN n) B l) := Lib.hid (fun n => hb.more (pw_below_drewN (Below.refl _ _) n))
  have HK := Lib.hid hg
  clear ha hb hg
  have hnn : ((l.length : Int) != (l.length : Int)) = false := by simp
  go_enter Tryz.func34, Tryz.ntmps34
  go_wp2_with fail
  go_loopw [13] (fun i wr => ∃ (k : Nat), i = .int .i64 k ∧ k ≤ l.length ∧ Aside0 (∃ n, wr = w.drewN n)) (fun i _ => l.length - (intOf i).toNat)
  case atStart => exact ⟨0, rfl, by omega, ⟨0, rfl⟩⟩
  case round =>
    obtain ⟨k, rfl, hk, HW⟩ := hrel
    obtain ⟨n, hwn⟩ := HW.out
    by_cases hlt : k < l.length
    · have d1 : decide ((k : Int) < (l.length : Int)) = true := decide_eq_true (by omega)
      have d1' : decide (k < l.length) = true := decide_eq_true hlt
      obtain ⟨g, rfl, hat⟩ := (HA.out n).get k (by simpa using hlt)
      obtain ⟨g', rfl, hat'⟩ := (HB.out n).get k hlt
      rw [List.getElem_map] at hat
      rw [← hwn] at hat hat'
      have hgd := HK.out _ (List.getElem_mem hlt)
      have HC := Lib.hid (sameC86_calls (bits l[k].1) (bits l[k].2) l[k].1 l[k].2 (bits_lt' hgd.1) (bits_lt' hgd.2) hgd.1 hgd.2 (bits_bits _) (bits_bits _))
      unfold bitsC at hat
      clear hgd
      have HWn := Lib.hid hwn
      clear hwn HW
      generalize l[k] = x at *
      generalize bits x.1 = b1 at *
      generalize bits x.2 = b2 at *
      go_wp2_with fail
      go_still_tail 8, (by kernel_rfl)
      change wpList _ _ _ _ _ wr.drew
      have HW1 : Aside0 (∃ n, wr.drew = w.drewN n) := ⟨⟨n + 1, by rw [HWn.out]; rfl⟩⟩
      generalize wr.drew = w2 at *
      clear hat hat' HWn
      go_wp2_with fail
      refine (HC.out _).mono ?_
      rintro e W1 ⟨rfl, rfl⟩
      go_wp2
      go_roundw
      case rel => exact ⟨k + 1, by go_num, by omega, HW1⟩
      case measure => simp [intOf]; omega
    · have d1 : decide ((k : Int) < (l.length : Int)) = false := decide_eq_false (by omega)
      have d1' : decide (k < l.length) = false := decide_eq_false hlt
      go_wp2_with fail
      go_ret
      first | exact ⟨rfl, HW.out⟩ | exact ⟨rfl, n, rfl⟩
/-- A complex number of small whole parts. -/
def goodW (x : Nat × Nat) : Prop := ∃ a b : Int, J32 x.1 a ∧ J32 x.2 b ∧ a.natAbs ≤ 200 ∧ b.natAbs ≤ 200
set_option maxHeartbeats 2000000 in
set_option maxRecDepth 100000 in
theorem whole_calls (A : Option Addr) (n c : Nat) (w : World) (hc : Code w A n) : Calls Tryz.prog 17 #[.slice A n c, .int .i64 1, .int .i64 200] w fun e w' => (∃ v x, e = .returned v ∧ goodW x ∧ Out kC 28 w v [x] w') := by
  have HC0 := Lib.hid (from_calls A n c w)
  have HS := Lib.hid (hc.src c)
  have HC1 := Lib.hid (fun p m W (hm : m < 1000000000) hs => pick_calls p m 401 (by decide) (by decide) hm W hs)
  clear hc
  go_enter Tryz.func17, Tryz.ntmps17
  go_wp2_with fail
  refine HC0.out.mono ?_
  rintro e w1 ⟨rfl, rfl⟩
  have hsz : w.heap.size ≤ (w.alloc (srcCells A n c)).heap.size := by simp
  have HO : Hid (∀ v o W, Kd.R kC 28 W (w.alloc (srcCells A n c)).heap.size (fun _ => True) v o → Turned w.heap.size (w.alloc (srcCells A n c)) W → Out kC 28 w v o W) := Lib.hid (fun v o W h ht => ⟨Kd.R_lower h hsz, fresh_below w _ ht⟩)
  generalize hp : w.heap.size = p at HS
  have HP := Lib.hid hp; clear hp HC0 hsz
  have HO2 := HO
  rw [HP.out] at HO2
  clear HO
  generalize w.alloc (srcCells A n c) = w1 at *
  have hpl := src_lt HS.out
  go_wp2_with (first | ((with_reducible refine gate_dst (N := 12) rfl ?_); refine Kd.R_lit kC w1.heap.size 28 ?hg (N := 12) ?hd (xs := ([] : List (Nat × Nat))) (inner := []) (ok := fun _ => True) (okp := fun _ => True) ?hr ?hp (fun _ hk => hk) trivial (Below.refl w1.heap.size w1) (Nat.le_refl _) (by simp) ?_; (case hd => rfl); (case hg => rfl); (case hr => first | (go_simp; done) | (go_simp; rfl)); (case hp => exact (Reps.none _ _)); intro v2 w2 ho2 hb2 hg2 hnew2; clear hg2 hnew2))
  have HF : Aside0 (FWalk kC 28 w1 p 0 v2 [] w2) := ⟨⟨Kd.R_mono (Kd.R_bound ho2) (fun k hk => by have := hk.2.1; omega), HS.out.grow hb2 hpl, (Turned.refl p w1).grow hb2 hpl, hpl⟩⟩
  clear ho2 hb2 HS
  go_loopw [1, 8] (fun cc v wr => ∃ (k : Nat) (o : List (Nat × Nat)), cc = .int .i64 ((1 : Int) - (k : Int)) ∧ k ≤ 1 ∧ o.length = k ∧ Aside0 (∀ x ∈ o, goodW x) ∧ Aside0 (FWalk kC 28 w1 p (20 * k) v o wr)) (fun cc _ _ => (intOf cc).toNat)
  case atStart => exact ⟨0, [], by simp, by omega, rfl, ⟨by simp⟩, ⟨⟨HF.out.row, HF.out.src.le (by omega), HF.out.tur, HF.out.lt⟩⟩⟩
  case round =>
    clear HF
    obtain ⟨k, o, rfl, hk, hol, HA, HW⟩ := hrel
    by_cases hlt : k < 1
    · obtain rfl : k = 0 := by omega
      go_wp2_with fail
      refine (HC1.out p _ _ (by omega) HW.out.src).mono ?_
      rintro e w4 ⟨⟨r, rfl, hr⟩, hs4, ht4⟩
      have HW4 := Aside0.mk (HW.out.more hs4 ht4)
      clear hs4 ht4 HW
      have j1 : J32 (floatOfInt .f32 ((r : Int) - 200)) ((r : Int) - 200) := J32.of _ (by omega)
      go_wp2_with fail
      refine (HC1.out p _ _ (by omega) HW4.out.src).mono ?_
      rintro e w5 ⟨⟨r', rfl, hr'⟩, hs5, ht5⟩
      have HW5 := Aside0.mk (HW4.out.more hs5 ht5)
      clear hs5 ht5 HW4
      have j2 : J32 (floatOfInt .f32 ((r' : Int) - 200)) ((r' : Int) - 200) := J32.of _ (by omega)
      have HA5 : Aside0 (∀ z ∈ o ++ [(floatOfInt .f32 ((r : Int) - 200), floatOfInt .f32 ((r' : Int) - 200))], goodW z) := ⟨fun z hz => by
        rcases List.mem_append.1 hz with hz | hz
        · exact HA.out z hz
        · rw [List.mem_singleton.1 hz]; exact ⟨_, _, j1, j2, by omega, by omega⟩⟩
      clear HA j1 j2
      generalize hx1 : floatOfInt .f32 ((r : Int) - 200) = x1 at *
      generalize hx2 : floatOfInt .f32 ((r' : Int) - 200) = x2 at *
      go_wp2_with (first | ((with_reducible refine gate_builtin (b := .append) (xs := #[.tmp 25, .tmp 36]) rfl ?_); at_builtin; refine Kd.R_append kC (w0 := w5) w1.heap.size rfl (.tmp 25) (.tmp 36) 37 28 (.complex .f32 0 0) 8 rfl Tryz.underlying37 info28 rfl (by decide) (by omega) u8 o (x1, x2) [.complex .f32 x1 x2] (fun k => k ≠ p) (fun _ => False) rfl rfl ?aP (fun _ hk => hk.elim) ?aF ?aO ?aB ?aS ?aL ?_; (case aP => exact rfl); (case aB => exact Below.refl _ _); (case aF => exact HW5.out.fresh); (case aO => exact HW5.out.row); (case aS => exact HW5.out.tur.siz); (case aL => omega); intro v6 w6 ho6 hb6 hg6 hat6; have HW6 := Aside0.mk (HW5.out.next ho6 hb6); clear ho6 hb6 hg6 hat6))
      go_roundw
      case rel => exact ⟨0 + 1, o ++ [(x1, x2)], congrArg (Value.int IntKind.i64) (by omega), by omega, by rw [List.length_append, hol]; rfl, HA5, ⟨⟨HW6.out.row, HW6.out.src.le (by omega), HW6.out.tur, HW6.out.lt⟩⟩⟩
      case measure => simp [intOf]
    · obtain rfl : k = 1 := by omega
      match o, hol with
      | [x], _ =>
        have HX : Hid (goodW x) := Lib.hid (HA.out x (by simp))
        have HOut := Lib.hid (HO2.out _ [x] wr (Kd.R_mono HW.out.row (fun _ _ => trivial)) HW.out.tur)
        clear HA HW HO2
        go_wp2_with fail
        go_ret
        exact ⟨_, x, rfl, HX.out, HOut.out⟩
end Go.Proofs.YticfmlohkfoccaaGreatDoor
