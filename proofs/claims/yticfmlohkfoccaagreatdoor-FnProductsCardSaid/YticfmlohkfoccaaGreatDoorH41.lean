/- Floats of small whole numbers: what each operation gives; plain. -/
import Derived.Test.YticfmlohkfoccaaGreatDoorH40
set_option linter.unusedVariables false
set_option linter.unusedSimpArgs false
namespace Go.Proofs.YticfmlohkfoccaaGreatDoor
open Ieee

theorem IsN.mul {m n M N : Nat} {i j : Int} (h : IsN m i M) (k : IsN n j N) : IsN (m * n) (i + j) (M * N) := by
  obtain ⟨h1, rfl⟩ := h
  obtain ⟨k1, rfl⟩ := k
  refine ⟨by omega, ?_⟩
  rw [show (-(i + j)).toNat = (-i).toNat + (-j).toNat from by omega, Nat.pow_add]
  simp only [Nat.mul_assoc, Nat.mul_comm, Nat.mul_left_comm]
theorem cI_mul {f : Format} (hg : Good f) (s t : Bool) (M N : Nat) (hM : M < 2 ^ (f.fractionBits + 1)) (hN : N < 2 ^ (f.fractionBits + 1)) (hMN : M * N < 2 ^ (f.fractionBits + 1)) : f.mul (cI f s M) (cI f t N) = some (cI f (s ^^ t) (M * N)) := by
  obtain ⟨m, i, hr, hi⟩ := read_cI hg s M hM
  obtain ⟨n, j, hr', hj⟩ := read_cI hg t N hN
  unfold Format.mul
  rw [hr, hr']
  simp only [Datum.product, Option.map_some, Format.write, Option.some.injEq]
  exact cI_nearest hg _ _ _ _ hMN (hi.mul hj)
/-- A whole number with its sign. -/
def sval (s : Bool) (N : Nat) : Int := if s then -(N : Int) else N
theorem signed_isN {m M : Nat} {i b : Int} (s : Bool) (h : IsN m i M) (hb : b ≤ i) : signed s m (i - b).toNat = sval s M * 2 ^ (-b).toNat := by
  obtain ⟨h1, rfl⟩ := h
  have e : ((M * 2 ^ (-i).toNat) <<< (i - b).toNat : Nat) = M * 2 ^ (-b).toNat := by
    rw [Nat.shiftLeft_eq, Nat.mul_assoc, ← Nat.pow_add]
    congr 2
    omega
  unfold signed sval
  rw [e]
  cases s
  · simp
  · simp [Int.neg_mul]
theorem cI_sum {f : Format} (hg : Good f) (s t : Bool) (M N : Nat) (hM : M < 2 ^ (f.fractionBits + 1)) (hN : N < 2 ^ (f.fractionBits + 1)) (hz : (sval s M + sval t N).natAbs < 2 ^ (f.fractionBits + 1)) (m n : Nat) (i j : Int) (hi : IsN m i M) (hj : IsN n j N) :
    ((Datum.number s m i).sum (Datum.number t n j)).map f.write = some (cI f (if sval s M + sval t N = 0 then s && t else decide (sval s M + sval t N < 0)) (sval s M + sval t N).natAbs) := by
  simp only [Datum.sum, Option.map_some, Option.some.injEq]
  rw [signed_isN s hi (by omega), signed_isN t hj (by omega), ← Int.add_mul]
  generalize hzz : sval s M + sval t N = z at *
  have hp : (0 : Int) < 2 ^ (-(min i j)).toNat := Int.pow_pos (by decide)
  have h0 : (z * 2 ^ (-(min i j)).toNat = 0) ↔ z = 0 := by
    constructor
    · intro h
      rcases Int.mul_eq_zero.1 h with h | h
      · exact h
      · omega
    · intro h; rw [h]; simp
  have hn : (z * 2 ^ (-(min i j)).toNat < 0) ↔ z < 0 := by
    constructor
    · intro h
      exact Int.not_le.1 (fun hc => absurd (Int.mul_nonneg hc (Int.le_of_lt hp)) (Int.not_le.2 h))
    · intro h
      exact Int.mul_neg_of_neg_of_pos h hp
  have ha : (z * 2 ^ (-(min i j)).toNat).natAbs = z.natAbs * 2 ^ (-(min i j)).toNat := by
    rw [Int.natAbs_mul, Int.natAbs_pow]; rfl
  rw [ha]
  simp only [Format.write]
  have e : (if z * 2 ^ (-(min i j)).toNat = 0 then (s && t) else decide (z * 2 ^ (-(min i j)).toNat < 0)) = (if z = 0 then s && t else decide (z < 0)) := by
    by_cases hz0 : z = 0
    · rw [if_pos (h0.2 hz0), if_pos hz0]
    · rw [if_neg (fun h => hz0 (h0.1 h)), if_neg hz0, decide_eq_decide]; exact hn
  rw [e]
  exact cI_nearest hg _ _ _ _ hz ⟨by have := hi.1; omega, rfl⟩
theorem cI_add {f : Format} (hg : Good f) (s t : Bool) (M N : Nat) (hM : M < 2 ^ (f.fractionBits + 1)) (hN : N < 2 ^ (f.fractionBits + 1)) (hz : (sval s M + sval t N).natAbs < 2 ^ (f.fractionBits + 1)) :
    f.add (cI f s M) (cI f t N) = some (cI f (if sval s M + sval t N = 0 then s && t else decide (sval s M + sval t N < 0)) (sval s M + sval t N).natAbs) := by
  obtain ⟨m, i, hr, hi⟩ := read_cI hg s M hM
  obtain ⟨n, j, hr', hj⟩ := read_cI hg t N hN
  unfold Format.add
  rw [hr, hr']
  exact cI_sum hg s t M N hM hN hz m n i j hi hj
theorem sval_not (t : Bool) (N : Nat) : sval (!t) N = -sval t N := by cases t <;> simp [sval]
theorem sval_sign (z : Int) (s t : Bool) : sval (if z = 0 then s && t else decide (z < 0)) z.natAbs = z := by
  by_cases hz0 : z = 0
  · subst hz0; cases s <;> cases t <;> rfl
  · rw [if_neg hz0]
    by_cases hn : z < 0
    · rw [decide_eq_true hn]; simp [sval]; omega
    · rw [decide_eq_false hn]; simp [sval]; omega
theorem cI_sub {f : Format} (hg : Good f) (s t : Bool) (M N : Nat) (hM : M < 2 ^ (f.fractionBits + 1)) (hN : N < 2 ^ (f.fractionBits + 1)) (hz : (sval s M - sval t N).natAbs < 2 ^ (f.fractionBits + 1)) :
    ∃ r, f.sub (cI f s M) (cI f t N) = some (cI f r (sval s M - sval t N).natAbs) ∧ sval r (sval s M - sval t N).natAbs = sval s M - sval t N := by
  obtain ⟨m, i, hr, hi⟩ := read_cI hg s M hM
  obtain ⟨n, j, hr', hj⟩ := read_cI hg t N hN
  have e : sval s M + sval (!t) N = sval s M - sval t N := by rw [sval_not]; omega
  have h := cI_sum hg s (!t) M N hM hN (by rw [e]; exact hz) m n i j hi hj
  rw [e] at h
  refine ⟨if sval s M - sval t N = 0 then s && !t else decide (sval s M - sval t N < 0), ?_, sval_sign _ _ _⟩
  unfold Format.sub
  rw [hr, hr']
  exact h
theorem cI_order {f : Format} (hg : Good f) (s t : Bool) (M N : Nat) (hM : M < 2 ^ (f.fractionBits + 1)) (hN : N < 2 ^ (f.fractionBits + 1)) : f.order (cI f s M) (cI f t N) = some (compare (sval s M) (sval t N)) := by
  obtain ⟨m, i, hr, hi⟩ := read_cI hg s M hM
  obtain ⟨n, j, hr', hj⟩ := read_cI hg t N hN
  unfold Format.order
  rw [hr, hr']
  simp only [Datum.order, Option.some.injEq]
  rw [signed_isN s hi (by omega), signed_isN t hj (by omega)]
  have hp : (0 : Int) < 2 ^ (-(min i j)).toNat := Int.pow_pos (by decide)
  generalize (2 : Int) ^ (-(min i j)).toNat = k at *
  generalize sval s M = a
  generalize sval t N = b
  rcases Int.lt_trichotomy a b with h | h | h
  · rw [Int.compare_eq_lt.2 h, Int.compare_eq_lt.2 (Int.mul_lt_mul_of_pos_right h hp)]
  · subst h; rw [Int.compare_eq_eq.2 rfl, Int.compare_eq_eq.2 rfl]
  · rw [Int.compare_eq_gt.2 h, Int.compare_eq_gt.2 (Int.mul_lt_mul_of_pos_right h hp)]
theorem cI_toInt {f : Format} (hg : Good f) (s : Bool) (N : Nat) (hN : N < 2 ^ (f.fractionBits + 1)) : (f.read (cI f s N)).toInt .zero = some (sval s N) := by
  obtain ⟨m, i, hr, hi1, rfl⟩ := read_cI hg s N hN
  rw [hr]
  simp only [Datum.toInt, Datum.integral, Option.some.injEq]
  rw [show i.toNat = 0 from by omega, Nat.shiftLeft_zero]
  have hc : Toward.zero.cut s (N * 2 ^ (-i).toNat) (-i).toNat = N := by
    by_cases hN0 : N = 0
    · subst hN0; unfold Toward.cut; simp
    · have hl := log2_mul_pow N (-i).toNat hN0
      unfold Toward.cut
      rw [show min (-i).toNat ((N * 2 ^ (-i).toNat).log2 + 2) = (-i).toNat from by omega]
      have hg' : (1 <<< (-i).toNat) = 2 ^ (-i).toNat := by rw [Nat.shiftLeft_eq, Nat.one_mul]
      rw [hg']
      simp only [Nat.mul_div_cancel _ (Nat.two_pow_pos _)]
      simp
  rw [hc]
  unfold signed sval
  simp
theorem cI_div {f : Format} (hg : Good f) (s t : Bool) (q N : Nat) (hN0 : N ≠ 0) (hM : q * N < 2 ^ (f.fractionBits + 1)) (hN : N < 2 ^ (f.fractionBits + 1)) (hq : q < 2 ^ (f.fractionBits + 1)) : f.div (cI f s (q * N)) (cI f t N) = some (cI f (s ^^ t) q) := by
  obtain ⟨m, i, hr, hi1, hm⟩ := read_cI hg s (q * N) hM
  obtain ⟨n, j, hr', hj1, hn⟩ := read_cI hg t N hN
  have hn0 : n ≠ 0 := by rw [hn]; exact Nat.mul_ne_zero hN0 (Nat.ne_of_gt (Nat.two_pow_pos _))
  unfold Format.div
  rw [hr, hr']
  simp only [Datum.quotient]
  rw [if_neg hn0]
  simp only [Option.map_some, Format.write, Option.some.injEq]
  by_cases hq0 : q = 0
  · subst hq0
    have hm0 : m = 0 := by rw [hm]; simp
    rw [hm0]
    simp only [Nat.zero_shiftLeft, Nat.zero_div, Nat.zero_mod, Nat.mul_zero]
    unfold cI Format.nearest
    simp
  · have hqN : q * N ≠ 0 := Nat.mul_ne_zero hq0 hN0
    have hlm : m.log2 = (q * N).log2 + (-i).toNat := by rw [hm, log2_mul_pow _ _ hqN]
    have hln : n.log2 = N.log2 + (-j).toNat := by rw [hn, log2_mul_pow _ _ hN0]
    have hlq : q.log2 ≤ f.fractionBits := by
      have := (Nat.log2_lt hq0).2 hq
      omega
    have hlqN : (q * N).log2 ≤ q.log2 + N.log2 + 1 := by
      have h1 : q < 2 ^ (q.log2 + 1) := Nat.lt_log2_self
      have h2 : N < 2 ^ (N.log2 + 1) := Nat.lt_log2_self
      have h3 : q * N < 2 ^ (q.log2 + N.log2 + 2) := by
        calc q * N < 2 ^ (q.log2 + 1) * 2 ^ (N.log2 + 1) := Nat.mul_lt_mul'' h1 h2
          _ = 2 ^ (q.log2 + N.log2 + 2) := by rw [← Nat.pow_add]; congr 1; omega
      have := (Nat.log2_lt hqN).2 h3
      omega
    generalize hmore : f.fractionBits + 2 + n.log2 - m.log2 = more
    have hT : (-j).toNat ≤ (-i).toNat + more := by omega
    obtain ⟨T, hT'⟩ : ∃ T, (-i).toNat + more = (-j).toNat + T := ⟨(-i).toNat + more - (-j).toNat, by omega⟩
    have hdiv : m <<< more = (q * 2 ^ T) * n := by
      rw [Nat.shiftLeft_eq, hm, hn, Nat.mul_assoc, ← Nat.pow_add, hT', Nat.pow_add]
      simp only [Nat.mul_assoc, Nat.mul_comm, Nat.mul_left_comm]
    rw [hdiv, Nat.mul_div_cancel _ (Nat.pos_of_ne_zero hn0), Nat.mul_mod_left]
    refine cI_nearest hg _ _ _ _ hq ⟨by omega, ?_⟩
    have e : (-(i - j - (more : Int) - 1)).toNat = T + 1 := by omega
    rw [e, Nat.pow_succ]
    simp
    rw [Nat.mul_comm 2, Nat.mul_assoc]

/-! ### Floats that are whole numbers -/
/-- x is the 32-bit float of z. -/
def J32 (x : Nat) (z : Int) : Prop := ∃ s N, x = cI single s N ∧ N < 16777216 ∧ sval s N = z
/-- x is the 64-bit float of z. -/
def J64 (x : Nat) (z : Int) : Prop := ∃ s N, x = cI double s N ∧ N < 9007199254740992 ∧ sval s N = z
theorem sval_abs (s : Bool) (N : Nat) : (sval s N).natAbs = N := by cases s <;> simp [sval]
theorem sval_mul (s t : Bool) (M N : Nat) : sval (s ^^ t) (M * N) = sval s M * sval t N := by
  cases s <;> cases t <;> simp [sval, Int.neg_mul, Int.mul_neg]
theorem J32.bound {x : Nat} {z : Int} (h : J32 x z) : z.natAbs < 16777216 := by
  obtain ⟨s, N, _, h1, rfl⟩ := h; rw [sval_abs]; exact h1
theorem J64.mul {x y : Nat} {a b : Int} (h : J64 x a) (k : J64 y b) (hb : (a * b).natAbs < 9007199254740992) : ∃ r, floatBits .mul .f64 x y = some r ∧ J64 r (a * b) := by
  obtain ⟨s, M, rfl, hM, rfl⟩ := h
  obtain ⟨t, N, rfl, hN, rfl⟩ := k
  rw [Int.natAbs_mul, sval_abs, sval_abs] at hb
  exact ⟨_, cI_mul good64 s t M N hM hN hb, _, _, rfl, hb, sval_mul s t M N⟩
theorem J32.mul {x y : Nat} {a b : Int} (h : J32 x a) (k : J32 y b) (hb : (a * b).natAbs < 16777216) : ∃ r, floatBits .mul .f32 x y = some r ∧ J32 r (a * b) := by
  obtain ⟨s, M, rfl, hM, rfl⟩ := h
  obtain ⟨t, N, rfl, hN, rfl⟩ := k
  rw [Int.natAbs_mul, sval_abs, sval_abs] at hb
  exact ⟨_, cI_mul good32 s t M N hM hN hb, _, _, rfl, hb, sval_mul s t M N⟩
theorem J64.add {x y : Nat} {a b : Int} (h : J64 x a) (k : J64 y b) (hb : (a + b).natAbs < 9007199254740992) : ∃ r, floatBits .add .f64 x y = some r ∧ J64 r (a + b) := by
  obtain ⟨s, M, rfl, hM, rfl⟩ := h
  obtain ⟨t, N, rfl, hN, rfl⟩ := k
  exact ⟨_, cI_add good64 s t M N hM hN hb, _, _, rfl, hb, sval_sign _ s t⟩
theorem J32.add {x y : Nat} {a b : Int} (h : J32 x a) (k : J32 y b) (hb : (a + b).natAbs < 16777216) : ∃ r, floatBits .add .f32 x y = some r ∧ J32 r (a + b) := by
  obtain ⟨s, M, rfl, hM, rfl⟩ := h
  obtain ⟨t, N, rfl, hN, rfl⟩ := k
  exact ⟨_, cI_add good32 s t M N hM hN hb, _, _, rfl, hb, sval_sign _ s t⟩
theorem J64.sub {x y : Nat} {a b : Int} (h : J64 x a) (k : J64 y b) (hb : (a - b).natAbs < 9007199254740992) : ∃ r, floatBits .sub .f64 x y = some r ∧ J64 r (a - b) := by
  obtain ⟨s, M, rfl, hM, rfl⟩ := h
  obtain ⟨t, N, rfl, hN, rfl⟩ := k
  obtain ⟨r, h1, h2⟩ := cI_sub good64 s t M N hM hN hb
  exact ⟨_, h1, _, _, rfl, hb, h2⟩
theorem J64.quo {x y : Nat} {q b : Int} (h : J64 x (q * b)) (k : J64 y b) (hb : b ≠ 0) (hq : q.natAbs < 9007199254740992) : ∃ r, floatBits .quo .f64 x y = some r ∧ J64 r q := by
  obtain ⟨s, M, rfl, hM, hs⟩ := h
  obtain ⟨t, N, rfl, hN, rfl⟩ := k
  have hMq : M = q.natAbs * N := by
    have := congrArg Int.natAbs hs
    rw [sval_abs, Int.natAbs_mul, sval_abs] at this
    exact this
  subst hMq
  have hN0 : N ≠ 0 := by
    rintro rfl
    apply hb
    cases t <;> simp [sval]
  refine ⟨_, cI_div good64 s t q.natAbs N hN0 hM hN hq, _, _, rfl, hq, ?_⟩
  by_cases hq0 : q = 0
  · subst hq0; cases s <;> cases t <;> rfl
  · have h1 := sval_mul (s ^^ t) t q.natAbs N
    rw [show ((s ^^ t) ^^ t) = s from by cases s <;> cases t <;> rfl, hs] at h1
    exact (Int.eq_of_mul_eq_mul_right hb h1).symm
theorem J32.order {x y : Nat} {a b : Int} (h : J32 x a) (k : J32 y b) : FloatKind.f32.format.order x y = some (compare a b) := by
  obtain ⟨s, M, rfl, hM, rfl⟩ := h
  obtain ⟨t, N, rfl, hN, rfl⟩ := k
  exact cI_order good32 s t M N hM hN
theorem cI_num {f : Format} (hg : Good f) (s : Bool) (N : Nat) (hN : N < 2 ^ (f.fractionBits + 1)) : (f.read (cI f s N)).isInfinity = false := by
  obtain ⟨m, i, hr, _⟩ := read_cI hg s N hN
  rw [hr]; rfl
theorem J32.wide {x : Nat} {z : Int} (h : J32 x z) : ∃ r, floatToFloatBits .f32 x .f64 = some r ∧ J64 r z := by
  obtain ⟨s, N, rfl, hN, rfl⟩ := h
  obtain ⟨m, i, hr, hi⟩ := read_cI good32 s N hN
  refine ⟨cI double s N, ?_, s, N, rfl, by omega, rfl⟩
  unfold floatToFloatBits
  rw [if_neg (by decide), show FloatKind.f32.decode (cI single s N) = single.read (cI single s N) from rfl, hr]
  dsimp only
  have e : FloatKind.f64.encode (.number s m i) = cI double s N := cI_nearest good64 s m i N (by show N < 9007199254740992; omega) hi
  rw [e, show FloatKind.f64.decode (cI double s N) = double.read (cI double s N) from rfl, cI_num good64 s N (by show N < 9007199254740992; omega)]
  rfl
theorem narrow_cI (s : Bool) (N : Nat) (hN : N < 16777216) : floatToFloatBits .f64 (cI double s N) .f32 = some (cI single s N) := by
  obtain ⟨m, i, hr, hi⟩ := read_cI good64 s N (by show N < 9007199254740992; omega)
  unfold floatToFloatBits
  rw [if_neg (by decide), show FloatKind.f64.decode (cI double s N) = double.read (cI double s N) from rfl, hr]
  dsimp only
  have e : FloatKind.f32.encode (.number s m i) = cI single s N := cI_nearest good32 s m i N hN hi
  rw [e, show FloatKind.f32.decode (cI single s N) = single.read (cI single s N) from rfl, cI_num good32 s N hN]
  rfl
theorem J64.narrow {x : Nat} {z : Int} (h : J64 x z) (hz : z.natAbs < 16777216) : ∃ r, floatToFloatBits .f64 x .f32 = some r ∧ J32 r z := by
  obtain ⟨s, N, rfl, _, rfl⟩ := h
  rw [sval_abs] at hz
  exact ⟨_, narrow_cI s N hz, s, N, rfl, hz, rfl⟩
theorem J32.int {x : Nat} {z : Int} (h : J32 x z) : floatToIntVal .f32 x .i64 = some z := by
  obtain ⟨s, N, rfl, hN, rfl⟩ := h
  unfold floatToIntVal
  rw [show FloatKind.f32.decode (cI single s N) = single.read (cI single s N) from rfl, cI_toInt good32 s N hN]
  dsimp only
  have hb : (sval s N).natAbs < 16777216 := by rw [sval_abs]; exact hN
  rw [if_pos]
  rw [show IntKind.i64.min = -9223372036854775808 from rfl, show IntKind.i64.max = 9223372036854775807 from rfl]
  omega
theorem J32.of (z : Int) (h : z.natAbs < 16777216) : J32 (floatOfInt .f32 z) z := by
  refine ⟨decide (z < 0), z.natAbs, rfl, h, ?_⟩
  by_cases hn : z < 0
  · rw [decide_eq_true hn]; simp [sval]; omega
  · rw [decide_eq_false hn]; simp [sval]; omega
end Go.Proofs.YticfmlohkfoccaaGreatDoor
