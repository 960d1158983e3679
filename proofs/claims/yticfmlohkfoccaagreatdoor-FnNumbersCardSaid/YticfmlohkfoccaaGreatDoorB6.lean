import Derived.Test.YticfmlohkfoccaaGreatDoorB4

/- 64-bit floats within bounds: what each operation keeps; plain. -/
set_option linter.unusedVariables false
set_option linter.unusedSimpArgs false
namespace Go.Proofs.YticfmlohkfoccaaGreatDoor
open Ieee

/-- x is finite, its sign is s, and it is at most 2 ^ k, the sign apart. -/
def F64 (x : Nat) (s : Bool) (k : Int) : Prop := ∃ m e, double.read x = .number s m e ∧ Le m e k
theorem Le.mono {m : Nat} {e k k' : Int} (h : Le m e k) (hk : k ≤ k') : Le m e k' := by
  rcases h with h | ⟨h1, h2⟩
  · exact Or.inl h
  · exact Or.inr ⟨by omega, Nat.le_trans h2 (Nat.pow_le_pow_right (by decide) (by omega))⟩
theorem F64.mono {x : Nat} {s : Bool} {k k' : Int} (h : F64 x s k) (hk : k ≤ k') : F64 x s k' := by
  obtain ⟨m, e, h1, h2⟩ := h
  exact ⟨m, e, h1, h2.mono hk⟩
theorem room64 (k : Int) (h : k ≤ 900) : ((k - double.fractionBits - double.leastPlace).toNat + 1) * double.binade < double.infRung := by
  rw [bn64, if64, show double.fractionBits = 52 from rfl, show double.leastPlace = -1074 from rfl]
  have : (k - (52 : Nat) - -1074).toNat ≤ 1922 := by omega
  omega
theorem write_F (s : Bool) (mag : Nat) (place k : Int) (h : Le mag place k) (h1 : -1022 ≤ k) (h2 : k ≤ 900) : F64 (double.write (.number s mag place)) s k :=
  nearest_le good64 s mag place k h (by show (-1074 : Int) + (52 : Nat) ≤ k; omega) (room64 k h2)
theorem Le.mul {m n : Nat} {i j a b : Int} (h : Le m i a) (k : Le n j b) : Le (m * n) (i + j) (a + b) := by
  rcases h with rfl | ⟨h1, h2⟩
  · exact Or.inl (Nat.zero_mul _)
  · rcases k with rfl | ⟨k1, k2⟩
    · exact Or.inl (Nat.mul_zero _)
    · refine Or.inr ⟨by omega, ?_⟩
      rw [show (a + b - (i + j)).toNat = (a - i).toNat + (b - j).toNat from by omega, Nat.pow_add]
      exact Nat.mul_le_mul h2 k2
theorem F64.mul {x y : Nat} {s t : Bool} {a b : Int} (h : F64 x s a) (k : F64 y t b) (h1 : -1022 ≤ a + b) (h2 : a + b ≤ 900) : ∃ r, floatBits .mul .f64 x y = some r ∧ F64 r (s ^^ t) (a + b) := by
  obtain ⟨m, i, hr, hi⟩ := h
  obtain ⟨n, j, hr', hj⟩ := k
  refine ⟨double.write (.number (s ^^ t) (m * n) (i + j)), ?_, write_F _ _ _ _ (hi.mul hj) h1 h2⟩
  show double.mul x y = _
  unfold Format.mul
  rw [hr, hr']; rfl
theorem signed_le {s : Bool} {m : Nat} {i b k : Int} (h : Le m i k) (hb : b ≤ i) : (signed s m (i - b).toNat).natAbs ≤ 2 ^ (k - b).toNat := by
  have e : (signed s m (i - b).toNat).natAbs = m * 2 ^ (i - b).toNat := by
    unfold signed; rw [Nat.shiftLeft_eq]; cases s <;> simp <;> rw [Int.natAbs_mul, Int.natAbs_natCast, Int.natAbs_pow] <;> rfl
  rw [e]
  rcases h with rfl | ⟨h1, h2⟩
  · simp
  · calc m * 2 ^ (i - b).toNat ≤ 2 ^ (k - i).toNat * 2 ^ (i - b).toNat := Nat.mul_le_mul_right _ h2
      _ = 2 ^ (k - b).toNat := by rw [← Nat.pow_add]; congr 1; omega
theorem le_place {m : Nat} {i k : Int} (h : Le m i k) (h0 : m ≠ 0) : i ≤ k := by
  rcases h with h | h
  · exact absurd h h0
  · exact h.1
/-- A sum, where both places lie below the bound. -/
theorem sum_F {s t : Bool} {m n : Nat} {i j k : Int} (hi : Le m i k) (hj : Le n j k) (hik : min i j ≤ k) (h1 : -1022 ≤ k) (h2 : k ≤ 800) : ∃ r q, ((Datum.number s m i).sum (Datum.number t n j)).map double.write = some r ∧ F64 r q (k + 1) := by
  simp only [Datum.sum, Option.map_some, Option.some.injEq]
  refine ⟨_, _, rfl, write_F _ _ _ (k + 1) (Or.inr ⟨by omega, ?_⟩) (by omega) (by omega)⟩
  have e1 := signed_le (s := s) (b := min i j) hi (by omega)
  have e2 := signed_le (s := t) (b := min i j) hj (by omega)
  have e3 : 2 ^ (k + 1 - min i j).toNat = 2 ^ (k - min i j).toNat + 2 ^ (k - min i j).toNat := by
    rw [show (k + 1 - min i j).toNat = (k - min i j).toNat + 1 from by omega, Nat.pow_succ]; omega
  rw [e3]
  generalize signed s m (i - min i j).toNat = p at *
  generalize signed t n (j - min i j).toNat = q at *
  generalize 2 ^ (k - min i j).toNat = c at *
  omega
/-- Places of finite 64-bit floats. -/
theorem read_small {x : Nat} {s : Bool} {m : Nat} {e : Int} (h : double.read x = .number s m e) : m < 9007199254740992 ∧ -1074 ≤ e ∧ e ≤ 971 := by
  unfold Format.read at h
  dsimp only at h
  rw [sw64, bn64, if64, show double.leastPlace = -1074 from rfl] at h
  split at h
  · injection h with _ h1 h2
    omega
  · split at h
    · injection h with _ h1 h2
      omega
    · split at h <;> cases h
theorem F64.sub {x y : Nat} {s t : Bool} {k : Int} (h : F64 x s k) (g : F64 y t k) (h1 : 0 ≤ k) (h2 : k ≤ 800) (hx : ∃ m e, double.read x = .number s m e ∧ e ≤ k) : ∃ r q, floatBits .sub .f64 x y = some r ∧ F64 r q (k + 1) := by
  obtain ⟨m, i, hr, hi⟩ := h
  obtain ⟨n, j, hr', hj⟩ := g
  obtain ⟨m', i', hr2, hik⟩ := hx
  rw [hr] at hr2
  injection hr2 with _ _ e2
  obtain ⟨r, q, h3, h4⟩ := sum_F (s := s) (t := !t) hi hj (by omega) (by omega) h2
  refine ⟨r, q, ?_, h4⟩
  show double.sub x y = _
  unfold Format.sub
  rw [hr, hr']
  exact h3
theorem F64.narrow {x : Nat} {s : Bool} {k : Int} (h : F64 x s k) (h1 : 0 ≤ k) (h2 : k ≤ 100) : ∃ r, floatToFloatBits .f64 x .f32 = some r ∧ r < 4294967296 := by
  obtain ⟨m, e, hr, hl⟩ := h
  obtain ⟨m', e', h5, _⟩ := nearest_le good32 s m e k hl (by show (-149 : Int) + (23 : Nat) ≤ k; omega) (by
    rw [bn32, if32, show single.fractionBits = 23 from rfl, show single.leastPlace = -149 from rfl]
    have : (k - (23 : Nat) - -149).toNat ≤ 226 := by omega
    omega)
  refine ⟨single.nearest s m e, ?_, single.nearest_lt s m e⟩
  unfold floatToFloatBits
  rw [if_neg (by decide), show FloatKind.f64.decode x = double.read x from rfl, hr]
  dsimp only
  rw [show FloatKind.f32.encode (.number s m e) = single.nearest s m e from rfl, show FloatKind.f32.decode (single.nearest s m e) = single.read (single.nearest s m e) from rfl, h5]
  rfl
/-- A quotient: x is at most 2 ^ k times y. -/
theorem quo_F {x y : Nat} {s t : Bool} {m n : Nat} {i j k : Int} (hr : double.read x = .number s m i) (hr' : double.read y = .number t n j) (hn : n ≠ 0) (hb : ∃ b : Int, b ≤ i ∧ b ≤ j + k ∧ m * 2 ^ (i - b).toNat ≤ n * 2 ^ (j + k - b).toNat) (h1 : -1022 ≤ k) (h2 : k ≤ 900) :
    ∃ r, floatBits .quo .f64 x y = some r ∧ F64 r (s ^^ t) k := by
  show ∃ r, double.div x y = some r ∧ F64 r (s ^^ t) k
  unfold Format.div
  rw [hr, hr']
  simp only [Datum.quotient]
  rw [if_neg hn]
  simp only [Option.map_some, Option.some.injEq]
  refine ⟨_, rfl, write_F _ _ _ k ?_ h1 h2⟩
  have hms := (read_small hr).1
  by_cases h0 : m = 0
  · left
    subst h0
    simp
  · right
    have hmlog : m.log2 < 53 := (Nat.log2_lt h0).2 hms
    generalize hmore : double.fractionBits + 2 + n.log2 - m.log2 = more
    have hmv : more = 54 + n.log2 - m.log2 := by rw [← hmore]; rfl
    obtain ⟨b, hb1, hb2, hb3⟩ := hb
    -- the exponent of the quotient's bound
    have hD : m <<< more = m * 2 ^ more := Nat.shiftLeft_eq ..
    have hDn : n ≤ m * 2 ^ more := by
      have h3 : n < 2 ^ (n.log2 + 1) := Nat.lt_log2_self
      have h4 : 2 ^ m.log2 ≤ m := Nat.log2_self_le h0
      calc n ≤ 2 ^ (n.log2 + 1) := Nat.le_of_lt h3
        _ ≤ 2 ^ (m.log2 + more) := Nat.pow_le_pow_right (by decide) (by omega)
        _ = 2 ^ m.log2 * 2 ^ more := Nat.pow_add ..
        _ ≤ m * 2 ^ more := Nat.mul_le_mul_right _ h4
    have hq0 : i - (more : Int) ≤ j + k := by
      apply Int.not_lt.1
      intro hlt
      -- then m * 2^more < n
      have h5 : m * 2 ^ more * 2 ^ (i - (more : Int) - (j + k)).toNat * 2 ^ (j + k - b).toNat = m * 2 ^ (i - b).toNat := by
        rw [Nat.mul_assoc, Nat.mul_assoc, ← Nat.pow_add, ← Nat.pow_add]
        congr 2
        omega
      have h6 : 2 ≤ 2 ^ (i - (more : Int) - (j + k)).toNat := by
        calc 2 = 2 ^ 1 := rfl
          _ ≤ 2 ^ (i - (more : Int) - (j + k)).toNat := Nat.pow_le_pow_right (by decide) (by omega)
      rw [← h5] at hb3
      have h7 := Nat.le_of_mul_le_mul_right hb3 (Nat.two_pow_pos _)
      have h8 : m * 2 ^ more * 2 ≤ m * 2 ^ more * 2 ^ (i - (more : Int) - (j + k)).toNat := Nat.mul_le_mul_left _ h6
      omega
    obtain ⟨q, hq⟩ : ∃ q : Nat, j + k - (i - (more : Int)) = q := ⟨(j + k - (i - (more : Int))).toNat, by omega⟩
    have hDq : m * 2 ^ more ≤ n * 2 ^ q := by
      by_cases hbi : b ≤ i - (more : Int)
      · have h5 : m * 2 ^ (i - b).toNat = m * 2 ^ more * 2 ^ (i - (more : Int) - b).toNat := by
          rw [Nat.mul_assoc, ← Nat.pow_add]; congr 2; omega
        have h6 : n * 2 ^ (j + k - b).toNat = n * 2 ^ q * 2 ^ (i - (more : Int) - b).toNat := by
          rw [Nat.mul_assoc, ← Nat.pow_add]; congr 2; omega
        rw [h5, h6] at hb3
        exact Nat.le_of_mul_le_mul_right hb3 (Nat.two_pow_pos _)
      · have h5 : m * 2 ^ more = m * 2 ^ (i - b).toNat * 2 ^ (b - (i - (more : Int))).toNat := by
          rw [Nat.mul_assoc, ← Nat.pow_add]; congr 2; omega
        have h6 : n * 2 ^ q = n * 2 ^ (j + k - b).toNat * 2 ^ (b - (i - (more : Int))).toNat := by
          rw [Nat.mul_assoc, ← Nat.pow_add]; congr 2; omega
        rw [h5, h6]
        exact Nat.mul_le_mul_right _ hb3
    refine ⟨by omega, ?_⟩
    rw [hD, show (k - (i - j - (more : Int) - 1)).toNat = q + 1 from by omega, Nat.pow_succ]
    have hnp := Nat.pos_of_ne_zero hn
    have hdm := Nat.div_add_mod (m * 2 ^ more) n
    have hle : m * 2 ^ more / n ≤ 2 ^ q := Nat.div_le_of_le_mul hDq
    by_cases heq : m * 2 ^ more / n = 2 ^ q
    · have h9 : m * 2 ^ more % n = 0 := by
        rw [heq] at hdm
        omega
      rw [heq, h9]
      simp
      omega
    · have h10 : ((m * 2 ^ more % n != 0).toNat) ≤ 1 := Bool.toNat_le _
      omega
/-- A 64-bit word of a great rung. -/
theorem read_word64 (s : Bool) (T X : Nat) (hT : T ≤ 1974) (h1 : 4503599627370496 ≤ X) (h2 : X ≤ 9007199254740992) : ∃ m e, double.read (double.word s (T * 4503599627370496 + X)) = .number s m e ∧ m ≠ 0 ∧ (T : Int) - 1022 ≤ e + m.log2 := by
  have h3 : double.word s (T * 4503599627370496 + X) % double.signWeight = T * 4503599627370496 + X := by
    unfold Format.word; rw [sw64]; cases s <;> simp <;> omega
  have h4 : (double.word s (T * 4503599627370496 + X) / double.signWeight % 2 == 1) = s := by
    unfold Format.word; rw [sw64]; cases s <;> simp <;> omega
  unfold Format.read
  dsimp only
  rw [h3, h4, bn64, if64, if_neg (by omega), if_pos (by omega), show double.leastPlace = -1074 from rfl]
  have h6 : (T * 4503599627370496 + X) % 4503599627370496 < 4503599627370496 := Nat.mod_lt _ (by decide)
  have h7 : T + 1 ≤ (T * 4503599627370496 + X) / 4503599627370496 := by omega
  generalize (T * 4503599627370496 + X) % 4503599627370496 = Y at *
  generalize (T * 4503599627370496 + X) / 4503599627370496 = Q at *
  have p52 : (2 : Nat) ^ 52 = 4503599627370496 := by decide
  have hY0 : 4503599627370496 + Y ≠ 0 := by omega
  have h5 : 52 ≤ (4503599627370496 + Y).log2 := (Nat.le_log2 hY0).2 (by rw [p52]; omega)
  exact ⟨_, _, rfl, hY0, by omega⟩
/-- What is kept of a number, at the place of its leading digit less 52. -/
theorem kept_bounds (M : Nat) (c l : Int) (hM0 : M ≠ 0) (hl : c + (M.log2 : Int) - 52 = l) : ∃ X, Toward.even.cut false (M <<< (c - l).toNat) (l - c).toNat = X ∧ 2 ^ 52 ≤ X ∧ X ≤ 2 ^ 53 := by
  have h3 := Nat.log2_self_le hM0
  have h4 : M < 2 ^ (M.log2 + 1) := Nat.lt_log2_self
  refine ⟨_, rfl, ?_, ?_⟩
  · by_cases hcl : l ≤ c
    · rw [show (l - c).toNat = 0 from by omega, cut_none, Nat.shiftLeft_eq]
      refine Nat.le_trans ?_ (Nat.mul_le_mul_right _ h3)
      rw [← Nat.pow_add]
      exact Nat.pow_le_pow_right (by decide) (by omega)
    · rw [show (c - l).toNat = 0 from by omega, Nat.shiftLeft_zero]
      unfold Toward.cut
      dsimp only
      rw [show min (l - c).toNat (M.log2 + 2) = (l - c).toNat from by omega, Nat.shiftLeft_eq, Nat.one_mul]
      refine Nat.le_trans ?_ (Nat.le_add_right _ _)
      rw [Nat.le_div_iff_mul_le (Nat.two_pow_pos _), ← Nat.pow_add]
      refine Nat.le_trans ?_ h3
      exact Nat.pow_le_pow_right (by decide) (by omega)
  · apply cut_le
    rw [Nat.shiftLeft_eq]
    refine Nat.le_trans (Nat.mul_le_mul_right _ (Nat.le_of_lt h4)) ?_
    rw [← Nat.pow_add]
    exact Nat.pow_le_pow_right (by decide) (by omega)
theorem t_low {l c : Int} {T L : Nat} (h1 : (l - -1074).toNat = T) (h2 : c + (L : Int) - 52 = l) (h3 : (-c).toNat ≤ L) (h4 : c ≤ -52) : (1022 : Int) ≤ T := by omega
theorem t_fin {a : Int} {T : Nat} (h1 : (T : Int) - 1022 ≤ a) (h2 : (1022 : Int) ≤ T) : 0 ≤ a := by omega
/-- One. -/
theorem one_read : double.read 4607182418800017408 = .number false 4503599627370496 (-52) := rfl
/-- One and something that is not negative: at least one. -/
theorem add_one {y : Nat} {k : Int} (h : F64 y false k) (h1 : 0 ≤ k) (h2 : k ≤ 800) : ∃ r, floatBits .add .f64 4607182418800017408 y = some r ∧ F64 r false (k + 1) ∧ ∃ m e, double.read r = .number false m e ∧ m ≠ 0 ∧ 0 ≤ e + m.log2 := by
  obtain ⟨n, j, hr', hj⟩ := h
  have hjs := read_small hr'
  show ∃ r, double.add 4607182418800017408 y = some r ∧ _
  unfold Format.add
  rw [one_read, hr']
  simp only [Datum.sum, Option.map_some, Option.some.injEq]
  have e1 : signed false 4503599627370496 (-52 - min (-52) j).toNat = ((2 ^ (-(min (-52) j)).toNat : Nat) : Int) := by
    unfold signed
    simp only [Bool.false_eq_true, if_false]
    rw [Nat.shiftLeft_eq, show 4503599627370496 = 2 ^ 52 from by decide, ← Nat.pow_add]
    congr 2
    omega
  have e2 : signed false n (j - min (-52) j).toNat = ((n * 2 ^ (j - min (-52) j).toNat : Nat) : Int) := by
    unfold signed
    simp only [Bool.false_eq_true, if_false]
    rw [Nat.shiftLeft_eq]
  have b2 := signed_le (s := false) (b := min (-52) j) hj (by omega)
  rw [e2, Int.natAbs_natCast] at b2
  rw [e1, e2]
  generalize hmin : min (-52 : Int) j = c at *
  have hc : c ≤ -52 := by omega
  have hp : 0 < 2 ^ (-c).toNat := Nat.two_pow_pos _
  generalize hN : n * 2 ^ (j - c).toNat = N at *
  have hsum : ((2 ^ (-c).toNat : Nat) : Int) + (N : Int) = ((2 ^ (-c).toNat + N : Nat) : Int) := by omega
  rw [hsum]
  have hne : ¬ (((2 ^ (-c).toNat + N : Nat) : Int) = 0) := by omega
  rw [if_neg hne, show decide (((2 ^ (-c).toNat + N : Nat) : Int) < 0) = false from decide_eq_false (by omega), Int.natAbs_natCast]
  refine ⟨_, rfl, write_F false _ c (k + 1) (Or.inr ⟨by omega, ?_⟩) (by omega) (by omega), ?_⟩
  · have h3 : 2 ^ (-c).toNat ≤ 2 ^ (k - c).toNat := Nat.pow_le_pow_right (by decide) (by omega)
    rw [show (k + 1 - c).toNat = (k - c).toNat + 1 from by omega, Nat.pow_succ]
    omega
  · -- the lower bound
    generalize hM : 2 ^ (-c).toNat + N = M at *
    have hM0 : M ≠ 0 := by omega
    have hMlog : (-c).toNat ≤ M.log2 := (Nat.le_log2 hM0).2 (by omega)
    have hLe : Le M c (k + 1) := Or.inr ⟨by omega, by
      have h3 : 2 ^ (-c).toNat ≤ 2 ^ (k - c).toNat := Nat.pow_le_pow_right (by decide) (by omega)
      rw [show (k + 1 - c).toNat = (k - c).toNat + 1 from by omega, Nat.pow_succ]
      omega⟩
    show ∃ m e, double.read (double.nearest false M c) = .number false m e ∧ m ≠ 0 ∧ 0 ≤ e + m.log2
    have hMle : M.log2 ≤ (k + 1 - c).toNat := by
      rcases hLe with h | h
      · exact absurd h hM0
      · exact pow_log M hM0 _ h.2
    unfold Format.nearest
    rw [if_neg hM0]
    dsimp only
    rw [show double.leastPlace = -1074 from rfl, show double.fractionBits = 52 from rfl]
    rw [show max (c + (M.log2 : Int) - (52 : Nat)) (-1074) = c + (M.log2 : Int) - 52 from by omega]
    generalize hl : c + (M.log2 : Int) - 52 = l at *
    have p52 : (2 : Nat) ^ 52 = 4503599627370496 := by decide
    have p53 : (2 : Nat) ^ 53 = 9007199254740992 := by decide
    have hkept : ∃ X, Toward.even.cut false (M <<< (c - l).toNat) (l - c).toNat = X ∧ 2 ^ 52 ≤ X ∧ X ≤ 2 ^ 53 := kept_bounds M c l hM0 (by omega)
    rw [p52, p53] at hkept
    obtain ⟨X, hX, hX1, hX2⟩ := hkept
    rw [hX, bn64, if64]
    have hT : (l - -1074).toNat ≤ 1074 + 900 := by omega
    generalize hTT : (l - -1074).toNat = T at *
    have hrung : min (T * 4503599627370496 + X) 9218868437227405312 = T * 4503599627370496 + X := Nat.min_eq_left (by omega)
    rw [hrung]
    obtain ⟨m, e, hre, hm0, hme⟩ := read_word64 false T X hT hX1 hX2
    exact ⟨m, e, hre, hm0, t_fin hme (t_low hTT hl hMlog hc)⟩
end Go.Proofs.YticfmlohkfoccaaGreatDoor

/- What the program's angle passes through: bounds of its steps; plain. -/
set_option linter.unusedVariables false
set_option linter.unusedSimpArgs false
namespace Go.Proofs.YticfmlohkfoccaaGreatDoor
open Ieee

theorem sqrt_F {y : Nat} (h : F64 y false 1) : ∃ r, FloatKind.f64.format.sqrt y = some r ∧ F64 r false 1 := by
  obtain ⟨m, i, hr, hi⟩ := h
  show ∃ r, double.sqrt y = some r ∧ F64 r false 1
  unfold Format.sqrt
  rw [hr]
  simp only [Datum.root]
  by_cases h0 : m = 0
  · rw [if_pos h0]
    exact ⟨_, rfl, write_F false m i 1 (Or.inl h0) (by omega) (by omega)⟩
  · rw [if_neg h0]
    simp only [Bool.false_eq_true, if_false, Option.map_some, Option.some.injEq]
    refine ⟨_, rfl, write_F false _ _ 1 ?_ (by omega) (by omega)⟩
    have hms := (read_small hr).1
    have hml : m.log2 < 53 := (Nat.log2_lt h0).2 hms
    have hil : i + m.log2 ≤ 1 := by
      rcases hi with h | h
      · exact absurd h h0
      · have := pow_log m h0 _ h.2
        omega
    rw [show 2 * (double.fractionBits + 2) = 108 from rfl]
    generalize hmore : 108 - m.log2 = more
    have hpar : ((i - (more : Int)) % 2).toNat ≤ 1 := by omega
    generalize hmm : more + ((i - (more : Int)) % 2).toNat = more'
    generalize hnn : m <<< more' = n
    have hnl : n.log2 = m.log2 + more' := by rw [← hnn, Nat.shiftLeft_eq, log2_mul_pow m _ h0]
    have hroot := rootFrom_le n (n.log2 / 2 + 1) 0
    have hsize : 2 * Datum.rootFrom n (n.log2 / 2 + 1) 0 + (Datum.rootFrom n (n.log2 / 2 + 1) 0 * Datum.rootFrom n (n.log2 / 2 + 1) 0 != n).toNat ≤ 2 ^ (n.log2 / 2 + 2) := by
      have h1 := Bool.toNat_le (Datum.rootFrom n (n.log2 / 2 + 1) 0 * Datum.rootFrom n (n.log2 / 2 + 1) 0 != n)
      have h2 : 2 ^ (n.log2 / 2 + 2) = 2 * 2 ^ (n.log2 / 2 + 1) := by rw [← Nat.pow_succ']
      omega
    right
    exact ⟨by omega, Nat.le_trans hsize (Nat.pow_le_pow_right (by decide) (by omega))⟩
/-- A quotient by a float of at least 2 ^ g. -/
theorem quo_ge {x y : Nat} {s t : Bool} {a g : Int} (h : F64 x s a) {n : Nat} {j : Int} (hr' : double.read y = .number t n j) (hn : n ≠ 0) (hg : g ≤ j + n.log2) (h1 : -1022 ≤ a - g) (h2 : a - g ≤ 900) : ∃ r, floatBits .quo .f64 x y = some r ∧ F64 r (s ^^ t) (a - g) := by
  obtain ⟨m, i, hr, hi⟩ := h
  refine quo_F hr hr' hn ?_ h1 h2
  rcases hi with rfl | ⟨hi1, hi2⟩
  · exact ⟨min i (j + (a - g)), by omega, by omega, by simp⟩
  · refine ⟨min i (j + (a - g)), by omega, by omega, ?_⟩
    generalize hb : min i (j + (a - g)) = b
    have h3 : m * 2 ^ (i - b).toNat ≤ 2 ^ (a - b).toNat := by
      calc m * 2 ^ (i - b).toNat ≤ 2 ^ (a - i).toNat * 2 ^ (i - b).toNat := Nat.mul_le_mul_right _ hi2
        _ = 2 ^ (a - b).toNat := by rw [← Nat.pow_add]; congr 1; omega
    refine Nat.le_trans h3 ?_
    calc 2 ^ (a - b).toNat ≤ 2 ^ (n.log2 + (j + (a - g) - b).toNat) := Nat.pow_le_pow_right (by decide) (by omega)
      _ = 2 ^ n.log2 * 2 ^ (j + (a - g) - b).toNat := Nat.pow_add ..
      _ ≤ n * 2 ^ (j + (a - g) - b).toNat := Nat.mul_le_mul_right _ (Nat.log2_self_le hn)
/-- A step of the angle's halving. -/
theorem step_facts {t : Nat} (h : F64 t false 0) : ∃ m1 a1 s1 d1 t', floatBits .mul .f64 t t = some m1 ∧ floatBits .add .f64 4607182418800017408 m1 = some a1 ∧ FloatKind.f64.format.sqrt a1 = some s1 ∧ floatBits .add .f64 4607182418800017408 s1 = some d1 ∧ floatBits .quo .f64 t d1 = some t' ∧ F64 t' false 0 := by
  obtain ⟨m1, e1, f1⟩ := h.mul h (by omega) (by omega)
  obtain ⟨a1, e2, f2, _⟩ := add_one f1 (by omega) (by omega)
  obtain ⟨s1, e3, f3⟩ := sqrt_F f2
  obtain ⟨d1, e4, f4, n, j, hr, hn, hg⟩ := add_one f3 (by omega) (by omega)
  obtain ⟨t', e5, f5⟩ := quo_ge (g := 0) h hr hn hg (by omega) (by omega)
  exact ⟨m1, a1, s1, d1, t', e1, e2, e3, e4, e5, f5⟩
def stT (t : Nat) : Nat := (floatBits .quo .f64 t ((floatBits .add .f64 4607182418800017408 ((FloatKind.f64.format.sqrt ((floatBits .add .f64 4607182418800017408 ((floatBits .mul .f64 t t).getD 0)).getD 0)).getD 0)).getD 0)).getD 0
theorem stT_eq {t : Nat} (h : F64 t false 0) : ∃ m1 a1 s1 d1, floatBits .mul .f64 t t = some m1 ∧ floatBits .add .f64 4607182418800017408 m1 = some a1 ∧ FloatKind.f64.format.sqrt a1 = some s1 ∧ floatBits .add .f64 4607182418800017408 s1 = some d1 ∧ floatBits .quo .f64 t d1 = some (stT t) ∧ F64 (stT t) false 0 := by
  obtain ⟨m1, a1, s1, d1, t', e1, e2, e3, e4, e5, f5⟩ := step_facts h
  have e : stT t = t' := by
    unfold stT
    rw [e1, Option.getD_some, e2, Option.getD_some, e3, Option.getD_some, e4, Option.getD_some, e5, Option.getD_some]
  rw [e]
  exact ⟨m1, a1, s1, d1, e1, e2, e3, e4, e5, f5⟩
def seqT (t : Nat) : Nat → Nat
  | 0 => t
  | k + 1 => stT (seqT t k)
theorem seqT_F {t : Nat} (h : F64 t false 0) : ∀ k, F64 (seqT t k) false 0
  | 0 => h
  | k + 1 => by
    obtain ⟨_, _, _, _, _, _, _, _, _, f⟩ := stT_eq (seqT_F h k)
    exact f
/-- One by an odd number. -/
def invK : Nat → Nat
  | 0 => 4589468260265693457
  | 1 => 4590207312512236308
  | 2 => 4591215111030249286
  | 3 => 4592670820000712476
  | 4 => 4594314991293244562
  | 5 => 4596373779694328218
  | 6 => 4599676419421066581
  | _ => 4607182418800017408
theorem invK_eq : ∀ i : Nat, i < 8 → floatBits .quo .f64 4607182418800017408 (floatOfInt .f64 (15 - 2 * (i : Int))) = some (invK i) := by
  intro i hi
  have : ∀ i ∈ List.range 8, floatBits .quo .f64 4607182418800017408 (floatOfInt .f64 (15 - 2 * ((i : Nat) : Int))) = some (invK i) := by decide +kernel
  exact this i (List.mem_range.2 hi)
theorem invK_F (i : Nat) : ∃ m e, double.read (invK i) = .number false m e ∧ Le m e 0 ∧ e ≤ 0 := by
  match i with
  | 0 => exact ⟨_, _, rfl, Or.inr ⟨by decide, by decide +kernel⟩, by decide⟩
  | 1 => exact ⟨_, _, rfl, Or.inr ⟨by decide, by decide +kernel⟩, by decide⟩
  | 2 => exact ⟨_, _, rfl, Or.inr ⟨by decide, by decide +kernel⟩, by decide⟩
  | 3 => exact ⟨_, _, rfl, Or.inr ⟨by decide, by decide +kernel⟩, by decide⟩
  | 4 => exact ⟨_, _, rfl, Or.inr ⟨by decide, by decide +kernel⟩, by decide⟩
  | 5 => exact ⟨_, _, rfl, Or.inr ⟨by decide, by decide +kernel⟩, by decide⟩
  | 6 => exact ⟨_, _, rfl, Or.inr ⟨by decide, by decide +kernel⟩, by decide⟩
  | n + 7 =>
    show ∃ m e, double.read 4607182418800017408 = .number false m e ∧ Le m e 0 ∧ e ≤ 0
    exact ⟨_, _, rfl, Or.inr ⟨by decide, by decide +kernel⟩, by decide⟩
def stP (u p i : Nat) : Nat := (floatBits .sub .f64 (invK i) ((floatBits .mul .f64 u p).getD 0)).getD 0
def seqP (u : Nat) : Nat → Nat
  | 0 => 0
  | i + 1 => stP u (seqP u i) i
theorem stP_eq {u p i : Nat} {s : Bool} {k : Int} (hu : F64 u false 0) (hp : F64 p s k) (h0 : 0 ≤ k) (h1 : k ≤ 100) : ∃ m1 q, floatBits .mul .f64 u p = some m1 ∧ floatBits .sub .f64 (invK i) m1 = some (stP u p i) ∧ F64 (stP u p i) q (k + 1) := by
  obtain ⟨m1, e1, f1⟩ := hu.mul hp (by omega) (by omega)
  rw [Int.zero_add] at f1
  obtain ⟨m, e, hr, hl, he⟩ := invK_F i
  obtain ⟨r, q, e2, f2⟩ := F64.sub (x := invK i) ⟨m, e, hr, hl.mono h0⟩ f1 h0 (by omega) ⟨m, e, hr, by omega⟩
  have e : stP u p i = r := by
    unfold stP
    rw [e1, Option.getD_some, e2, Option.getD_some]
  rw [e]
  exact ⟨m1, q, e1, e2, f2⟩
theorem zero_F : F64 0 false 0 := ⟨_, _, rfl, Or.inl rfl⟩
theorem seqP_F {u : Nat} (hu : F64 u false 0) : ∀ i : Nat, i ≤ 8 → ∃ s, F64 (seqP u i) s (i : Int)
  | 0, _ => ⟨false, zero_F⟩
  | i + 1, h => by
    obtain ⟨s, f⟩ := seqP_F hu i (by omega)
    obtain ⟨_, q, _, _, f2⟩ := stP_eq (i := i) hu f (by omega) (by omega)
    exact ⟨q, by rw [show ((i + 1 : Nat) : Int) = (i : Int) + 1 from by omega]; exact f2⟩
/-- The angle's end: eight times a product, by the circle. -/
theorem end_facts {t p : Nat} {s : Bool} (ht : F64 t false 0) (hp : F64 p s 8) : ∃ m1 m2 r q, floatBits .mul .f64 t p = some m1 ∧ floatBits .mul .f64 4620693217682128896 m1 = some m2 ∧ floatBits .quo .f64 m2 4618760256179416344 = some r ∧ F64 r q 9 := by
  obtain ⟨m1, e1, f1⟩ := ht.mul hp (by omega) (by omega)
  have f8 : F64 4620693217682128896 false 3 := ⟨_, _, rfl, Or.inr ⟨by decide, by decide +kernel⟩⟩
  obtain ⟨m2, e2, f2⟩ := f8.mul f1 (by omega) (by omega)
  have hr : double.read 4618760256179416344 = .number false 7074237752028440 (-50) := by decide +kernel
  obtain ⟨r, e3, f3⟩ := quo_ge (g := 2) f2 hr (by decide) (by decide +kernel) (by omega) (by omega)
  exact ⟨m1, m2, r, _, e1, e2, e3, f3⟩
/-- A constant less the angle. -/
theorem less_facts {x c : Nat} {s : Bool} {k : Int} (hx : F64 x s k) (hk : 0 ≤ k) (hk2 : k ≤ 100) (hc : ∃ m e, double.read c = .number false m e ∧ Le m e 0 ∧ e ≤ 0) : ∃ r q, floatBits .sub .f64 c x = some r ∧ F64 r q (k + 1) := by
  obtain ⟨m, e, hr, hl, he⟩ := hc
  exact F64.sub (x := c) ⟨m, e, hr, hl.mono hk⟩ hx hk (by omega) ⟨m, e, hr, by omega⟩
theorem quarter : ∃ m e, double.read 4598175219545276416 = .number false m e ∧ Le m e 0 ∧ e ≤ 0 := ⟨_, _, rfl, Or.inr ⟨by decide, by decide +kernel⟩, by decide⟩
theorem half : ∃ m e, double.read 4602678819172646912 = .number false m e ∧ Le m e 0 ∧ e ≤ 0 := ⟨_, _, rfl, Or.inr ⟨by decide, by decide +kernel⟩, by decide⟩
/-- The opposite of a 64-bit float within bounds. -/
theorem xor_top64 (r : Nat) (h : r < 2 ^ 63) : r ^^^ 2 ^ 63 = 2 ^ 63 + r := by
  apply Nat.eq_of_testBit_eq
  intro i
  rw [Nat.testBit_xor, Nat.testBit_two_pow]
  by_cases hi : i = 63
  · subst hi
    rw [Nat.testBit_two_pow_add_eq, Nat.testBit_lt_two_pow h]; rfl
  · rw [decide_eq_false (fun h => hi h.symm), Bool.xor_false]
    by_cases hlt : i < 63
    · rw [Nat.testBit_two_pow_add_gt hlt]
    · have h1 : r < 2 ^ i := Nat.lt_of_lt_of_le h (Nat.pow_le_pow_right (by omega) (by omega))
      have h2 : 2 ^ 63 + r < 2 ^ i := by
        have h3 : 2 ^ 64 ≤ 2 ^ i := Nat.pow_le_pow_right (by omega) (by omega)
        have h4 : 2 ^ 64 = 2 ^ 63 + 2 ^ 63 := by decide
        omega
      rw [Nat.testBit_lt_two_pow h1, Nat.testBit_lt_two_pow h2]
theorem read_sign (s t : Bool) (r : Nat) (h : r < 9223372036854775808) {m : Nat} {e : Int} (hr : double.read (double.word s r) = .number s m e) : double.read (double.word t r) = .number t m e := by
  have h3 : ∀ s, double.word s r % double.signWeight = r := fun s => by
    unfold Format.word; rw [sw64]; cases s <;> simp <;> omega
  have h4 : ∀ s, (double.word s r / double.signWeight % 2 == 1) = s := fun s => by
    unfold Format.word; rw [sw64]; cases s <;> simp <;> omega
  unfold Format.read at hr ⊢
  dsimp only at hr ⊢
  rw [h3, h4] at hr
  rw [h3, h4]
  by_cases c1 : r < double.binade
  · rw [if_pos c1] at hr ⊢
    rw [Datum.number.injEq] at hr ⊢
    exact ⟨rfl, hr.2⟩
  · rw [if_neg c1] at hr ⊢
    by_cases c2 : r < double.infRung
    · rw [if_pos c2] at hr ⊢
      rw [Datum.number.injEq] at hr ⊢
      exact ⟨rfl, hr.2⟩
    · rw [if_neg c2] at hr
      split at hr <;> cases hr
theorem word64 (x : Nat) (hx : x < 18446744073709551616) : ∃ s r, x = double.word s r ∧ r < 9223372036854775808 := by
  unfold Format.word
  rw [sw64]
  by_cases hs : x < 9223372036854775808
  · exact ⟨false, x, rfl, hs⟩
  · exact ⟨true, x - 9223372036854775808, by simp; omega, by omega⟩
theorem neg_word64 (s : Bool) (r : Nat) (h : r < 9223372036854775808) : Op.negFloat .f64 (double.word s r) = double.word (!s) r := by
  have hp : (2 : Nat) ^ 63 = 9223372036854775808 := by decide
  have h' : r < 2 ^ 63 := by rw [hp]; exact h
  unfold Op.negFloat
  rw [show FloatKind.f64.format.exponentBits + FloatKind.f64.format.fractionBits = 63 from rfl]
  unfold Format.word
  rw [sw64, ← hp]
  cases s
  · simp only [Bool.false_eq_true, if_false, Bool.not_false, if_true]
    exact xor_top64 r h'
  · simp only [if_true, Bool.not_true, Bool.false_eq_true, if_false]
    rw [← xor_top64 r h']
    exact xor_xor r _
theorem word_sign {x : Nat} {s t : Bool} {r m : Nat} {e : Int} (h : r < 9223372036854775808) (hr : double.read (double.word s r) = .number t m e) : t = s := by
  have h4 : (double.word s r / double.signWeight % 2 == 1) = s := by
    unfold Format.word; rw [sw64]; cases s <;> simp <;> omega
  unfold Format.read at hr
  dsimp only at hr
  rw [h4] at hr
  split at hr
  · rw [Datum.number.injEq] at hr; exact hr.1.symm
  · split at hr
    · rw [Datum.number.injEq] at hr; exact hr.1.symm
    · split at hr <;> cases hr
theorem F64.neg {x : Nat} {s : Bool} {k : Int} (h : F64 x s k) (hx : x < 18446744073709551616) : F64 (Op.negFloat .f64 x) (!s) k := by
  obtain ⟨m, e, hr, hl⟩ := h
  obtain ⟨t, r, rfl, hlt⟩ := word64 x hx
  obtain rfl := word_sign (x := 0) hlt hr
  rw [neg_word64 s r hlt]
  exact ⟨m, e, read_sign s (!s) r hlt hr, hl⟩
end Go.Proofs.YticfmlohkfoccaaGreatDoor

/- The program's AngleTurns, walked: what it returns has the same bits whenever it is called with the same numbers, one word for all NaNs. -/
set_option linter.unusedVariables false
set_option linter.unusedSimpArgs false
namespace Go.Proofs.YticfmlohkfoccaaGreatDoor
open Go.RowKit Go.Proofs.YticfmlohkfoccaaGreatDoorW.PrintWords

theorem f64bits (b : Nat) (w : World) : (callFunc 133 #[.float .f64 b]).run Tryz.prog w = .ok (.value (.int .u64 b)) w := by
  rw [run_callFunc_extern Tryz.func133 (by kernel_rfl) (by kernel_rfl) (by kernel_rfl) (e := Extern.MathFloatBits.float64bits) (by kernel_rfl)]; rfl
theorem f64from (b : Nat) (w : World) : (callFunc 132 #[.int .u64 b]).run Tryz.prog w = .ok (.value (.float .f64 b)) w := by
  rw [run_callFunc_extern Tryz.func132 (by kernel_rfl) (by kernel_rfl) (by kernel_rfl) (e := Extern.MathFloatBits.float64frombits) (by kernel_rfl)]; rfl
def ab (x : Nat) : Nat := x &&& 9223372036854775807
set_option maxRecDepth 100000 in
theorem abs_calls (x : Nat) (hx : x < 18446744073709551616) : Pure 95 #[.float .f64 x] (.float .f64 (ab x)) := by
  intro w
  have hb : Go.bits .andNot .u64 (x : Int) 9223372036854775808 = ((ab x : Nat) : Int) := u64_andNot_nat x 9223372036854775808 hx (by decide)
  have h1 := f64bits x
  have h2 := f64from (ab x)
  clear hx
  generalize ab x = y at *
  go_enter Tryz.func95, Tryz.ntmps95
  go_wp2_with fail
  go_ret
  exact ⟨rfl, rfl⟩
theorem ab_word (s : Bool) (r : Nat) (h : r < 9223372036854775808) : ab (Ieee.double.word s r) = Ieee.double.word false r := by
  have hm : ∀ x : Nat, ab x = x % 9223372036854775808 := fun x => Nat.and_two_pow_sub_one_eq_mod x 63
  rw [hm]
  unfold Ieee.Format.word
  rw [sw64]
  cases s <;> simp <;> omega
theorem wide_lt (b : Nat) : wide b < 18446744073709551616 := Ieee.double.write_lt _
/-- The absolute value of a finite float made wide. -/
theorem ab_wide {b : Nat} (h : fin b = true) : ∃ m e, Ieee.double.read (ab (wide b)) = .number false m e ∧ Le m e 200 ∧ (FloatKind.f32.format.order b 0 == some Ordering.eq) = decide (m = 0) := by
  obtain ⟨s, m, e, hr, h1, h2, h3⟩ := read_bound b h
  have hw : wide b = Ieee.double.nearest s m e := by unfold wide; rw [hr]; rfl
  have hz : (FloatKind.f32.format.order b 0 == some Ordering.eq) = decide (m = 0) := by
    rw [show FloatKind.f32.format.order b 0 = Ieee.single.order b 0 from rfl]
    unfold Ieee.Format.order
    rw [hr, show Ieee.single.read 0 = .number false 0 (-149) from rfl]
    simp only [Ieee.Datum.order]
    by_cases h0 : m = 0
    · subst h0
      rw [decide_eq_true rfl]
      have e1 : Ieee.signed s 0 (e - min e (-149)).toNat = 0 := by cases s <;> simp [Ieee.signed]
      have e2 : Ieee.signed false 0 (-149 - min e (-149)).toNat = 0 := by simp [Ieee.signed]
      rw [e1, e2]; rfl
    · rw [decide_eq_false h0, beq_eq_false_iff_ne]
      intro hc
      simp only [Option.some.injEq, Int.compare_eq_eq] at hc
      have e2 : Ieee.signed false 0 (-149 - min e (-149)).toNat = 0 := by simp [Ieee.signed]
      rw [e2] at hc
      exact h0 (signed_zero hc)
  obtain ⟨t, r, hwr, hlt⟩ := word64 (wide b) (wide_lt b)
  by_cases h0 : m = 0
  · subst h0
    have hrz : Ieee.double.read (wide b) = .number s 0 (-1074) := by
      rw [hw]
      have hz : Ieee.double.nearest s 0 e = Ieee.double.word s 0 := by unfold Ieee.Format.nearest; rfl
      rw [hz]; cases s <;> rfl
    rw [hwr] at hrz
    refine ⟨0, -1074, ?_, Or.inl rfl, hz⟩
    rw [hwr, ab_word t r hlt]
    exact read_sign t false r hlt (by rw [hrz, word_sign (x := 0) hlt hrz])
  · have hrw : Ieee.double.read (wide b) = .number s (m * 2 ^ (52 - m.log2)) (e - (52 - m.log2 : Nat)) := by rw [hw]; exact read_wide s m e h0 h1 h2 h3
    rw [hwr] at hrw
    have hlog : m.log2 < 24 := (Nat.log2_lt h0).2 h1
    have hmlt : m < 2 ^ (m.log2 + 1) := Nat.lt_log2_self
    refine ⟨m * 2 ^ (52 - m.log2), e - (52 - m.log2 : Nat), ?_, Or.inr ⟨by omega, ?_⟩, ?_⟩
    · rw [hwr, ab_word t r hlt]
      exact read_sign t false r hlt (by rw [hrw, word_sign (x := 0) hlt hrw])
    · calc m * 2 ^ (52 - m.log2) ≤ 2 ^ (m.log2 + 1) * 2 ^ (52 - m.log2) := Nat.mul_le_mul_right _ (Nat.le_of_lt hmlt)
        _ = 2 ^ (m.log2 + 1 + (52 - m.log2)) := by rw [← Nat.pow_add]
        _ ≤ 2 ^ (200 - (e - (52 - m.log2 : Nat))).toNat := Nat.pow_le_pow_right (by decide) (by omega)
    · rw [hz]
      have hne : m * 2 ^ (52 - m.log2) ≠ 0 := Nat.mul_ne_zero h0 (Nat.ne_of_gt (Nat.two_pow_pos _))
      rw [decide_eq_false h0, decide_eq_false hne]
theorem order_nn {a b m n : Nat} {i j : Int} (ha : Ieee.double.read a = .number false m i) (hb : Ieee.double.read b = .number false n j) : FloatKind.f64.format.order a b = some (compare ((m * 2 ^ (i - min i j).toNat : Nat) : Int) ((n * 2 ^ (j - min i j).toNat : Nat) : Int)) := by
  show Ieee.double.order a b = _
  unfold Ieee.Format.order
  rw [ha, hb]
  simp only [Ieee.Datum.order, Ieee.signed, Bool.false_eq_true, if_false]
  rw [Nat.shiftLeft_eq, Nat.shiftLeft_eq]
/-- The less by the greater of two floats. -/
theorem ratio {a b m n : Nat} {i j : Int} (ha : Ieee.double.read a = .number false m i) (hb : Ieee.double.read b = .number false n j) (h0 : m ≠ 0 ∨ n ≠ 0) :
    ∃ lo hi t, (∀ ts ty W, (Builtin.min_ ts ty #[.float .f64 a, .float .f64 b]).run Tryz.prog W = .ok (.float .f64 lo) W) ∧ (∀ ts ty W, (Builtin.max_ ts ty #[.float .f64 a, .float .f64 b]).run Tryz.prog W = .ok (.float .f64 hi) W) ∧ floatBits .quo .f64 lo hi = some t ∧ F64 t false 0 := by
  have ho := order_nn ha hb
  have hda : (FloatKind.f64.decode a).neg = false := by rw [show FloatKind.f64.decode a = Ieee.double.read a from rfl, ha]; rfl
  have hp : ∀ x, 0 < 2 ^ x := fun x => Nat.two_pow_pos x
  rcases Nat.lt_trichotomy (m * 2 ^ (i - min i j).toNat) (n * 2 ^ (j - min i j).toNat) with h | h | h
  · have hc : compare ((m * 2 ^ (i - min i j).toNat : Nat) : Int) ((n * 2 ^ (j - min i j).toNat : Nat) : Int) = .lt := Int.compare_eq_lt.2 (by omega)
    rw [hc] at ho
    have hn : n ≠ 0 := by rintro rfl; simp at h
    obtain ⟨t, h1, h2⟩ := quo_F (k := 0) ha hb hn ⟨min i j, by omega, by omega, by rw [Int.add_zero]; exact Nat.le_of_lt h⟩ (by omega) (by omega)
    exact ⟨a, b, t, fun ts ty W => by simp [Builtin.min_, Builtin.min2, ho], fun ts ty W => by simp [Builtin.max_, Builtin.max2, ho], h1, h2⟩
  · have hc : compare ((m * 2 ^ (i - min i j).toNat : Nat) : Int) ((n * 2 ^ (j - min i j).toNat : Nat) : Int) = .eq := Int.compare_eq_eq.2 (by omega)
    rw [hc] at ho
    have hm : m ≠ 0 := by
      rintro rfl
      rw [Nat.zero_mul] at h
      rcases Nat.mul_eq_zero.1 h.symm with h' | h'
      · rcases h0 with h0 | h0
        · exact h0 rfl
        · exact h0 h'
      · exact absurd h' (Nat.ne_of_gt (hp _))
    obtain ⟨t, h1, h2⟩ := quo_F (k := 0) hb ha hm ⟨min i j, by omega, by omega, by rw [Int.add_zero]; exact Nat.le_of_eq h.symm⟩ (by omega) (by omega)
    exact ⟨b, a, t, fun ts ty W => by simp [Builtin.min_, Builtin.min2, ho, hda], fun ts ty W => by simp [Builtin.max_, Builtin.max2, ho, hda], h1, h2⟩
  · have hc : compare ((m * 2 ^ (i - min i j).toNat : Nat) : Int) ((n * 2 ^ (j - min i j).toNat : Nat) : Int) = .gt := Int.compare_eq_gt.2 (by omega)
    rw [hc] at ho
    have hm : m ≠ 0 := by rintro rfl; simp at h
    obtain ⟨t, h1, h2⟩ := quo_F (k := 0) hb ha hm ⟨min i j, by omega, by omega, by rw [Int.add_zero]; exact Nat.le_of_lt h⟩ (by omega) (by omega)
    exact ⟨b, a, t, fun ts ty W => by simp [Builtin.min_, Builtin.min2, ho], fun ts ty W => by simp [Builtin.max_, Builtin.max2, ho], h1, h2⟩
set_option maxRecDepth 100000 in
theorem nan_calls : Pure 97 #[] (.float .f64 9221120237041090561) := by
  intro w
  have h : ∀ w, (callFunc 132 #[.int .u64 9221120237041090561]).run Tryz.prog w = .ok (.value (.float .f64 9221120237041090561)) w := fun w => f64from 9221120237041090561 w
  go_enter Tryz.func97, Tryz.ntmps97
  go_wp2_with fail
  go_ret
  exact ⟨rfl, rfl⟩
end Go.Proofs.YticfmlohkfoccaaGreatDoor

/- The program's AngleTurns and AngleOf, walked: one answer to the same numbers, but for the bits of a NaN. -/
set_option linter.unusedVariables false
set_option linter.unusedSimpArgs false
namespace Go.Proofs.YticfmlohkfoccaaGreatDoor
open Go.RowKit Go.Proofs.YticfmlohkfoccaaGreatDoorW.PrintWords

/-- A float of which only the bits of a NaN are open. -/
def GivesB (B : Nat) (w : World) (e : Ending) (w' : World) : Prop := (∃ v, e = .returned (.float .f32 v) ∧ v < 4294967296 ∧ bits v = B) ∧ Below w.heap.size w w'
theorem finite2_calls (x y : Nat) (w : World) : Calls Tryz.prog 88 #[.slice (some ⟨w.heap.size, 0, none⟩) 2 2] (w.alloc (.cells #[.float .f32 x, .float .f32 y] 29)) fun e w' => e = .returned (.bool (fin x && fin y)) ∧ Below w.heap.size w w' := by
  refine (areFinite_calls w.heap.size [x, y] (by simp) _ (nums_alloc w [x, y])).mono ?_
  rintro e w1 ⟨rfl, n, rfl⟩
  exact ⟨by simp, pw_below_drewN ((Below.refl w.heap.size w).alloc (Nat.le_refl _) _) n⟩
def nar (z : Nat) : Nat := (floatToFloatBits .f64 z .f32).getD 0
theorem nar_eq {z : Nat} {s : Bool} {k : Int} (h : F64 z s k) (h1 : 0 ≤ k) (h2 : k ≤ 100) : floatToFloatBits .f64 z .f32 = some (nar z) ∧ nar z < 4294967296 := by
  obtain ⟨r, e, hl⟩ := h.narrow h1 h2
  have : nar z = r := by unfold nar; rw [e]; rfl
  rw [this]; exact ⟨e, hl⟩
set_option maxHeartbeats 4000000 in
set_option maxRecDepth 100000 in
theorem angle_calls (y x : Nat) (hy : y < 4294967296) (hx : x < 4294967296) : ∃ B, ∀ w, Calls Tryz.prog 45 #[.float .f32 y, .float .f32 x] w (GivesB B w) := by
  by_cases hfin : (fin x && fin y) = true
  · have hfx : fin x = true := by rw [Bool.and_eq_true] at hfin; exact hfin.1
    have hfy : fin y = true := by rw [Bool.and_eq_true] at hfin; exact hfin.2
    obtain ⟨n, j, rb, lb, zb⟩ := ab_wide hfx
    obtain ⟨m, i, ra, la, za⟩ := ab_wide hfy
    by_cases h0 : m = 0 ∧ n = 0
    · rw [decide_eq_true h0.1] at za
      rw [decide_eq_true h0.2] at zb
      refine ⟨bits 0, fun w => ?_⟩
      have hF := finite2_calls x y w
      rw [hfin] at hF
      have HF := Lib.hid hF
      clear hF hfin hfx hfy rb lb ra la h0
      go_enter Tryz.func45, Tryz.ntmps45
      go_wp2_with fail
      refine HF.out.mono ?_
      rintro e w1 ⟨rfl, hb⟩
      have HB := Lib.hid hb; clear hb HF
      go_wp2_with fail
      go_ret
      exact ⟨⟨0, rfl, by decide, rfl⟩, HB.out⟩
    · obtain ⟨lo, hi, t0, hmin, hmax, hquo, ft0⟩ := ratio ra rb (by omega)
      have hcx := run_wide (wide_read x hfx).2
      have hcy := run_wide (wide_read y hfy).2
      have hA1 := abs_calls (wide y) (wide_lt y)
      have hA2 := abs_calls (wide x) (wide_lt x)
      have hz : (n = 0 → (FloatKind.f32.format.order x 0 == some Ordering.eq) = true ∧ (FloatKind.f32.format.order y 0 == some Ordering.eq) = false) ∧ (n ≠ 0 → (FloatKind.f32.format.order x 0 == some Ordering.eq) = false) := by
        constructor
        · intro hn
          rw [za, zb, decide_eq_true hn, decide_eq_false (by omega)]
          exact ⟨rfl, rfl⟩
        · intro hn
          rw [zb, decide_eq_false hn]
      have fu := (seqT_F ft0 3).mul (seqT_F ft0 3) (by omega) (by omega)
      obtain ⟨u, hu, fu⟩ := fu
      have fu0 : F64 u false 0 := fu
      obtain ⟨sp, fp8⟩ := seqP_F fu0 8 (by omega)
      obtain ⟨e1, e2, A0, q0, he1, he2, he3, fA0⟩ := end_facts (seqT_F ft0 3) fp8
      obtain ⟨B1, q1, hB1, fB1⟩ := less_facts fA0 (by omega) (by omega) quarter
      obtain ⟨C0, q2, hC0, fC0⟩ := less_facts fA0 (by omega) (by omega) half
      obtain ⟨C1, q3, hC1, fC1⟩ := less_facts fB1 (by omega) (by omega) half
      have lt64 : ∀ {c z r : Nat}, floatBits .sub .f64 c z = some r → r < 18446744073709551616 := fun h => by
        have := floatBits_wf h
        have h2 : decide (_ < 2 ^ 64) = true := this
        exact of_decide_eq_true h2
      have ltA : A0 < 18446744073709551616 := by
        have := floatBits_wf he3
        have h2 : decide (A0 < 2 ^ 64) = true := this
        exact of_decide_eq_true h2
      have nA := nar_eq fA0 (by omega) (by omega)
      have nB := nar_eq fB1 (by omega) (by omega)
      have nC := nar_eq fC0 (by omega) (by omega)
      have nD := nar_eq fC1 (by omega) (by omega)
      have nA' := nar_eq (fA0.neg ltA) (by omega) (by omega)
      have nB' := nar_eq (fB1.neg (lt64 hB1)) (by omega) (by omega)
      have nC' := nar_eq (fC0.neg (lt64 hC0)) (by omega) (by omega)
      have nD' := nar_eq (fC1.neg (lt64 hC1)) (by omega) (by omega)
      obtain ⟨g1, hg1⟩ : ∃ g, (FloatKind.f64.format.order (ab (wide y)) (ab (wide x)) == some Ordering.gt) = g := ⟨_, rfl⟩
      obtain ⟨g2, hg2⟩ : ∃ g, (FloatKind.f32.format.order x 0 == some Ordering.lt) = g := ⟨_, rfl⟩
      obtain ⟨g3, hg3⟩ : ∃ g, (FloatKind.f32.format.order y 0 == some Ordering.lt) = g := ⟨_, rfl⟩
      refine ⟨bits (nar (bif g3 then Op.negFloat .f64 (bif g2 then (bif g1 then C1 else C0) else (bif g1 then B1 else A0)) else (bif g2 then (bif g1 then C1 else C0) else (bif g1 then B1 else A0)))), fun w => ?_⟩
      have hF := finite2_calls x y w
      rw [hfin] at hF
      have HF := Lib.hid hF
      have HA1 := Lib.hid hA1
      have HA2 := Lib.hid hA2
      have FT := Lib.hid ft0
      have FU := Lib.hid fu0
      have r1 := run64 hquo
      have r2 := run64 hu
      have r3 := run64 he1
      have r4 := run64 he2
      have r5 := run64 he3
      have r6 := run64 hB1
      have r7 := run64 hC0
      have r8 := run64 hC1
      have Hz := Lib.hid hz
      clear hF hA1 hA2 ft0 fu fu0 fp8 hquo hu he1 he2 he3 fA0 hB1 fB1 hC0 fC0 hC1 fC1 lt64 ltA hfin hfx hfy ra rb la lb za zb hz
      have NA := Lib.hid nA; have NB := Lib.hid nB; have NC := Lib.hid nC; have ND := Lib.hid nD
      have NA' := Lib.hid nA'; have NB' := Lib.hid nB'; have NC' := Lib.hid nC'; have ND' := Lib.hid nD'
      clear nA nB nC nD nA' nB' nC' nD'
      generalize wide x = X at *
      generalize wide y = Y at *
      generalize ab X = XA at *
      generalize ab Y = YA at *
      go_enter Tryz.func45, Tryz.ntmps45
      go_wp2_with fail
      refine HF.out.mono ?_
      rintro e w1 ⟨rfl, hb⟩
      have HB := Lib.hid hb; clear hb HF
      have hzz : ((FloatKind.f32.format.order x 0 == some Ordering.eq) = true ∧ (FloatKind.f32.format.order y 0 == some Ordering.eq) = false) ∨ (FloatKind.f32.format.order x 0 == some Ordering.eq) = false := by
        by_cases hn : n = 0
        · exact Or.inl (Hz.out.1 hn)
        · exact Or.inr (Hz.out.2 hn)
      clear Hz h0
      rcases hzz with ⟨z1, z2⟩ | z1
      all_goals (
        go_wp2_with fail
        refine (HA1.out _).mono ?_
        rintro e w2 ⟨rfl, rfl⟩
        go_wp2_with fail
        refine (HA2.out _).mono ?_
        rintro e w2 ⟨rfl, rfl⟩
        go_wp2_with fail
        go_loopw [7, 40] (fun t i wr => ∃ (k : Nat), t = .float .f64 (seqT t0 k) ∧ i = .int .i64 k ∧ k ≤ 3 ∧ wr = w2) (fun _ i _ => 3 - (intOf i).toNat)
        case atStart => exact ⟨0, rfl, rfl, by omega, rfl⟩
        case round =>
          obtain ⟨k, rfl, rfl, hk, rfl⟩ := hrel
          by_cases hlt : k < 3
          · obtain ⟨m1, a1, s1, d1, f1, f2, f3, f4, f5, _⟩ := stT_eq (seqT_F FT.out k)
            have q1 := run64 f1
            have q2 := run64 f2
            have HQ3 := Lib.hid (sqrt_calls f3)
            have q4 := run64 f4
            have q5 := run64 f5
            have hst : stT (seqT t0 k) = seqT t0 (k + 1) := rfl
            rw [hst] at q5
            have d1' : decide ((k : Int) < 3) = true := decide_eq_true (by omega)
            have d2' : decide (k < 3) = true := decide_eq_true hlt
            clear f1 f2 f3 f4 f5 hst
            go_wp2_with fail
            refine (HQ3.out _).mono ?_
            rintro e w3 ⟨rfl, rfl⟩
            go_wp2_with fail
            go_roundw
            case rel => exact ⟨k + 1, rfl, by go_num, by omega, by trivial⟩
            case measure => simp [intOf]; omega
          · obtain rfl : k = 3 := by omega
            go_wp2_with fail
            go_loopw [9, 10] (fun p i wr2 => ∃ (k : Nat), p = .float .f64 (seqP u k) ∧ i = .int .i64 ((15 : Int) - 2 * (k : Int)) ∧ k ≤ 8 ∧ wr2 = wr) (fun _ i _ => (intOf i + 1).toNat)
            case atStart => exact ⟨0, rfl, rfl, by omega, rfl⟩
            case round =>
              obtain ⟨k, rfl, rfl, hk, rfl⟩ := hrel
              by_cases hlt2 : k < 8
              · obtain ⟨sk, fk⟩ := seqP_F FU.out k (by omega)
                obtain ⟨m1, qq, f1, f2, _⟩ := stP_eq (i := k) FU.out fk (by omega) (by omega)
                have q1 := run64 f1
                have q2 := run64 f2
                have q3 := run64 (invK_eq k hlt2)
                have hst : stP u (seqP u k) k = seqP u (k + 1) := rfl
                rw [hst] at q2
                have d1 : decide ((1 : Int) ≤ (15 : Int) - 2 * (k : Int)) = true := decide_eq_true (by omega)
                clear f1 f2 fk hst
                go_wp2_with fail
                go_roundw
                case rel => exact ⟨k + 1, rfl, congrArg (Value.int IntKind.i64) (by omega), by omega, by trivial⟩
                case measure => simp [intOf]; omega
              · obtain rfl : k = 8 := by omega
                have n1 := run_narrow NA.out.1
                have n2 := run_narrow NB.out.1
                have n3 := run_narrow NC.out.1
                have n4 := run_narrow ND.out.1
                have n5 := run_narrow NA'.out.1
                have n6 := run_narrow NB'.out.1
                have n7 := run_narrow NC'.out.1
                have n8 := run_narrow ND'.out.1
                have hneg : ∀ z, Op.unary .neg (.float .f64 z) = pure (.float .f64 (Op.negFloat .f64 z)) := fun _ => rfl
                cases g1 <;> cases g2 <;> cases g3
                all_goals (
                  go_wp2_with fail
                  go_ret
                  refine ⟨⟨_, rfl, ?_, rfl⟩, HB.out⟩
                  first | exact NA.out.2 | exact NB.out.2 | exact NC.out.2 | exact ND.out.2 | exact NA'.out.2 | exact NB'.out.2 | exact NC'.out.2 | exact ND'.out.2))
  · have hfin' : (fin x && fin y) = false := by
      cases h : (fin x && fin y) with
      | true => exact absurd h hfin
      | false => rfl
    refine ⟨2143289344, fun w => ?_⟩
    have hF := finite2_calls x y w
    rw [hfin'] at hF
    have HF := Lib.hid hF
    have HN := Lib.hid nan_calls
    obtain ⟨s, f, hr⟩ : ∃ s f, Ieee.double.read 9221120237041090561 = .nan s f := ⟨_, _, rfl⟩
    have hc := run_conv_nan 57 29 .f64 .f32 9221120237041090561 (by rw [Tryz.underlying57]; rfl) Tryz.underlying29 (by decide) s f hr
    have hcut := fun W : World => nan32_cut (W.tape W.drawn (.nanConv .f32 9221120237041090561))
    have hcut2 : ∀ W : World, bits (Question.cut (.nanConv .f32 9221120237041090561) (W.tape W.drawn (.nanConv .f32 9221120237041090561))) = 2143289344 ∧ Question.cut (.nanConv .f32 9221120237041090561) (W.tape W.drawn (.nanConv .f32 9221120237041090561)) < 4294967296 := fun W => by
      obtain ⟨h1, h2⟩ := hcut W
      refine ⟨?_, h2⟩
      unfold bits
      rw [show nan32 (Question.cut (.nanConv .f32 9221120237041090561) (W.tape W.drawn (.nanConv .f32 9221120237041090561))) = true from h1]
      rfl
    have HC := Lib.hid hcut2
    clear hF hfin hfin' hr hcut hcut2
    generalize hQ : (fun W : World => Question.cut (.nanConv .f32 9221120237041090561) (W.tape W.drawn (.nanConv .f32 9221120237041090561))) = Q at *
    have hc' : ∀ W, (convert 57 29 (.float .f64 9221120237041090561)).run Tryz.prog W = .ok (.float .f32 (Q W)) W.drew := fun W => by rw [← hQ]; exact hc W
    have HC' : Hid (∀ W, bits (Q W) = 2143289344 ∧ Q W < 4294967296) := Lib.hid (fun W => by rw [← hQ]; exact HC.out W)
    clear hc HC hQ
    go_enter Tryz.func45, Tryz.ntmps45
    go_wp2_with fail
    refine HF.out.mono ?_
    rintro e w1 ⟨rfl, hb⟩
    have HB := Lib.hid hb; clear hb HF
    go_wp2_with fail
    refine (HN.out _).mono ?_
    rintro e w2 ⟨rfl, rfl⟩
    go_wp2_with fail
    go_ret
    exact ⟨⟨_, rfl, (HC'.out _).2, (HC'.out _).1⟩, HB.out.drew⟩
set_option maxRecDepth 100000 in
theorem angleOf_calls (y x : Nat) {B : Nat} (h : ∀ w, Calls Tryz.prog 45 #[.float .f32 y, .float .f32 x] w (GivesB B w)) (w : World) : Calls Tryz.prog 46 #[.complex .f32 x y] w (GivesB B w) := by
  have H := Lib.hid h
  clear h
  go_enter Tryz.func46, Tryz.ntmps46
  go_wp2_with fail
  refine (H.out _).mono ?_
  rintro e w1 ⟨⟨v, rfl, h1, h2⟩, hb⟩
  have HB := Lib.hid hb
  have H1 := Lib.hid h1
  have H2 := Lib.hid h2
  clear hb h1 h2 H
  go_wp2_with fail
  go_ret
  exact ⟨⟨v, rfl, H1.out, H2.out⟩, HB.out⟩
end Go.Proofs.YticfmlohkfoccaaGreatDoor

/- Subnormal numbers and their flushing, narrowing, sums, and the sine of a quarter turn, walked. -/
set_option linter.unusedVariables false
set_option linter.unusedSimpArgs false
namespace Go.Proofs.YticfmlohkfoccaaGreatDoor
open Go.RowKit Go.Proofs.YticfmlohkfoccaaGreatDoorW.PrintWords

/-! ### The sine of a quarter turn -/
set_option maxRecDepth 100000 in
theorem part_calls : Pure 136 #[.float .f64 4598175219545276416] (.float .f64 4598175219545276416) := by
  intro w
  have c1 : ∀ W, (convert 57 2 (.float .f64 4598175219545276416)).run Tryz.prog W = .ok (.int .i64 0) W := fun W => run_convert_float_int W 57 2 .f64 .i64 _ 0 (by rw [Tryz.underlying57]; rfl) Tryz.underlying2 (by decide +kernel)
  have q1 := run64 (op := .sub) (x := 4598175219545276416) (y := floatOfInt .f64 0) (r := 4598175219545276416) (by decide +kernel)
  have o1 : (FloatKind.f64.format.order 4598175219545276416 0 == some Ordering.lt) = false := by decide +kernel
  go_enter Tryz.func136, Tryz.ntmps136
  go_wp2_with fail
  go_ret
  exact ⟨rfl, rfl⟩
def pS : Nat → Nat
  | 0 => 4607182418800017408
  | 1 => 4607100711545048584
  | 2 => 4607077548472490218
  | 3 => 4607041613568030269
  | 4 => 4606983537433042945
  | 5 => 4606880562504908746
  | 6 => 4606671000400092530
  | 7 => 4606134293848575110
  | _ => 4603909380684499324
def kS : Nat → Int
  | 0 => 8
  | 1 => 7
  | 2 => 6
  | 3 => 5
  | 4 => 4
  | 5 => 3
  | 6 => 2
  | 7 => 1
  | _ => 0
set_option maxHeartbeats 1000000 in
set_option maxRecDepth 100000 in
theorem sine_calls : Pure 100 #[.float .f64 4598175219545276416] (.float .f64 4607182418800017604) := by
  intro w
  have HP := Lib.hid part_calls
  have o1 : (FloatKind.f64.format.order 4598175219545276416 4602678819172646912 == some Ordering.gt) = false := by decide +kernel
  have o2 : (FloatKind.f64.format.order 4598175219545276416 4602678819172646912 == some Ordering.eq) = false := by decide +kernel
  have o3 : (FloatKind.f64.format.order 4598175219545276416 4598175219545276416 == some Ordering.gt) = false := by decide +kernel
  have s1 := run64 (op := .mul) (x := 4598175219545276416) (y := 4618760256179416344) (r := 4609753056924675352) (by decide +kernel)
  have s2 := run64 (op := .mul) (x := 4609753056924675352) (y := 4609753056924675352) (r := 4612738512137897438) (by decide +kernel)
  have s3 := run64 (op := .mul) (x := 4609753056924675352) (y := 4603909380684499324) (r := 4607182418800017604) (by decide +kernel)
  go_enter Tryz.func100, Tryz.ntmps100
  go_wp2_with fail
  refine (HP.out _).mono ?_
  rintro e w1 ⟨rfl, rfl⟩
  go_wp2_with fail
  go_loopw [6, 8] (fun p k wr => ∃ (i : Nat), i ≤ 8 ∧ p = .float .f64 (pS i) ∧ k = .int .i64 (kS i) ∧ wr = w1) (fun _ k _ => (intOf k).toNat)
  case atStart => exact ⟨0, by omega, rfl, rfl, rfl⟩
  case round =>
    obtain ⟨i, hi, rfl, rfl, rfl⟩ := hrel
    obtain rfl | rfl | rfl | rfl | rfl | rfl | rfl | rfl | rfl : i = 0 ∨ i = 1 ∨ i = 2 ∨ i = 3 ∨ i = 4 ∨ i = 5 ∨ i = 6 ∨ i = 7 ∨ i = 8 := by omega
    · have q1 := run64 (op := .mul) (x := 4612738512137897438) (y := 4607182418800017408) (r := 4612738512137897438) (by decide +kernel)
      have q2 := run64 (op := .quo) (x := 4612738512137897438) (y := floatOfInt .f64 272) (r := 4576382886099058174) (by decide +kernel)
      have q3 := run64 (op := .sub) (x := 4607182418800017408) (y := 4576382886099058174) (r := 4607100711545048584) (by decide +kernel)
      dsimp only [pS, kS]
      go_wp2_with fail
      go_roundw
      case rel => exact ⟨1, by omega, rfl, rfl, by trivial⟩
      case measure => simp [intOf]
    · have q1 := run64 (op := .mul) (x := 4612738512137897438) (y := 4607100711545048584) (r := 4612688110995194861) (by decide +kernel)
      have q2 := run64 (op := .quo) (x := 4612688110995194861) (y := floatOfInt .f64 210) (r := 4577865322742793573) (by decide +kernel)
      have q3 := run64 (op := .sub) (x := 4607182418800017408) (y := 4577865322742793573) (r := 4607077548472490218) (by decide +kernel)
      dsimp only [pS, kS]
      go_wp2_with fail
      go_roundw
      case rel => exact ⟨2, by omega, rfl, rfl, by trivial⟩
      case measure => simp [intOf]
    · have q1 := run64 (op := .mul) (x := 4612738512137897438) (y := 4607077548472490218) (r := 4612673822847515811) (by decide +kernel)
      have q2 := run64 (op := .quo) (x := 4612673822847515811) (y := floatOfInt .f64 156) (r := 4580162988832012369) (by decide +kernel)
      have q3 := run64 (op := .sub) (x := 4607182418800017408) (y := 4580162988832012369) (r := 4607041613568030269) (by decide +kernel)
      dsimp only [pS, kS]
      go_wp2_with fail
      go_roundw
      case rel => exact ⟨3, by omega, rfl, rfl, by trivial⟩
      case measure => simp [intOf]
    · have q1 := run64 (op := .mul) (x := 4612738512137897438) (y := 4607041613568030269) (r := 4612651656391815146) (by decide +kernel)
      have q2 := run64 (op := .quo) (x := 4612651656391815146) (y := floatOfInt .f64 110) (r := 4582021425151606758) (by decide +kernel)
      have q3 := run64 (op := .sub) (x := 4607182418800017408) (y := 4582021425151606758) (r := 4606983537433042945) (by decide +kernel)
      dsimp only [pS, kS]
      go_wp2_with fail
      go_roundw
      case rel => exact ⟨4, by omega, rfl, rfl, by trivial⟩
      case measure => simp [intOf]
    · have q1 := run64 (op := .mul) (x := 4612738512137897438) (y := 4606983537433042945) (r := 4612615832111973324) (by decide +kernel)
      have q2 := run64 (op := .quo) (x := 4612615832111973324) (y := floatOfInt .f64 72) (r := 4584990521757533024) (by decide +kernel)
      have q3 := run64 (op := .sub) (x := 4607182418800017408) (y := 4584990521757533024) (r := 4606880562504908746) (by decide +kernel)
      dsimp only [pS, kS]
      go_wp2_with fail
      go_roundw
      case rel => exact ⟨5, by omega, rfl, rfl, by trivial⟩
      case measure => simp [intOf]
    · have q1 := run64 (op := .mul) (x := 4612738512137897438) (y := 4606880562504908746) (r := 4612552311999228627) (by decide +kernel)
      have q2 := run64 (op := .quo) (x := 4612552311999228627) (y := floatOfInt .f64 42) (r := 4588343515434592480) (by decide +kernel)
      have q3 := run64 (op := .sub) (x := 4607182418800017408) (y := 4588343515434592480) (r := 4606671000400092530) (by decide +kernel)
      dsimp only [pS, kS]
      go_wp2_with fail
      go_roundw
      case rel => exact ⟨6, by omega, rfl, rfl, by trivial⟩
      case measure => simp [intOf]
    · have q1 := run64 (op := .mul) (x := 4612738512137897438) (y := 4606671000400092530) (r := 4612423043557228897) (by decide +kernel)
      have q2 := run64 (op := .quo) (x := 4612423043557228897) (y := floatOfInt .f64 20) (r := 4593049420274703310) (by decide +kernel)
      have q3 := run64 (op := .sub) (x := 4607182418800017408) (y := 4593049420274703310) (r := 4606134293848575110) (by decide +kernel)
      dsimp only [pS, kS]
      go_wp2_with fail
      go_roundw
      case rel => exact ⟨7, by omega, rfl, rfl, by trivial⟩
      case measure => simp [intOf]
    · have q1 := run64 (op := .mul) (x := 4612738512137897438) (y := 4606134293848575110) (r := 4612091975973294533) (by decide +kernel)
      have q2 := run64 (op := .quo) (x := 4612091975973294533) (y := floatOfInt .f64 6) (r := 4600217696148942087) (by decide +kernel)
      have q3 := run64 (op := .sub) (x := 4607182418800017408) (y := 4600217696148942087) (r := 4603909380684499324) (by decide +kernel)
      dsimp only [pS, kS]
      go_wp2_with fail
      go_roundw
      case rel => exact ⟨8, by omega, rfl, rfl, by trivial⟩
      case measure => simp [intOf]
    · dsimp only [pS, kS]
      go_wp2_with fail
      go_ret
      exact ⟨rfl, rfl⟩
set_option maxRecDepth 100000 in
theorem sineTurns_calls (w : World) : Calls Tryz.prog 48 #[.float .f32 1048576000] w fun e w' => e = .returned (.float .f32 1065353216) ∧ Below w.heap.size w w' := by
  have HF := Lib.hid (isFinite_calls 1048576000 w)
  rw [show fin 1048576000 = true from by decide +kernel] at HF
  have c1 := run_wide (b := 1048576000) (r := 4598175219545276416) (by decide +kernel)
  have c2 := run_narrow (b := 4607182418800017604) (r := 1065353216) (by decide +kernel)
  have o1 : (FloatKind.f64.format.order 4598175219545276416 4841369599423283200 == some Ordering.gt) = false := by decide +kernel
  have o2 : (FloatKind.f64.format.order 4598175219545276416 4841369599423283200 == some Ordering.eq) = false := by decide +kernel
  have HW : Hid (Pure 99 #[.float .f64 4598175219545276416] (.bool false)) := Lib.hid (by
    intro w
    have ha := abs_calls 4598175219545276416 (by decide)
    rw [show ab 4598175219545276416 = 4598175219545276416 from by decide +kernel] at ha
    have HA := Lib.hid ha
    clear ha
    go_enter Tryz.func99, Tryz.ntmps99
    go_wp2_with fail
    refine (HA.out _).mono ?_
    rintro e w1 ⟨rfl, rfl⟩
    go_wp2_with fail
    go_ret
    exact ⟨rfl, rfl⟩)
  have HS := Lib.hid sine_calls
  clear o1 o2
  go_enter Tryz.func48, Tryz.ntmps48
  go_wp2_with fail
  refine HF.out.mono ?_
  rintro e w1 ⟨rfl, n, rfl⟩
  have HB := Lib.hid (pw_below_drewN (Below.refl w.heap.size w) n)
  generalize w.drewN n = w1 at *
  clear HF
  go_wp2_with fail
  refine (HW.out _).mono ?_
  rintro e w2 ⟨rfl, rfl⟩
  go_wp2_with fail
  refine (HS.out _).mono ?_
  rintro e w2 ⟨rfl, rfl⟩
  go_wp2_with fail
  go_ret
  exact ⟨rfl, HB.out⟩
end Go.Proofs.YticfmlohkfoccaaGreatDoor

/- Subnormal numbers and their flushing, narrowing, and sums, walked. -/
set_option linter.unusedVariables false
set_option linter.unusedSimpArgs false
namespace Go.Proofs.YticfmlohkfoccaaGreatDoor
open Go.RowKit Go.Proofs.YticfmlohkfoccaaGreatDoorW.PrintWords

/-! ### The least normal number -/
set_option maxRecDepth 100000 in
theorem ldexp_calls : Pure 96 #[.float .f64 4607182418800017408, .int .i64 (-126)] (.float .f64 4039728865751334912) := by
  have ha := abs_calls 4607182418800017408 (by decide)
  rw [show ab 4607182418800017408 = 4607182418800017408 from by decide +kernel] at ha
  have HA := Lib.hid ha
  clear ha
  have hneg : (FloatKind.f64.format.order 4607182418800017408 0 == some Ordering.eq) = false := by decide +kernel
  have H1 : Hid (Pure 167 #[.float .f64 4607182418800017408, .int .i64 0] (.bool false)) := Lib.hid (by
    intro w
    have o1 : (FloatKind.f64.format.order 4607182418800017408 9218868437227405311 == some Ordering.gt) = false := by decide +kernel
    go_enter Tryz.func167, Tryz.ntmps167
    go_wp2_with fail
    refine (HA.out _).mono ?_
    rintro e w1 ⟨rfl, rfl⟩
    go_wp2_with fail
    go_ret
    exact ⟨rfl, rfl⟩)
  have H2 : Hid (Pure 168 #[.float .f64 4607182418800017408] (.bool false)) := Lib.hid (by
    intro w
    have o1 : (FloatKind.f64.format.order 4607182418800017408 4607182418800017408 != some Ordering.eq) = false := by decide +kernel
    go_enter Tryz.func168, Tryz.ntmps168
    go_wp2_with fail
    go_ret
    exact ⟨rfl, rfl⟩)
  have H3 : Hid (Pure 169 #[.float .f64 4607182418800017408] (.tuple #[.float .f64 4607182418800017408, .int .i64 0])) := Lib.hid (by
    intro w
    have o1 : (FloatKind.f64.format.order 4607182418800017408 4503599627370496 == some Ordering.lt) = false := by decide +kernel
    go_enter Tryz.func169, Tryz.ntmps169
    go_wp2_with fail
    refine (HA.out _).mono ?_
    rintro e w1 ⟨rfl, rfl⟩
    go_wp2_with fail
    go_ret2
    exact ⟨rfl, rfl⟩)
  have H4 : Hid (Pure 135 #[.float .f64 4607182418800017408, .int .i64 (-126)] (.float .f64 4039728865751334912)) := Lib.hid (by
    intro w
    have b1 : ∀ w, (callFunc 133 #[.float .f64 4607182418800017408]).run Tryz.prog w = .ok (.value (.int .u64 4607182418800017408)) w := fun w => f64bits 4607182418800017408 w
    have b2 : ∀ w, (callFunc 132 #[.int .u64 4039728865751334912]).run Tryz.prog w = .ok (.value (.float .f64 4039728865751334912)) w := fun w => f64from 4039728865751334912 w
    have q1 := run64 (op := .mul) (x := 4607182418800017408) (y := 4039728865751334912) (r := 4039728865751334912) (by decide +kernel)
    have k1 : Go.bits BinOp.and IntKind.i64 1023 2047 = 1023 := by decide +kernel
    have k2 : Go.bits BinOp.andNot IntKind.u64 4607182418800017408 9218868437227405312 = 0 := by decide +kernel
    have k3 : Go.bits BinOp.or IntKind.u64 0 4039728865751334912 = 4039728865751334912 := by decide +kernel
    go_enter Tryz.func135, Tryz.ntmps135
    go_wp2_with fail
    refine (H1.out _).mono ?_
    rintro e w1 ⟨rfl, rfl⟩
    go_wp2_with fail
    refine (H2.out _).mono ?_
    rintro e w1 ⟨rfl, rfl⟩
    go_wp2_with fail
    refine (H3.out _).mono ?_
    rintro e w1 ⟨rfl, rfl⟩
    go_wp2_with fail
    go_ret
    exact ⟨rfl, rfl⟩)
  intro w
  clear hneg
  go_enter Tryz.func96, Tryz.ntmps96
  go_wp2_with fail
  refine (H4.out _).mono ?_
  rintro e w1 ⟨rfl, rfl⟩
  go_wp2_with fail
  go_ret
  exact ⟨rfl, rfl⟩
theorem cut64_lt (t : Nat) : (t % 2) * 2 ^ 63 + 0x7ff0000000000000 + 1 + (t / 2) % (2 ^ 52 - 1) < 18446744073709551616 := by
  have h1 : t % 2 < 2 := Nat.mod_lt _ (by decide)
  have h2 : (t / 2) % (2 ^ 52 - 1) < 2 ^ 52 - 1 := Nat.mod_lt _ (by decide)
  generalize t % 2 = a at *
  generalize (t / 2) % (2 ^ 52 - 1) = c at *
  omega
theorem nan_ab {u : Nat} (hu : u < 18446744073709551616) {s : Bool} {f : Nat} (h : Ieee.double.read u = .nan s f) : ∃ s f, Ieee.double.read (ab u) = .nan s f := by
  obtain ⟨t, r, rfl, hlt⟩ := word64 u hu
  rw [ab_word t r hlt]
  have h3 : ∀ s, Ieee.double.word s r % Ieee.double.signWeight = r := fun s => by
    unfold Ieee.Format.word; rw [sw64]; cases s <;> simp <;> omega
  unfold Ieee.Format.read at h ⊢
  dsimp only at h ⊢
  rw [h3] at h
  rw [h3]
  by_cases c1 : r < Ieee.double.binade
  · rw [if_pos c1] at h; cases h
  · rw [if_neg c1] at h ⊢
    by_cases c2 : r < Ieee.double.infRung
    · rw [if_pos c2] at h; cases h
    · rw [if_neg c2] at h ⊢
      by_cases c3 : r = Ieee.double.infRung
      · rw [if_pos c3] at h; cases h
      · rw [if_neg c3]; exact ⟨_, _, rfl⟩
theorem order_nan {a c : Nat} {s : Bool} {f : Nat} (h : Ieee.double.read a = .nan s f) : (FloatKind.f64.format.order a c == some Ordering.lt) = false := by
  rw [show FloatKind.f64.format.order a c = Ieee.double.order a c from rfl]
  unfold Ieee.Format.order
  rw [h]; rfl
/-- What IsSubnormal says of a number. -/
structure Sub (x : Nat) (sb : Bool) : Prop where
  num : sb = true → nan32 x = false ∧ (FloatKind.f32.format.order x 0 == some Ordering.eq) = false
  calls : ∀ w, Calls Tryz.prog 44 #[.float .f32 x] w fun e w' => e = .returned (.bool sb) ∧ Below w.heap.size w w'
set_option maxHeartbeats 1000000 in
set_option maxRecDepth 100000 in
theorem sub_zero (x : Nat) (h0 : (FloatKind.f32.format.order x 0 == some Ordering.eq) = true) : Sub x false := by
  refine ⟨fun h => (by cases h), fun w => ?_⟩
  have o : (FloatKind.f32.format.order x 0 != some Ordering.eq) = false := by rw [bne, h0]; rfl
  clear h0
  go_enter Tryz.func44, Tryz.ntmps44
  go_wp2_with fail
  go_ret
  exact ⟨rfl, Below.refl _ _⟩
set_option maxHeartbeats 1000000 in
set_option maxRecDepth 100000 in
theorem sub_any (x : Nat) (hx : x < 4294967296) : ∃ sb, Sub x sb := by
  cases h0 : (FloatKind.f32.format.order x 0 == some Ordering.eq) with
  | true => exact ⟨false, sub_zero x h0⟩
  | false =>
    have o : (FloatKind.f32.format.order x 0 != some Ordering.eq) = true := by rw [bne, h0]; rfl
    have HL := Lib.hid ldexp_calls
    cases hn : nan32 x with
    | true =>
      refine ⟨false, fun h => (by cases h), fun w => ?_⟩
      have hx' : 2139095040 < x % 2147483648 := by unfold nan32 at hn; exact of_decide_eq_true hn
      obtain ⟨s, f, hr⟩ := read_nan x hx'
      have hc := run_conv_nan 29 57 .f32 .f64 x (by rw [Tryz.underlying29]; rfl) Tryz.underlying57 (by decide) s f hr
      have hcut : ∀ W : World, Question.cut (.nanConv .f64 x) (W.tape W.drawn (.nanConv .f64 x)) < 18446744073709551616 ∧ ∃ s f, Ieee.double.read (Question.cut (.nanConv .f64 x) (W.tape W.drawn (.nanConv .f64 x))) = .nan s f := fun W => ⟨cut64_lt _, nan64_read _⟩
      generalize hQ : (fun W : World => Question.cut (.nanConv .f64 x) (W.tape W.drawn (.nanConv .f64 x))) = Q at *
      have hc' : ∀ W, (convert 29 57 (.float .f32 x)).run Tryz.prog W = .ok (.float .f64 (Q W)) W.drew := fun W => by rw [← hQ]; exact hc W
      have hq' : ∀ W, Q W < 18446744073709551616 ∧ ∃ s f, Ieee.double.read (Q W) = .nan s f := fun W => by rw [← hQ]; exact hcut W
      have HA := Lib.hid (abs_calls (Q w) (hq' w).1)
      obtain ⟨s', f', hnn⟩ := (hq' w).2
      obtain ⟨s'', f'', hnb⟩ := nan_ab (hq' w).1 hnn
      have on := order_nan (c := 4039728865751334912) hnb
      clear hc hcut hQ hn hx' hr hnn hnb hq'
      go_enter Tryz.func44, Tryz.ntmps44
      go_wp2_with fail
      refine (HA.out _).mono ?_
      rintro e w1 ⟨rfl, rfl⟩
      go_wp2_with fail
      refine (HL.out _).mono ?_
      rintro e w1 ⟨rfl, rfl⟩
      go_wp2_with fail
      go_ret
      exact ⟨rfl, (Below.refl w.heap.size w).drew⟩
    | false =>
      obtain ⟨u, hu1, hu2⟩ := narrow_wide x hx hn
      have hul : u < 18446744073709551616 := by
        have := floatToFloatBits_wf (src := .f32) (dst := .f64) (by show decide (x < 2 ^ 32) = true; exact decide_eq_true hx) hu1
        have h2 : decide (u < 2 ^ 64) = true := this
        exact of_decide_eq_true h2
      obtain ⟨sb, hsb⟩ : ∃ sb, (FloatKind.f64.format.order (ab u) 4039728865751334912 == some Ordering.lt) = sb := ⟨_, rfl⟩
      refine ⟨sb, fun _ => ⟨hn, h0⟩, fun w => ?_⟩
      have c1 := run_wide hu1
      have HA := Lib.hid (abs_calls u hul)
      clear hu1 hu2 hul hn
      generalize ab u = ua at *
      go_enter Tryz.func44, Tryz.ntmps44
      go_wp2_with fail
      refine (HA.out _).mono ?_
      rintro e w1 ⟨rfl, rfl⟩
      go_wp2_with fail
      refine (HL.out _).mono ?_
      rintro e w1 ⟨rfl, rfl⟩
      go_wp2_with fail
      go_ret
      exact ⟨rfl, Below.refl _ _⟩
/-! ### Flushing -/
set_option maxRecDepth 100000 in
theorem copysign_calls (u : Nat) (hu : u < 18446744073709551616) : ∃ v, (v = 0 ∨ v = 9223372036854775808) ∧ Pure 90 #[.float .f64 0, .float .f64 u] (.float .f64 v) := by
  have hv : u &&& 9223372036854775808 = 0 ∨ u &&& 9223372036854775808 = 9223372036854775808 := by
    rw [show (9223372036854775808 : Nat) = 2 ^ 63 from by decide]
    cases ht : u.testBit 63 with
    | false =>
      left; apply Nat.eq_of_testBit_eq; intro i
      rw [Nat.testBit_and, Nat.testBit_two_pow, Nat.zero_testBit]
      by_cases hi : 63 = i
      · subst hi; rw [ht]; rfl
      · simp [hi]
    | true =>
      right; apply Nat.eq_of_testBit_eq; intro i
      rw [Nat.testBit_and, Nat.testBit_two_pow]
      by_cases hi : 63 = i
      · subst hi; rw [ht]; simp
      · simp [hi]
  refine ⟨u &&& 9223372036854775808, hv, fun w => ?_⟩
  have b0 : ∀ w, (callFunc 133 #[.float .f64 0]).run Tryz.prog w = .ok (.value (.int .u64 0)) w := fun w => f64bits 0 w
  have b1 := f64bits u
  have k1 : Go.bits BinOp.andNot IntKind.u64 0 9223372036854775808 = 0 := by decide +kernel
  have k2 : Go.bits BinOp.and IntKind.u64 (u : Int) 9223372036854775808 = ((u &&& 9223372036854775808 : Nat) : Int) := u64_and_nat u 9223372036854775808 hu (by decide)
  generalize u &&& 9223372036854775808 = v at *
  have hvl : v < 18446744073709551616 := by omega
  have k3 : Go.bits BinOp.or IntKind.u64 0 (v : Int) = (v : Int) := by
    rcases hv with rfl | rfl <;> decide +kernel
  have b2 := f64from v
  clear hv hvl hu
  go_enter Tryz.func90, Tryz.ntmps90
  go_wp2_with fail
  go_ret
  exact ⟨rfl, rfl⟩
/-- What FlushNumber gives. -/
theorem flush_any (x : Nat) (hx : x < 4294967296) {sb : Bool} (h : Sub x sb) : ∃ z, z < 4294967296 ∧ (sb = false → z = x) ∧ (sb = true → (FloatKind.f32.format.order z 0 == some Ordering.eq) = true) ∧ ∀ w, Calls Tryz.prog 39 #[.float .f32 x] w fun e w' => e = .returned (.float .f32 z) ∧ Below w.heap.size w w' := by
  cases sb with
  | false =>
    refine ⟨x, hx, fun _ => rfl, fun h => (by cases h), fun w => ?_⟩
    have HC := Lib.hid (h.calls)
    clear h
    go_enter Tryz.func39, Tryz.ntmps39
    go_wp2_with fail
    refine (HC.out _).mono ?_
    rintro e w1 ⟨rfl, hb⟩
    have HB := Lib.hid hb; clear hb HC
    go_wp2_with fail
    go_ret
    exact ⟨rfl, HB.out⟩
  | true =>
    obtain ⟨hn, h0⟩ := h.num rfl
    obtain ⟨u, hu1, hu2⟩ := narrow_wide x hx hn
    have hul : u < 18446744073709551616 := by
      have := floatToFloatBits_wf (src := .f32) (dst := .f64) (by show decide (x < 2 ^ 32) = true; exact decide_eq_true hx) hu1
      have h2 : decide (u < 2 ^ 64) = true := this
      exact of_decide_eq_true h2
    obtain ⟨v, hv, hcs⟩ := copysign_calls u hul
    have hz : ∃ z, z < 4294967296 ∧ floatToFloatBits .f64 v .f32 = some z ∧ (FloatKind.f32.format.order z 0 == some Ordering.eq) = true := by
      rcases hv with rfl | rfl
      · exact ⟨0, by decide, by decide +kernel, by decide +kernel⟩
      · exact ⟨2147483648, by decide, by decide +kernel, by decide +kernel⟩
    obtain ⟨z, hzl, hz1, hz2⟩ := hz
    refine ⟨z, hzl, fun h => (by cases h), fun _ => hz2, fun w => ?_⟩
    have c1 := run_wide hu1
    have c2 := run_narrow hz1
    have HC := Lib.hid (h.calls)
    have HS := Lib.hid hcs
    clear h hn h0 hu1 hu2 hul hv hcs hz1 hz2
    go_enter Tryz.func39, Tryz.ntmps39
    go_wp2_with fail
    refine (HC.out _).mono ?_
    rintro e w1 ⟨rfl, hb⟩
    have HB := Lib.hid hb; clear hb HC
    go_wp2_with fail
    refine (HS.out _).mono ?_
    rintro e w2 ⟨rfl, rfl⟩
    go_wp2_with fail
    go_ret
    exact ⟨rfl, HB.out⟩
/-! ### Narrowing -/
set_option maxRecDepth 100000 in
theorem narrow47_calls (u b : Nat) (hb : b < 4294967296) (h : Back u b) (w : World) : Calls Tryz.prog 47 #[.float .f64 u] w fun e w' => (∃ v, e = .returned (.float .f32 v) ∧ v < 4294967296 ∧ bits v = bits b) ∧ Below w.heap.size w w' := by
  obtain ⟨V, D, r1, k1⟩ := narrow_any u b hb h
  have K := Lib.hid k1
  clear h k1 hb
  go_enter Tryz.func47, Tryz.ntmps47
  go_wp2_with fail
  go_ret
  exact ⟨⟨_, rfl, (K.out _).1, (K.out _).2⟩, pw_below_drewN (Below.refl _ _) D⟩
end Go.Proofs.YticfmlohkfoccaaGreatDoor

/- Rows of numbers: added from left to right, written and read back, walked. -/
set_option linter.unusedVariables false
set_option linter.unusedSimpArgs false
namespace Go.Proofs.YticfmlohkfoccaaGreatDoor
open Go.RowKit Go.Proofs.YticfmlohkfoccaaGreatDoorW.PrintWords

theorem kF_at {W : World} {g n : Nat} {xs : List Nat} (h : Kd.C kF W (some ⟨g, 0, none⟩) n xs) (j : Nat) (hj : j < n) (x : Nat) (hx : xs[j]? = some x) : W.cell? ⟨g, j, none⟩ = some (.float .f32 x) := by
  obtain ⟨ad, cs, e, hcl, hK, hc⟩ := Kd.C_get h 0 (j : Int) (by omega) (by omega)
  injection e with e
  subst e
  have hk : cs = [.float .f32 x] := by
    have : xs.getD (j : Int).toNat 0 = x := by rw [Int.toNat_natCast, List.getD_eq_getElem?_getD, hx]; rfl
    rw [this] at hK
    exact hK
  have := hc 0 (.float .f32 x) (by rw [hk]; rfl)
  rw [Lib.add_plain, show kF.sz = 1 from rfl, Int.toNat_natCast] at this
  simpa using this
/-- A row of numbers that can be read. -/
structure FRow (W : World) (A : Option Addr) (l : List Nat) : Prop where
  row : Kd.C kF W A l.length l
  at0 : l ≠ [] → ∃ g, A = some ⟨g, 0, none⟩
theorem FRow.more {W W2 : World} {A : Option Addr} {l : List Nat} (h : FRow W A l) (k : Below W.heap.size W W2) : FRow W2 A l := ⟨Kd.C_below h.row k, h.at0⟩
theorem FRow.get {W : World} {A : Option Addr} {l : List Nat} (h : FRow W A l) (j : Nat) (hj : j < l.length) : ∃ g, A = some ⟨g, 0, none⟩ ∧ W.cell? ⟨g, j, none⟩ = some (.float .f32 l[j]) := by
  obtain ⟨g, rfl⟩ := h.at0 (by intro e; subst e; simp at hj)
  exact ⟨g, rfl, kF_at h.row j hj _ (List.getElem?_eq_getElem hj)⟩
theorem rowF {e base : Nat} {W : World} {ok : Nat → Prop} {v : Value} {l : List Nat} (h : Kd.R kF e W base ok v l) : ∃ A c, v = .slice A l.length c ∧ l.length ≤ c ∧ FRow W A l := by
  obtain ⟨A, c, rfl, hc, hC⟩ := Kd.R_reads h
  refine ⟨A, c, rfl, hc, hC, fun hne => ?_⟩
  obtain ⟨g, cap, e1, _⟩ := Kd.R_form h (List.length_pos_iff.2 hne)
  injection e1 with e1
  exact ⟨g, e1⟩
/-! ### Sums up to a NaN's bits -/
def step (b x : Nat) : Nat := ((floatBits .add .f32 b x).map bits).getD 2143289344
theorem add_nan (v x : Nat) (h : nan32 v = true) : floatBits .add .f32 v x = none := by
  have h' : 2139095040 < v % 2147483648 := by unfold nan32 at h; exact of_decide_eq_true h
  obtain ⟨s, f, hr⟩ := read_nan v h'
  show Ieee.single.add v x = none
  unfold Ieee.Format.add
  rw [hr]; rfl
theorem step_fop (v b x : Nat) (W : World) (hv : bits v = b) : bits (fop .add .f32 v x W) = step b x := by
  have hcut : bits (Question.cut (.nanBits .f32 v x) (W.tape W.drawn (.nanBits .f32 v x))) = 2143289344 := by
    obtain ⟨h1, h2⟩ := nan32_cut (W.tape W.drawn (.nanBits .f32 v x))
    unfold bits
    show (if nan32 ((W.tape W.drawn (.nanBits .f32 v x) % 2) * 2 ^ 31 + 0x7f800000 + 1 + (W.tape W.drawn (.nanBits .f32 v x) / 2) % (2 ^ 23 - 1)) = true then 2143289344 else _) = _
    rw [h1]; rfl
  unfold fop step
  by_cases hn : nan32 v = true
  · have hb : b = 2143289344 := by rw [← hv]; unfold bits; rw [if_pos hn]
    rw [add_nan v x hn, add_nan b x (by rw [hb]; decide)]
    exact hcut
  · have hb : b = v := by rw [← hv]; unfold bits; rw [if_neg hn]
    rw [hb]
    cases floatBits .add .f32 v x with
    | none => exact hcut
    | some r => rfl
theorem take_step (l : List Nat) (k : Nat) (hk : k < l.length) : step ((l.take k).foldl step 0) l[k] = (l.take (k + 1)).foldl step 0 := by
  rw [List.take_succ_eq_append_getElem hk, List.foldl_append]; rfl
set_option maxHeartbeats 1000000 in
set_option maxRecDepth 100000 in
theorem sum_calls (A : Option Addr) (c : Nat) (l : List Nat) (hl : l.length ≤ 100) (w : World) (ha : FRow w A l) :
    Calls Tryz.prog 41 #[.slice A l.length c] w fun e w' => (∃ v, e = .returned (.tuple #[.float .f32 v, .bool true]) ∧ v < 4294967296 ∧ bits v = l.foldl step 0) ∧ ∃ n, w' = w.drewN n := by
  have HA : Hid (∀ n, FRow (w.drewN n) A l) := Lib.hid (fun n => ha.more (pw_below_drewN (Below.refl _ _) n))
  have HL : Hid (l.length ≤ 256) := Lib.hid (by omega)
  have HT := Lib.hid (take_step l)
  have HE : Hid (l.take l.length = l) := Lib.hid (List.take_length)
  have hadd := fun (x y : Nat) W => run_fop Tryz.prog .add (Or.inl rfl) 29 .f32 x y W
  clear ha
  go_enter Tryz.func41, Tryz.ntmps41
  go_wp2_with fail
  refine (fewF_calls A l.length c HL.out w).mono ?_
  rintro e w1 ⟨rfl, rfl⟩
  go_wp2_with fail
  go_loopw [4, 12] (fun s i wr => ∃ (k v : Nat), i = .int .i64 k ∧ s = .float .f32 v ∧ k ≤ l.length ∧ v < 4294967296 ∧ Aside0 (bits v = (l.take k).foldl step 0) ∧ Aside0 (∃ n, wr = w.drewN n)) (fun _ i _ => l.length - (intOf i).toNat)
  case atStart => exact ⟨0, 0, rfl, rfl, by omega, by omega, ⟨rfl⟩, ⟨0, rfl⟩⟩
  case round =>
    obtain ⟨k, v, rfl, rfl, hk, hv, HS, HW⟩ := hrel
    obtain ⟨n, hwn⟩ := HW.out
    by_cases hlt : k < l.length
    · have d1 : decide ((k : Int) < (l.length : Int)) = true := decide_eq_true (by omega)
      have d1' : decide (k < l.length) = true := decide_eq_true hlt
      obtain ⟨g, rfl, hat⟩ := (HA.out n).get k hlt
      rw [← hwn] at hat
      have HS2 := Lib.hid (HT.out k hlt)
      have HWn := Lib.hid hwn
      clear hwn HW
      generalize l[k] = x at *
      go_wp2_with fail
      have HV : Aside0 (bits (fop .add .f32 v x wr) = (l.take (k + 1)).foldl step 0) := ⟨by rw [step_fop v _ x wr HS.out]; exact HS2.out⟩
      have hv2 := fop_lt .add v x wr
      have HW1 : Aside0 (∃ n, fow .add .f32 v x wr = w.drewN n) := ⟨by
        obtain ⟨j, hj⟩ := fow_drawn .add .f32 v x wr
        exact ⟨n + j, by rw [hj, HWn.out, World.drewN_drewN]⟩⟩
      generalize fop .add .f32 v x wr = v2 at *
      generalize fow .add .f32 v x wr = w2 at *
      go_roundw
      case rel => exact ⟨k + 1, v2, by go_num, rfl, by omega, hv2, HV, HW1⟩
      case measure => simp [intOf]; omega
    · have d1 : decide ((k : Int) < (l.length : Int)) = false := decide_eq_false (by omega)
      have d1' : decide (k < l.length) = false := decide_eq_false hlt
      have hkl : k = l.length := by omega
      have HS' : Hid (bits v = l.foldl step 0) := Lib.hid (by rw [HS.out, hkl, HE.out])
      clear HS
      go_wp2_with fail
      go_ret2
      first | exact ⟨⟨v, rfl, hv, HS'.out⟩, HW.out⟩ | exact ⟨⟨v, rfl, hv, HS'.out⟩, n, rfl⟩
/-- The text of any row of numbers, and what is read of it. -/
theorem textNums_any {W : World} {A : Option Addr} {c : Nat} {l : List Nat} (hr : FRow W A l) (hg : ∀ x ∈ l, goodF x) (hl : l.length ≤ 100) (hv : Vars W) :
    ∃ T : ByteArray, T.size ≤ 1048576 ∧ Plain.readList num8 T.data.toList = some (l.map bits) ∧ Calls Tryz.prog 42 #[.slice A l.length c] W fun e w' => e = .returned (.tuple #[.string T, .bool true]) ∧ Below W.heap.size W w' := by
  by_cases hn : l = []
  · subst hn
    exact ⟨mk Plain.none4, by rw [mk_size]; decide, by rw [mk_data]; rfl, NumbersText_empty A c W⟩
  · obtain ⟨g, rfl⟩ := hr.at0 hn
    refine ⟨mk (Lib.join (l.map textF) [44]), ?_, ?_, NumbersText2_calls g c l hn (by omega) hg W hv (fun j hj => kF_at hr.row j hj _ (List.getElem?_eq_getElem hj))⟩
    · rw [mk_size]
      have := join_bound 44 (l.map textF) 8 (by
        intro p hp
        obtain ⟨x, _, rfl⟩ := List.mem_map.1 hp
        rw [textF_length]; omega)
      simp at this
      omega
    · rw [mk_data]
      exact readList_map num8 textF bits l hn (by omega) (fun x hx => num8_back x (hg x hx)) (fun x _ => textF_no x) (fun x _ => by rw [textF_length]; omega)
end Go.Proofs.YticfmlohkfoccaaGreatDoor

/- The law FnNumbers, walked: it returns true for all bytes, and nothing below its own memory turns. -/
set_option linter.unusedVariables false
set_option linter.unusedSimpArgs false
namespace Go.Proofs.YticfmlohkfoccaaGreatDoor
open Go.RowKit Go.Proofs.YticfmlohkfoccaaGreatDoorW.PrintWords

theorem flush_same {x z : Nat} {sb : Bool} (h : Sub x sb) (h1 : sb = false → z = x) (h2 : sb = true → (FloatKind.f32.format.order z 0 == some Ordering.eq) = true) : decide (bits x = bits z) = !sb := by
  cases sb with
  | false => rw [h1 rfl]; simp
  | true =>
    obtain ⟨hn, ho⟩ := h.num rfl
    have hz := h2 rfl
    apply decide_eq_false
    intro e
    have ex : bits x = x := by unfold bits; rw [hn]; rfl
    rw [ex] at e
    unfold bits at e
    by_cases hnz : nan32 z = true
    · rw [if_pos hnz] at e
      rw [e] at hn
      exact absurd hn (by decide)
    · rw [if_neg hnz] at e
      rw [e, hz] at ho
      cases ho
theorem flush_sub {x z : Nat} {sb : Bool} (h : Sub x sb) (h1 : sb = false → z = x) (h2 : sb = true → (FloatKind.f32.format.order z 0 == some Ordering.eq) = true) : Sub z false := by
  cases sb with
  | false => rw [h1 rfl]; exact h
  | true => exact sub_zero z (h2 rfl)
set_option maxHeartbeats 4000000 in
set_option maxRecDepth 100000 in
theorem numbersLaw_calls (A B : Option Addr) (n m c d : Nat) (w : World) (hv : Vars w) (hA : n ≤ 1048576 → Code w A n) (hB : m ≤ 1048576 → Code w B m) : Calls Tryz.prog 6 #[.slice A n c, .slice B m d] w fun e w' => e = .returned (.bool true) ∧ Below w.heap.size w w' := by
  have HL := Lib.hid (long_calls A B n m c d)
  by_cases hbig : 1048576 < n ∨ 1048576 < m
  · have hd : (decide (1048576 < n) || decide (1048576 < m)) = true := by
      rw [Bool.or_eq_true, decide_eq_true_iff, decide_eq_true_iff]; exact hbig
    rw [hd] at HL
    clear hd hbig hA hB hv
    go_enter Tryz.func6, Tryz.ntmps6
    go_wp2_with fail
    refine (HL.out _).mono ?_
    rintro e w1 ⟨rfl, rfl⟩
    go_wp2_with fail
    go_ret
    exact ⟨rfl, Below.refl _ _⟩
  · have hd : (decide (1048576 < n) || decide (1048576 < m)) = false := by
      rw [Bool.or_eq_false_iff, decide_eq_false_iff_not, decide_eq_false_iff_not]; omega
    rw [hd] at HL
    have HA := Lib.hid (hA (by omega))
    have HBc := Lib.hid (hB (by omega))
    have HV := Lib.hid hv
    clear hd hbig hA hB hv
    go_enter Tryz.func6, Tryz.ntmps6
    go_wp2_with fail
    refine (HL.out _).mono ?_
    rintro e w1 ⟨rfl, rfl⟩
    clear HL
    go_wp2_with fail
    refine (number_calls A n c w1 HA.out).mono ?_
    rintro e w2 ⟨⟨x, rfl, hx⟩, hb⟩
    have HB2 := Lib.hid hb
    have Hx := Lib.hid hx
    clear hb
    go_wp2_with fail
    refine (number_calls B m d w2 (HBc.out.more HB2.out)).mono ?_
    rintro e w3 ⟨⟨y, rfl, hy⟩, hb⟩
    have HB3 := Lib.hid (below_then HB2.out HB2.out.size hb)
    have Hy := Lib.hid hy
    clear hb HB2
    have HZ1 := Lib.hid (fun w => bitsOf_calls x hx w)
    have HZ2 := Lib.hid (fromBits_calls (bits x) (bits_lt' hx))
    have hsz := same21_calls (bits x) x (bits_lt' hx) hx
    rw [decide_eq_true (bits_bits x)] at hsz
    have HZ3 := Lib.hid hsz
    obtain ⟨sb, hsb⟩ := sub_any x hx
    obtain ⟨z, hz, hz1, hz2, hfl⟩ := flush_any x hx hsb
    have HF := Lib.hid hfl
    have HSx := Lib.hid hsb.calls
    have HSz := Lib.hid (flush_sub hsb hz1 hz2).calls
    have hxz := same21_calls x z hx hz
    rw [flush_same hsb hz1 hz2] at hxz
    have HXZ := Lib.hid hxz
    have HSim : ∃ D, True := ⟨0, trivial⟩
    clear hxz hfl hsb hz1 hz2 hsz hx hy hz HSim
    generalize bits x = xb at *
    go_wp2_with fail
    refine (HZ1.out _).mono ?_
    rintro e w4 ⟨rfl, rfl⟩
    go_wp2_with fail
    refine (HZ2.out _).mono ?_
    rintro e w4 ⟨rfl, rfl⟩
    clear HZ1 HZ2
    go_wp2_with fail
    refine (HF.out _).mono ?_
    rintro e w5 ⟨rfl, hb⟩
    have HB5 := Lib.hid (below_then HB3.out HB3.out.size hb)
    clear hb HF HB3
    go_wp2_with fail
    refine (at_calls A n c 12 (by decide) (by decide) _ (HA.out.more HB5.out)).mono ?_
    rintro e w6 ⟨⟨k, rfl, hk⟩, rfl⟩
    go_wp2_with fail
    refine (drawnNumbers_calls B m d k (by omega) _ (HBc.out.more HB5.out)).mono ?_
    rintro e w7 ⟨v, l, rfl, hll, hlg, ho⟩
    have HB7 := Lib.hid (below_then HB5.out HB5.out.size ho.bel)
    have HO := Lib.hid ho
    obtain ⟨A3, c3, rfl, hc3, hr3⟩ := rowF ho.row
    have HG := Lib.hid hlg
    have HR3 : Hid (∀ n, FRow (w7.drewN n) A3 l) := Lib.hid (fun n => hr3.more (pw_below_drewN (Below.refl _ _) n))
    have hl : l.length ≤ 100 := by omega
    clear hlg hr3 ho hll hk hc3 HB5
    have HT := Lib.hid (take_step l)
    have HE : Hid (l.take l.length = l) := Lib.hid (List.take_length)
    have hadd := fun (x y : Nat) W => run_fop Tryz.prog .add (Or.inl rfl) 29 .f32 x y W
    go_wp2_with fail
    go_loopw [11, 41] (fun s i wr => ∃ (k v : Nat), i = .int .i64 k ∧ s = .float .f32 v ∧ k ≤ l.length ∧ v < 4294967296 ∧ Aside0 (bits v = (l.take k).foldl step 0) ∧ Aside0 (∃ n, wr = w7.drewN n)) (fun _ i _ => l.length - (intOf i).toNat)
    case atStart => exact ⟨0, 0, rfl, rfl, by omega, by omega, ⟨rfl⟩, ⟨0, rfl⟩⟩
    case round =>
      obtain ⟨k, v, rfl, rfl, hk, hv, HS, HW⟩ := hrel
      obtain ⟨nn, hwn⟩ := HW.out
      by_cases hlt : k < l.length
      · have d1 : decide ((k : Int) < (l.length : Int)) = true := decide_eq_true (by omega)
        have d1' : decide (k < l.length) = true := decide_eq_true hlt
        obtain ⟨g, rfl, hat⟩ := (HR3.out nn).get k hlt
        rw [← hwn] at hat
        have HS2 := Lib.hid (HT.out k hlt)
        have HWn := Lib.hid hwn
        clear hwn HW
        generalize l[k] = xx at *
        go_wp2_with fail
        have HV1 : Aside0 (bits (fop .add .f32 v xx wr) = (l.take (k + 1)).foldl step 0) := ⟨by rw [step_fop v _ xx wr HS.out]; exact HS2.out⟩
        have hv2 := fop_lt .add v xx wr
        have HW1 : Aside0 (∃ n, fow .add .f32 v xx wr = w7.drewN n) := ⟨by
          obtain ⟨j, hj⟩ := fow_drawn .add .f32 v xx wr
          exact ⟨nn + j, by rw [hj, HWn.out, World.drewN_drewN]⟩⟩
        generalize fop .add .f32 v xx wr = v2 at *
        generalize fow .add .f32 v xx wr = w2 at *
        go_roundw
        case rel => exact ⟨k + 1, v2, by go_num, rfl, by omega, hv2, HV1, HW1⟩
        case measure => simp [intOf]; omega
      · have d1 : decide ((k : Int) < (l.length : Int)) = false := decide_eq_false (by omega)
        have d1' : decide (k < l.length) = false := decide_eq_false hlt
        have hkl : k = l.length := by omega
        have HS' : Hid (bits v = l.foldl step 0) := Lib.hid (by rw [HS.out, hkl, HE.out])
        clear HS
        subst hwn
        go_wp2_with fail
        refine (sum_calls A3 c3 l hl _ (HR3.out nn)).mono ?_
        rintro e w8 ⟨⟨s, rfl, hs, hss⟩, n8, rfl⟩
        rw [World.drewN_drewN]
        generalize hN : nn + n8 = N
        have HB8 : Hid (Below w1.heap.size w1 (w7.drewN N)) := Lib.hid (pw_below_drewN HB7.out N)
        have hsv := same21_calls s v hs hv
        rw [decide_eq_true (hss.trans HS'.out.symm)] at hsv
        have HSV := Lib.hid hsv
        have hR := HR3.out N
        obtain ⟨T, hT1, hT2, hT3⟩ := textNums_any (c := c3) hR HG.out hl (HV.out.step HB8.out)
        have HT3 := Lib.hid hT3
        have HRl := Lib.hid hR
        clear hT3 hR HS' hss hs hsv HW HT HE hadd HB7 hN d1 d1' hkl hlt hk HO HR3
        generalize w7.drewN N = w8 at *
        go_wp2_with fail
        refine HT3.out.mono ?_
        rintro e w9 ⟨rfl, hb⟩
        have HB9 := Lib.hid (below_then HB8.out HB8.out.size hb)
        have HR9 := Lib.hid (HRl.out.more hb)
        have hRd := ReadNumbers_calls T hT1 w9 (HV.out.step HB9.out)
        rw [hT2] at hRd
        have HRd := Lib.hid hRd
        clear hRd hb HT3 HRl hT1 hT2 HB8
        go_wp2_with fail
        refine HRd.out.mono ?_
        rintro e w10 ⟨v9, rfl, ho9⟩
        have hr9 := ho9.row
        rw [Option.getD_some] at hr9
        obtain ⟨A9, c9, rfl, hc9, hrw9⟩ := rowF hr9
        rw [List.length_map]
        have HB10 := Lib.hid (below_then HB9.out HB9.out.size ho9.bel)
        have HRa : Hid (∀ W, Below w10.heap.size w10 W → FRow W A9 (l.map bits)) := Lib.hid (fun W hW => hrw9.more hW)
        have HRb : Hid (∀ W, Below w10.heap.size w10 W → FRow W A3 l) := Lib.hid (fun W hW => HR9.out.more (below_then ho9.bel ho9.bel.size hW))
        clear ho9 hr9 hrw9 hc9 HR9 HRd HB9
        have HBB : Hid (∀ W, Below w10.heap.size w10 W → Below w1.heap.size w1 W) := Lib.hid (fun W hW => below_then HB10.out HB10.out.size hW)
        have HMl : Hid ((l.map bits).length = l.length) := Lib.hid (List.length_map ..)
        have h0 : decide ((l.length : Int) = (l.length : Int)) = true := decide_eq_true rfl
        have h1 : ((l.length : Int) != (l.length : Int)) = false := by simp
        go_wp2_with fail
        refine (HZ3.out _).mono ?_
        rintro e w11 ⟨rfl, rfl⟩
        clear HZ3
        go_wp2_with fail
        refine (HSz.out _).mono ?_
        rintro e w12 ⟨rfl, hb⟩
        have HC12 := Lib.hid hb
        clear hb HSz
        go_wp2_with fail
        refine (HSx.out _).mono ?_
        rintro e w13 ⟨rfl, hb⟩
        have HC13 := Lib.hid (below_then HC12.out HC12.out.size hb)
        clear hb HSx HC12
        go_wp2_with fail
        refine (HXZ.out _).mono ?_
        rintro e w14 ⟨rfl, rfl⟩
        clear HXZ
        have hsb : (sb == !sb) = false := by cases sb <;> rfl
        have hsb2 : decide (sb = !sb) = false := by cases sb <;> rfl
        go_wp2_with fail
        refine (HSV.out _).mono ?_
        rintro e w15 ⟨rfl, rfl⟩
        clear HSV
        go_wp2_with fail
        go_loopw [113] (fun i wr => ∃ (k : Nat), i = .int .i64 k ∧ k ≤ l.length ∧ Aside0 (Below w11.heap.size w11 wr)) (fun i _ => l.length - (intOf i).toNat)
        case atStart => exact ⟨0, rfl, by omega, ⟨HC13.out⟩⟩
        case round =>
          obtain ⟨k, rfl, hk, HW⟩ := hrel
          by_cases hlt : k < l.length
          · have d1 : decide ((k : Int) < (l.length : Int)) = true := decide_eq_true (by omega)
            have d1' : decide (k < l.length) = true := decide_eq_true hlt
            obtain ⟨g, rfl, hat⟩ := (HRa.out _ HW.out).get k (by simpa using hlt)
            obtain ⟨g', rfl, hat'⟩ := (HRb.out _ HW.out).get k hlt
            rw [List.getElem_map] at hat
            have hgd := HG.out _ (List.getElem_mem hlt)
            have hC := same21_calls (bits l[k]) l[k] (bits_lt' hgd) hgd
            rw [decide_eq_true (bits_bits _)] at hC
            have HC := Lib.hid hC
            clear hC hgd
            generalize l[k] = xx at *
            generalize bits xx = bx at *
            go_wp2_with fail
            go_still_tail 8, (by kernel_rfl)
            change wpList _ _ _ _ _ wr.drew
            have HW1 : Aside0 (Below w11.heap.size w11 wr.drew) := ⟨HW.out.drew⟩
            generalize wr.drew = w2 at *
            clear hat hat' HW
            go_wp2_with fail
            refine (HC.out _).mono ?_
            rintro e W1 ⟨rfl, rfl⟩
            go_wp2
            go_roundw
            case rel => exact ⟨k + 1, by go_num, by omega, HW1⟩
            case measure => simp [intOf]; omega
          · have d1 : decide ((k : Int) < (l.length : Int)) = false := decide_eq_false (by omega)
            have d1' : decide (k < l.length) = false := decide_eq_false hlt
            have HB20 := Lib.hid (HBB.out _ HW.out)
            clear HW HRa HRb HG HBB HC13 HB10
            obtain ⟨ab, han⟩ := angle_calls y x Hy.out Hx.out
            have HAn := Lib.hid han
            have HAo := Lib.hid (angleOf_calls y x han)
            obtain ⟨V1, D1, k1, n1⟩ := widen_any x Hx.out
            have N1 := Lib.hid n1
            have one : (FloatKind.f32.format.order 1065353216 1065353216 == some Ordering.eq) = true := by decide +kernel
            clear han n1
            go_wp2_with fail
            refine (HAn.out _).mono ?_
            rintro e w21 ⟨⟨a1, rfl, ha1, hb1⟩, hb⟩
            have HB21 := Lib.hid (below_then HB20.out HB20.out.size hb)
            clear hb HB20 HAn
            go_wp2_with fail
            refine (HAo.out _).mono ?_
            rintro e w22 ⟨⟨a2, rfl, ha2, hb2⟩, hb⟩
            have HB22 := Lib.hid (below_then HB21.out HB21.out.size hb)
            have hsa := same21_calls a1 a2 ha1 ha2
            rw [decide_eq_true (hb1.trans hb2.symm)] at hsa
            have HSA := Lib.hid hsa
            clear hb HB21 HAo hsa hb1 hb2 ha1 ha2
            go_wp2_with fail
            refine (HSA.out _).mono ?_
            rintro e w23 ⟨rfl, rfl⟩
            clear HSA
            go_wp2_with fail
            refine (narrow47_calls _ x Hx.out (N1.out _) _).mono ?_
            rintro e w24 ⟨⟨q, rfl, hq, hqb⟩, hb⟩
            have HB24 := Lib.hid (below_then (pw_below_drewN HB22.out D1) (pw_below_drewN HB22.out D1).size hb)
            have hsq := same21_calls q x hq Hx.out
            rw [decide_eq_true hqb] at hsq
            have HSQ := Lib.hid hsq
            clear hb HB22 hsq hq hqb k1 N1
            go_wp2_with fail
            refine (HSQ.out _).mono ?_
            rintro e w25 ⟨rfl, rfl⟩
            clear HSQ
            go_wp2_with fail
            refine (sineTurns_calls _).mono ?_
            rintro e w26 ⟨rfl, hb⟩
            have HB26 := Lib.hid (below_then HB24.out HB24.out.size hb)
            clear hb HB24
            go_wp2_with fail
            go_ret
            exact ⟨rfl, HB26.out⟩
end Go.Proofs.YticfmlohkfoccaaGreatDoor
