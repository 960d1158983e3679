/- Plain laws on hexadecimal digits, pieces of texts and the texts of numbers: no program in sight. -/
import Derived.Lib.SplitLaws
import Derived.Lib.SlTrimSet
import Derived.Lib.Join
import Derived.Lib.Repeat
set_option linter.unusedVariables false
set_option linter.unusedSimpArgs false
namespace Go.Proofs.YticfmlohkfoccaaGreatDoor.Plain
open Go Go.Lib

/-! ### Hexadecimal digits -/
def dig (b : UInt8) : Option Nat := if 48 ≤ b.toNat ∧ b.toNat ≤ 57 then some (b.toNat - 48) else if 97 ≤ b.toNat ∧ b.toNat ≤ 102 then some (b.toNat - 87) else none
def hexN (n : Nat) : List UInt8 → Option Nat
  | [] => some n
  | b :: l => match dig b with
    | some d => hexN (16 * n + d) l
    | none => none
def dg (d : Nat) : UInt8 := UInt8.ofNat (if d < 10 then 48 + d else 87 + d)
def hexL : Nat → Nat → List UInt8
  | 0, _ => []
  | k + 1, n => hexL k (n / 16) ++ [dg (n % 16)]
theorem dg_toNat (d : Nat) (h : d < 16) : (dg d).toNat = if d < 10 then 48 + d else 87 + d := by
  unfold dg; rw [UInt8.toNat_ofNat']; split <;> omega
theorem dig_dg (d : Nat) (h : d < 16) : dig (dg d) = some d := by
  unfold dig; rw [dg_toNat d h]
  by_cases h1 : d < 10
  · rw [if_pos h1, if_pos (by omega)]; congr 1; omega
  · rw [if_neg h1, if_neg (by omega), if_pos (by omega)]; congr 1; omega
theorem dg_dig {b : UInt8} {d : Nat} (h : dig b = some d) : dg d = b ∧ d < 16 := by
  unfold dig at h
  split at h
  · rename_i c
    injection h with h
    refine ⟨UInt8.toNat_inj.1 ?_, by omega⟩
    rw [dg_toNat d (by omega), if_pos (by omega)]; omega
  · split at h
    · rename_i c
      injection h with h
      refine ⟨UInt8.toNat_inj.1 ?_, by omega⟩
      rw [dg_toNat d (by omega), if_neg (by omega)]; omega
    · cases h
theorem hexN_snoc (l : List UInt8) (b : UInt8) : ∀ n, hexN n (l ++ [b]) = (hexN n l).bind fun m => (dig b).map (16 * m + ·) := by
  induction l with
  | nil => intro n; simp only [List.nil_append, hexN, Option.bind_some]; cases dig b <;> rfl
  | cons a l ih =>
    intro n
    simp only [List.cons_append, hexN]
    cases dig a with
    | none => rfl
    | some d => exact ih _
theorem hexN_lt (l : List UInt8) : ∀ n m, hexN n l = some m → m < (n + 1) * 16 ^ l.length := by
  induction l with
  | nil => intro n m h; simp only [hexN, Option.some.injEq] at h; simp; omega
  | cons a l ih =>
    intro n m h
    simp only [hexN] at h
    cases hd : dig a with
    | none => rw [hd] at h; cases h
    | some d =>
      rw [hd] at h
      have h1 := ih _ _ h
      have h2 := (dg_dig hd).2
      have h3 : (16 * n + d + 1) * 16 ^ l.length ≤ ((n + 1) * 16) * 16 ^ l.length := Nat.mul_le_mul_right _ (by omega)
      rw [List.length_cons, Nat.pow_succ, Nat.mul_comm (16 ^ l.length) 16, ← Nat.mul_assoc]
      omega
theorem hexL_length (k : Nat) : ∀ n, (hexL k n).length = k := by
  induction k with
  | zero => intro n; rfl
  | succ k ih => intro n; simp [hexL, ih]
theorem hexL_hexN (k : Nat) : ∀ (l : List UInt8) (m : Nat), l.length = k → hexN 0 l = some m → hexL k m = l := by
  induction k with
  | zero => intro l m hl h; cases l with
    | nil => rfl
    | cons => simp at hl
  | succ k ih =>
    intro l m hl h
    have hne : l ≠ [] := by intro e; rw [e] at hl; simp at hl
    have e := List.dropLast_concat_getLast hne
    have hd : l.dropLast.length = k := by simp [hl]
    generalize l.getLast hne = b at *
    generalize l.dropLast = r at *
    subst e
    rw [hexN_snoc] at h
    cases hr : hexN 0 r with
    | none => rw [hr] at h; cases h
    | some q =>
      rw [hr] at h
      cases hb : dig b with
      | none => rw [hb] at h; cases h
      | some d =>
        rw [hb] at h
        simp only [Option.bind_some, Option.map_some, Option.some.injEq] at h
        have h2 := dg_dig hb
        subst h
        have e1 : (16 * q + d) / 16 = q := by omega
        have e2 : (16 * q + d) % 16 = d := by omega
        simp only [hexL, e1, e2]
        rw [ih r q hd hr, h2.1]
theorem hexN_hexL (k : Nat) : ∀ n, n < 16 ^ k → hexN 0 (hexL k n) = some n := by
  induction k with
  | zero => intro n h; simp at h; subst h; rfl
  | succ k ih =>
    intro n h
    rw [Nat.pow_succ] at h
    simp only [hexL]
    rw [hexN_snoc, ih (n / 16) (by omega), dig_dg _ (Nat.mod_lt _ (by decide))]
    simp only [Option.bind_some, Option.map_some]
    congr 1
    omega
theorem hexL_inj {k a b : Nat} (ha : a < 16 ^ k) (hb : b < 16 ^ k) (h : hexL k a = hexL k b) : a = b := by
  have h1 := hexN_hexL k a ha
  rw [h, hexN_hexL k b hb] at h1
  injection h1 with h1
  exact h1.symm

/-- A number in base 16, without zeros ahead. -/
def fmt16 (n : Nat) : List UInt8 := if n < 16 then [dg n] else fmt16 (n / 16) ++ [dg (n % 16)]
termination_by n
theorem fmt16_low {n : Nat} (h : n < 16) : fmt16 n = [dg n] := by rw [fmt16, if_pos h]
theorem fmt16_high {n : Nat} (h : ¬ n < 16) : fmt16 n = fmt16 (n / 16) ++ [dg (n % 16)] := by rw [fmt16, if_neg h]
theorem hexL_zero (k : Nat) : hexL k 0 = List.replicate k 48 := by
  induction k with
  | zero => rfl
  | succ k ih =>
    simp only [hexL, Nat.zero_div, Nat.zero_mod]
    rw [ih, show dg 0 = 48 from rfl, List.replicate_succ']
theorem fmt16_pad (k : Nat) : ∀ n, n < 16 ^ (k + 1) → (fmt16 n).length ≤ k + 1 ∧ List.replicate (k + 1 - (fmt16 n).length) 48 ++ fmt16 n = hexL (k + 1) n := by
  induction k with
  | zero =>
    intro n h
    have h : n < 16 := by simpa using h
    rw [fmt16_low h]
    simp [hexL, Nat.mod_eq_of_lt h]
  | succ k ih =>
    intro n h
    rw [Nat.pow_succ] at h
    by_cases hn : n < 16
    · rw [fmt16_low hn, hexL, Nat.div_eq_of_lt hn, Nat.mod_eq_of_lt hn, hexL_zero]
      simp
    · have h1 := ih (n / 16) (by omega)
      rw [fmt16_high hn, hexL, ← h1.2]
      refine ⟨by simp; omega, ?_⟩
      rw [← List.append_assoc]
      congr 3
      simp
theorem fmt16_ne (n : Nat) : fmt16 n ≠ [] := by rw [fmt16]; split <;> simp

/-! ### Trimming -/
def hexCs : List UInt8 := [48, 49, 50, 51, 52, 53, 54, 55, 56, 57, 97, 98, 99, 100, 101, 102]
set_option maxRecDepth 100000 in
theorem mem_hex (b : UInt8) : hexCs.contains b = (dig b).isSome := by
  have key : ∀ k : Fin 256, hexCs.contains (UInt8.ofNat k.val) = (dig (UInt8.ofNat k.val)).isSome := by decide
  have h := key ⟨b.toNat, b.toNat_lt⟩
  simpa using h
theorem dropWhile_nil (p : UInt8 → Bool) (l : List UInt8) : l.dropWhile p = [] ↔ ∀ b ∈ l, p b = true := by
  induction l with
  | nil => simp
  | cons a l ih =>
    rw [List.dropWhile_cons]
    by_cases h : p a = true
    · rw [if_pos h, ih]; simp [h]
    · rw [if_neg h]; simp [h]
theorem dropWhile_all (p : UInt8 → Bool) (l : List UInt8) (h : ∀ b ∈ l.dropWhile p, p b = true) : l.dropWhile p = [] := by
  induction l with
  | nil => rfl
  | cons a l ih =>
    rw [List.dropWhile_cons] at h ⊢
    by_cases hp : p a = true
    · rw [if_pos hp] at h ⊢; exact ih h
    · rw [if_neg hp] at h; exact absurd (h a (by simp)) hp
theorem trimS_nil (l cs : List UInt8) : trimS l cs = [] ↔ ∀ b ∈ l, cs.contains b = true := by
  unfold trimS trimLeftS trimRightS
  rw [dropWhile_nil]
  constructor
  · intro h
    have h1 := dropWhile_all (fun x => cs.contains x) l.reverse (fun b hb => h b (by simpa using hb))
    rw [dropWhile_nil] at h1
    exact fun b hb => h1 b (by simpa using hb)
  · intro h b hb
    rw [(dropWhile_nil _ _).2 (fun c hc => h c (by simpa using hc))] at hb
    cases hb
theorem hexN_any (l : List UInt8) : ∀ n m, (hexN n l).isSome = true → (hexN m l).isSome = true := by
  induction l with
  | nil => intro n m h; rfl
  | cons c l ih2 =>
    intro n m h
    simp only [hexN] at h ⊢
    cases hc : dig c with
    | none => rw [hc] at h; cases h
    | some e => rw [hc] at h; exact ih2 _ _ h
theorem hexN_some (l : List UInt8) : (∀ b ∈ l, (dig b).isSome = true) ↔ ∀ n, (hexN n l).isSome = true := by
  induction l with
  | nil => simp [hexN]
  | cons a l ih =>
    constructor
    · intro h n
      simp only [hexN]
      have ha := h a (by simp)
      cases hd : dig a with
      | none => rw [hd] at ha; cases ha
      | some d => exact ih.1 (fun b hb => h b (by simp [hb])) _
    · intro h b hb
      have h0 := h 0
      simp only [hexN] at h0
      cases hd : dig a with
      | none => rw [hd] at h0; cases h0
      | some d =>
        rcases List.mem_cons.1 hb with e | hb
        · subst e; rw [hd]; rfl
        · refine ih.2 (fun n => ?_) b hb
          rw [hd] at h0
          exact hexN_any l _ n h0
theorem trim_hex (l : List UInt8) : trimS l hexCs = [] ↔ (hexN 0 l).isSome = true := by
  rw [trimS_nil]
  constructor
  · intro h
    exact (hexN_some l).1 (fun b hb => by rw [← mem_hex]; exact h b hb) 0
  · intro h b hb
    rw [mem_hex]
    exact (hexN_some l).2 (fun n => hexN_any l 0 n h) b hb
end Go.Proofs.YticfmlohkfoccaaGreatDoor.Plain
