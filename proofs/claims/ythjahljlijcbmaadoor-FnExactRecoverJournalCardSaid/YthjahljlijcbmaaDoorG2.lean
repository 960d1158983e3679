/- What the reference's l08Journal and JournalOf return, as plain functions of the lines: for every list of lines whose sizes do not add up beyond 2^40. -/
import Derived.Test.YthjahljlijcbmaaDoorG0
import Derived.Test.YthjahljlijcbmaaDoorPFnExactJournalOfx2
import Derived.Test.YthjahljlijcbmaaDoorPFnExactJournalOfx3
import Derived.Deep.RegionHeld3
import Derived.WalkSpells
import Derived.WalkLawsBesides
set_option linter.unusedVariables false
set_option linter.unusedSimpArgs false
namespace Go.Proofs.YthjahljlijcbmaaDoor
open Go.RowKit Go.Proofs.YthjahljlijcbmaaDoorW.PrintWords
open PFnExactJournalOf (spec_l01Check.f spec_l01Check.l0 spec_l01Dec.f spec_l01Dec.l0 spec_l01Dec.j1)

theorem tmod_eq {a : Int} (h : 0 ≤ a) (b : Int) : Int.tmod a b = a % b := Int.tmod_eq_emod_of_nonneg h
theorem bt_get (s : ByteArray) (i : Nat) (h : i < s.size) : bt s (i : Int) = (s.data.toList[i]'(by simpa using h)).toNat := by
  unfold bt
  rw [dif_pos (show (i : Int).toNat < s.size by omega)]
  simp only [Int.toNat_natCast]
  rfl
theorem take_snoc (l : List UInt8) (i : Nat) (h : i < l.length) : l.take (i + 1) = l.take i ++ [l[i]] := List.take_succ_eq_append_getElem h

/-- The reference's check number. -/
theorem check_loop (s : ByteArray) (hs : s.size ≤ 1099511627776) (n : Int) (h0 : 0 ≤ n) (h1 : n < 65003) (d : Nat) :
    ∀ (i k : Nat), i ≤ s.size → s.size - i = d → d < k → spec_l01Check.l0 k (Plain.chk n (s.data.toList.take i)) s i = some (Plain.chk n s.data.toList) := by
  induction d with
  | zero =>
    intro i k hi hd hk
    obtain ⟨k, rfl⟩ : ∃ m, k = m + 1 := ⟨k - 1, by omega⟩
    have : i = s.size := by omega
    subst this
    simp only [spec_l01Check.l0]
    rw [if_neg (by omega), List.take_of_length_le (by simp)]
  | succ d ih =>
    intro i k hi hd hk
    obtain ⟨k, rfl⟩ : ∃ m, k = m + 1 := ⟨k - 1, by omega⟩
    have hlt : i < s.size := by omega
    have hl : i < s.data.toList.length := by simpa using hlt
    simp only [spec_l01Check.l0]
    rw [if_pos (by omega), if_pos (by omega), bt_get s i hlt]
    have hr := Plain.chk_range (s.data.toList.take i) n h0 h1
    have hb := (s.data.toList[i]'hl).toNat_lt
    have e1 : wrap64 ((i : Int) + 1) = ((i + 1 : Nat) : Int) := by unfold wrap64; omega
    have e2 : wrap64 (wrap64 (wrap64 (773 * Plain.chk n (s.data.toList.take i)) + wrap64 ((s.data.toList[i]'hl).toNat : Int)) + 89) = 773 * Plain.chk n (s.data.toList.take i) + ((s.data.toList[i]'hl).toNat : Int) + 89 := by
      unfold wrap64; omega
    rw [e1, e2, tmod_eq (by omega), ← Plain.chk_snoc, ← take_snoc _ i hl]
    exact ih (i + 1) k (by omega) (by omega) (by omega)
theorem check_f (n : Int) (s : ByteArray) (h0 : 0 ≤ n) (h1 : n < 65003) (hs : s.size ≤ 1099511627776) : spec_l01Check.f (s.size + 1) n s = some (Plain.chk n s.data.toList) := by
  have := check_loop s hs n h0 h1 s.size 0 (s.size + 1) (by omega) (by omega) (by omega)
  unfold spec_l01Check.f
  simpa [show Plain.chk n [] = n from rfl] using this


/-- The reference's decimal text. -/
theorem dec_loop (n : Int) (hn : 0 ≤ n) (u : Nat) : ∀ (xs : List Int) (k : Nat), u < 1000000000000000000 → (xs = [] ∨ u ≠ 0) → xs.length + Lib.nDigits u ≤ 100 → 2 * Lib.nDigits u + 2 ≤ k →
    spec_l01Dec.l0 k n xs u = some (strOfNums ((Lib.decDigits u).map (fun b => (b.toNat : Int)) ++ xs)) := by
  induction u using Nat.strongRecOn with
  | _ u ih =>
    intro xs k hu hx hl hk
    have hp : 1 ≤ Lib.nDigits u := by rw [← Lib.decDigits_length, Lib.decDigits]; split <;> simp
    obtain ⟨k, rfl⟩ : ∃ m, k = m + 2 := ⟨k - 2, by omega⟩
    have hj : spec_l01Dec.l0 (k + 2) n xs u = spec_l01Dec.j1 (k + 1) n xs u true := by
      simp only [spec_l01Dec.l0]
      by_cases h0 : (xs.length : Int) = 0
      · rw [if_pos h0]
      · rw [if_neg h0]
        have : u ≠ 0 := by
          rcases hx with rfl | h
          · simp at h0
          · exact h
        rw [show (((u : Int)) != 0) = true from by simpa using this]
    have e1 : Int.tmod (u : Int) 10 = ((u % 10 : Nat) : Int) := by rw [tmod_eq (by omega)]; omega
    have e2 : Int.tdiv (u : Int) 10 = ((u / 10 : Nat) : Int) := by rw [Int.tdiv_eq_ediv_of_nonneg (by omega)]; omega
    have e3 : wrap64 (((u / 10 : Nat) : Int)) = ((u / 10 : Nat) : Int) := by unfold wrap64; omega
    have e4 : wrap64 (48 + ((u % 10 : Nat) : Int)) % 256 = ((UInt8.ofNat (48 + u % 10)).toNat : Int) := by
      have a1 : wrap64 (48 + ((u % 10 : Nat) : Int)) = 48 + ((u % 10 : Nat) : Int) := by unfold wrap64; omega
      have a2 : (UInt8.ofNat (48 + u % 10)).toNat = 48 + u % 10 := by
        rw [UInt8.toNat_ofNat']
        exact Nat.mod_eq_of_lt (by have := Nat.mod_lt u (show 0 < 10 by decide); omega)
      rw [a1, a2]
      omega
    rw [hj]
    simp only [spec_l01Dec.j1]
    rw [if_pos trivial, e1, e2, e3, if_neg (by omega), e4]
    simp only [Option.bind_some, List.length_cons, List.length_nil]
    rw [if_pos (by omega)]
    by_cases hlt : u < 10
    · have hz : u / 10 = 0 := by omega
      obtain ⟨k, rfl⟩ : ∃ m, k = m + 2 := ⟨k - 2, by omega⟩
      rw [hz]
      simp only [spec_l01Dec.l0]
      rw [if_neg (by simp; omega)]
      simp only [spec_l01Dec.j1]
      rw [if_neg (by simp), if_neg (by omega), Lib.decDigits_one hlt, show u % 10 = u from by omega]
      rfl
    · rw [ih (u / 10) (by omega) _ k (by omega) (Or.inr (by omega)) (by have := Lib.nDigits_big hlt; simp; omega) (by have := Lib.nDigits_big hlt; omega)]
      rw [show Lib.decDigits u = Lib.decDigits (u / 10) ++ [UInt8.ofNat (48 + u % 10)] from by rw [Lib.decDigits, dif_neg hlt]]
      simp
theorem strOfNums_bytes (l : List UInt8) : strOfNums (l.map fun b => (b.toNat : Int)) = ⟨l.toArray⟩ := by
  unfold strOfNums
  rw [List.map_map, show ((fun n : Int => UInt8.ofNat n.toNat) ∘ fun b : UInt8 => (b.toNat : Int)) = id from by funext b; simp, List.map_id]
theorem dec_f (n : Int) (h0 : 0 ≤ n) (h1 : n < 65003) : spec_l01Dec.f 60 n = some (Plain.dec n) := by
  obtain ⟨u, rfl⟩ := Int.eq_ofNat_of_zero_le h0
  have hi : Lib.itoa (u : Int) = Lib.decDigits u := by unfold Lib.itoa; rw [if_neg (by omega)]; simp
  have hd : Lib.nDigits u ≤ 21 := by
    have := Lib.itoa_length_le (u : Int) (by omega) (by omega)
    rw [hi, Lib.decDigits_length] at this
    exact this
  unfold spec_l01Dec.f
  rw [dec_loop u (by omega) u [] 60 (by omega) (Or.inl rfl) (by simp; omega) (by omega), List.append_nil, strOfNums_bytes]
  unfold Plain.dec
  rw [hi]

end Go.Proofs.YthjahljlijcbmaaDoor
