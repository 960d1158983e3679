/- Plain laws on journals: what the reference and the program both compute, in plain Lean: no program in sight; no condition. -/
import Derived.Lib.ItoaNum
import Derived.Lib.ItoaLen
import Derived.Lib.Strings
namespace Go.Proofs.YthjahljlijcbmaaDoor.Plain
open Go Go.Lib

/-- The check number of a text, begun with n. -/
def chk (n : Int) (l : List UInt8) : Int := l.foldl (fun n b => (773 * n + (b.toNat : Int) + 89) % 65003) n
theorem chk_range : ∀ (l : List UInt8) (n : Int), 0 ≤ n → n < 65003 → 0 ≤ chk n l ∧ chk n l < 65003
  | [], n, h0, h1 => ⟨h0, h1⟩
  | b :: l, n, h0, h1 => chk_range l _ (Int.emod_nonneg _ (by decide)) (Int.emod_lt_of_pos _ (by decide))
theorem chk_snoc (n : Int) (l : List UInt8) (b : UInt8) : chk n (l ++ [b]) = (773 * chk n l + (b.toNat : Int) + 89) % 65003 := by simp [chk]

/-- The text of a number, as a string. -/
def dec (n : Int) : ByteArray := ⟨(itoa n).toArray⟩
theorem dec_size (n : Int) : (dec n).size = (itoa n).length := by simp [dec, ByteArray.size]
theorem itoa_pos (n : Int) : 1 ≤ (itoa n).length := by
  unfold itoa
  split
  · simp
  · have : ∀ u, 1 ≤ (decDigits u).length := fun u => by
      rw [decDigits]; split <;> simp
    exact this _
theorem dec_bounds (n : Int) (h0 : 0 ≤ n) (h1 : n < 65003) : 1 ≤ (dec n).size ∧ (dec n).size ≤ 21 := by
  rw [dec_size]
  exact ⟨itoa_pos n, itoa_length_le n (by omega) (by omega)⟩

/-- One line of a journal, whose own check number is n. -/
def jline (n : Int) (s : ByteArray) : ByteArray := ((dec n ++ ⟨#[32]⟩) ++ s) ++ ⟨#[10]⟩
theorem jline_size (n : Int) (s : ByteArray) : (jline n s).size = (dec n).size + 2 + s.size := by
  have a : (⟨#[32]⟩ : ByteArray).size = 1 := rfl
  have b : (⟨#[10]⟩ : ByteArray).size = 1 := rfl
  unfold jline
  rw [ByteArray.size_append, ByteArray.size_append, ByteArray.size_append]; omega
theorem jline_bounds (n : Int) (s : ByteArray) (h0 : 0 ≤ n) (h1 : n < 65003) : s.size + 3 ≤ (jline n s).size ∧ (jline n s).size ≤ s.size + 23 := by
  have := dec_bounds n h0 h1
  rw [jline_size]; omega

/-- One step: what has been written, and the check number behind it. -/
def step (p : ByteArray × Int) (s : ByteArray) : ByteArray × Int := (p.1 ++ jline (chk p.2 s.data.toList) s, chk p.2 s.data.toList)
def jour (l : List ByteArray) : ByteArray × Int := l.foldl step (⟨#[]⟩, 0)
theorem jour_snoc (l : List ByteArray) (s : ByteArray) : jour (l ++ [s]) = step (jour l) s := by simp [jour]
theorem jour_nil : jour [] = (⟨#[]⟩, 0) := rfl
theorem jour_take (l : List ByteArray) (i : Nat) (h : i < l.length) : jour (l.take (i + 1)) = step (jour (l.take i)) l[i] := by
  rw [List.take_succ_eq_append_getElem h, jour_snoc]
theorem foldl_range : ∀ (l : List ByteArray) (p : ByteArray × Int), 0 ≤ p.2 → p.2 < 65003 → 0 ≤ (l.foldl step p).2 ∧ (l.foldl step p).2 < 65003
  | [], _, h0, h1 => ⟨h0, h1⟩
  | s :: l, p, h0, h1 => foldl_range l (step p s) (chk_range s.data.toList _ h0 h1).1 (chk_range s.data.toList _ h0 h1).2
theorem jour_range (l : List ByteArray) : 0 ≤ (jour l).2 ∧ (jour l).2 < 65003 := foldl_range l _ (by decide) (by decide)

/-- Three bytes more than each line: the least that a journal takes. -/
def least : List ByteArray → Nat
  | [] => 0
  | s :: l => s.size + 3 + least l
theorem least_append (a b : List ByteArray) : least (a ++ b) = least a + least b := by
  induction a with
  | nil => simp [least]
  | cons s a ih => simp [least, ih]; omega
theorem least_take_le (l : List ByteArray) (i : Nat) : least (l.take i) ≤ least l := by
  conv => rhs; rw [← List.take_append_drop i l]
  rw [least_append]; omega
theorem foldl_size : ∀ (l : List ByteArray) (p : ByteArray × Int), 0 ≤ p.2 → p.2 < 65003 → p.1.size + least l ≤ (l.foldl step p).1.size ∧ (l.foldl step p).1.size ≤ p.1.size + least l + 20 * l.length
  | [], p, h0, h1 => by simp [least]
  | s :: l, p, h0, h1 => by
    have hr := chk_range s.data.toList _ h0 h1
    have hj := jline_bounds _ s hr.1 hr.2
    have ih := foldl_size l (step p s) hr.1 hr.2
    have hs : (step p s).1.size = p.1.size + (jline (chk p.2 s.data.toList) s).size := by simp [step, ByteArray.size_append]
    simp only [List.foldl_cons, least, List.length_cons]
    omega
theorem jour_size (l : List ByteArray) : least l ≤ (jour l).1.size ∧ (jour l).1.size ≤ least l + 20 * l.length := by
  have := foldl_size l (⟨#[]⟩, 0) (by decide) (by decide)
  have e : (⟨#[]⟩ : ByteArray).size = 0 := rfl
  simp only [e, Nat.zero_add] at this
  exact this
theorem length_least (l : List ByteArray) : 3 * l.length ≤ least l := by
  induction l with
  | nil => simp [least]
  | cons s l ih => simp [least]; omega
/-- What is written never becomes shorter. -/
theorem jour_mono (l : List ByteArray) (i : Nat) : (jour (l.take i)).1.size + least (l.drop i) ≤ (jour l).1.size := by
  have e : jour l = (l.drop i).foldl step (jour (l.take i)) := by
    unfold jour
    rw [← List.foldl_append, List.take_append_drop]
  have hr := jour_range (l.take i)
  have := foldl_size (l.drop i) (jour (l.take i)) hr.1 hr.2
  rw [e]; omega

/-- Has a text a newline? -/
def nl (s : ByteArray) : Bool := s.data.toList.contains 10
/-- WHAT JournalOf RETURNS. -/
def answer (l : List ByteArray) : ByteArray × Bool := if l.any nl || decide (16000 < (jour l).1.size) then (⟨#[]⟩, false) else ((jour l).1, true)
theorem answer_nl (l : List ByteArray) (s : ByteArray) (h : s ∈ l) (hn : nl s = true) : answer l = (⟨#[]⟩, false) := by
  unfold answer
  rw [if_pos]
  simp only [Bool.or_eq_true, List.any_eq_true]
  exact Or.inl ⟨s, h, hn⟩
theorem answer_long (l : List ByteArray) (h : 16000 < (jour l).1.size) : answer l = (⟨#[]⟩, false) := by
  unfold answer
  rw [if_pos]
  simp [h]
theorem answer_good (l : List ByteArray) (hn : ∀ s ∈ l, nl s = false) (h : ¬ 16000 < (jour l).1.size) : answer l = ((jour l).1, true) := by
  unfold answer
  rw [if_neg]
  simp only [Bool.or_eq_true, List.any_eq_true, decide_eq_true_eq, not_or]
  refine ⟨?_, h⟩
  rintro ⟨s, hs, he⟩
  rw [hn s hs] at he
  cases he
end Go.Proofs.YthjahljlijcbmaaDoor.Plain
