/- Plain laws on the pieces of a text and on lists read of them: no program in sight. -/
import Derived.Test.YticfmlohkfoccaaGreatDoorH2
import Derived.Lib.IndexMore
import Derived.Lib.CutLaws
set_option linter.unusedVariables false
set_option linter.unusedSimpArgs false
namespace Go.Proofs.YticfmlohkfoccaaGreatDoor.Plain
open Go Go.Lib

/-- All pieces between marks. -/
def cutAll (m : UInt8) : List UInt8 → List (List UInt8)
  | [] => [[]]
  | b :: l => if b = m then [] :: cutAll m l else match cutAll m l with
    | [] => [[b]]
    | x :: r => (b :: x) :: r
theorem cutAll_ne (m : UInt8) (l : List UInt8) : cutAll m l ≠ [] := by
  cases l with
  | nil => simp [cutAll]
  | cons b l =>
    simp only [cutAll]
    split
    · simp
    · split <;> simp
def glue (p : List UInt8) : List (List UInt8) → List (List UInt8)
  | [] => [p]
  | x :: r => (p ++ x) :: r
theorem glue_glue (p q : List UInt8) (xs : List (List UInt8)) : glue p (glue q xs) = glue (p ++ q) xs := by cases xs <;> simp [glue]
theorem glue_nil (xs : List (List UInt8)) (h : xs ≠ []) : glue [] xs = xs := by cases xs <;> simp_all [glue]
theorem cutAll_other (m b : UInt8) (l : List UInt8) (h : b ≠ m) : cutAll m (b :: l) = glue [b] (cutAll m l) := by
  simp only [cutAll, if_neg h]
  cases hc : cutAll m l <;> simp [glue]
theorem cutAll_mark (m : UInt8) (l : List UInt8) : cutAll m (m :: l) = [] :: cutAll m l := by simp [cutAll]
/-- The lines that are ended. -/
theorem cutAll_length (m : UInt8) (l : List UInt8) : (cutAll m l).length ≤ l.length + 1 := by
  induction l with
  | nil => simp [cutAll]
  | cons b l ih =>
    simp only [cutAll]
    split
    · simp; omega
    · split <;> simp_all
      omega

/-- Lib.cut at one byte, byte by byte. -/
theorem cut_nil (m : UInt8) : Lib.cut [] [m] = ([], [], false) := by simp [Lib.cut, Lib.index]
theorem cut_cons (m b : UInt8) (l : List UInt8) : Lib.cut (b :: l) [m] = if b = m then ([], l, true) else (b :: (Lib.cut l [m]).1, (Lib.cut l [m]).2.1, (Lib.cut l [m]).2.2) := by
  have hi := Lib.index_ge l [m]
  by_cases h : b = m
  · subst h
    simp [Lib.cut, Lib.index]
  · have h' : ¬ m = b := fun e => h e.symm
    rw [if_neg h]
    have hidx : Lib.index (b :: l) [m] = if Lib.index l [m] == -1 then -1 else Lib.index l [m] + 1 := by
      simp only [Lib.index]
      rw [if_neg (by simp [h'])]
    by_cases hx : Lib.index l [m] = -1
    · have e : Lib.index (b :: l) [m] = -1 := by rw [hidx, if_pos (by simp [hx])]
      simp [Lib.cut, e, hx]
    · have e : Lib.index (b :: l) [m] = Lib.index l [m] + 1 := by rw [hidx, if_neg (by simp [hx])]
      simp only [Lib.cut, e]
      rw [if_pos (by omega), if_pos (by omega)]
      rw [show (Lib.index l [m] + 1).toNat = (Lib.index l [m]).toNat + 1 from by omega]
      simp

theorem cut_found (m : UInt8) : ∀ (l x y : List UInt8), Lib.cut l [m] = (x, y, true) → l = x ++ m :: y ∧ m ∉ x
  | [], x, y, h => by rw [cut_nil] at h; simp at h
  | b :: l, x, y, h => by
    rw [cut_cons] at h
    by_cases e : b = m
    · rw [if_pos e] at h
      simp only [Prod.mk.injEq] at h
      obtain ⟨rfl, rfl, _⟩ := h
      subst e
      simp
    · rw [if_neg e] at h
      simp only [Prod.mk.injEq] at h
      obtain ⟨rfl, rfl, h3⟩ := h
      obtain ⟨h1, h2⟩ := cut_found m l _ _ (show Lib.cut l [m] = ((Lib.cut l [m]).1, (Lib.cut l [m]).2.1, true) by rw [← h3])
      refine ⟨by rw [List.cons_append, ← h1], ?_⟩
      rw [List.mem_cons]
      rintro (rfl | hm)
      · exact e rfl
      · exact h2 hm
theorem cut_none (m : UInt8) : ∀ (l x y : List UInt8), Lib.cut l [m] = (x, y, false) → x = l ∧ y = [] ∧ m ∉ l
  | [], x, y, h => by rw [cut_nil] at h; simp at h; simp [h]
  | b :: l, x, y, h => by
    rw [cut_cons] at h
    by_cases e : b = m
    · rw [if_pos e] at h
      simp at h
    · rw [if_neg e] at h
      simp only [Prod.mk.injEq] at h
      obtain ⟨rfl, rfl, h3⟩ := h
      obtain ⟨h1, h2, h4⟩ := cut_none m l _ _ (show Lib.cut l [m] = ((Lib.cut l [m]).1, (Lib.cut l [m]).2.1, false) by rw [← h3])
      refine ⟨by rw [h1], h2, ?_⟩
      rw [List.mem_cons]
      rintro (rfl | hm)
      · exact e rfl
      · exact h4 hm
theorem cutAll_none (m : UInt8) : ∀ l, m ∉ l → cutAll m l = [l]
  | [], _ => rfl
  | b :: l, h => by
    rw [List.mem_cons, not_or] at h
    rw [cutAll_other m b l (fun e => h.1 e.symm), cutAll_none m l h.2]
    rfl
theorem cutAll_found (m : UInt8) : ∀ x y, m ∉ x → cutAll m (x ++ m :: y) = x :: cutAll m y
  | [], y, _ => cutAll_mark m y
  | b :: x, y, h => by
    rw [List.mem_cons, not_or] at h
    rw [List.cons_append, cutAll_other m b _ (fun e => h.1 e.symm), cutAll_found m x y h.2]
    rfl

theorem index_cut (m : UInt8) (s : List UInt8) : (index s [m] = -1 ∧ cutAll m s = [s]) ∨ ∃ i : Nat, index s [m] = i ∧ i < s.length ∧ cutAll m s = s.take i :: cutAll m (s.drop (i + 1)) := by
  rcases hc : Lib.cut s [m] with ⟨x, y, b⟩
  have hge := index_ge s [m]
  cases b with
  | false =>
    obtain ⟨rfl, rfl, hm⟩ := cut_none m s x y hc
    left
    refine ⟨?_, cutAll_none m _ hm⟩
    by_cases h : index x [m] = -1
    · exact h
    · simp only [Lib.cut] at hc
      rw [if_pos (by omega)] at hc
      simp at hc
  | true =>
    obtain ⟨rfl, hm⟩ := cut_found m s x y hc
    right
    by_cases h : index (x ++ m :: y) [m] = -1
    · simp only [Lib.cut] at hc
      rw [if_neg (by omega)] at hc
      simp at hc
    · simp only [Lib.cut] at hc
      rw [if_pos (by omega)] at hc
      simp only [Prod.mk.injEq] at hc
      obtain ⟨h1, h2, _⟩ := hc
      have hlen : (index (x ++ m :: y) [m]).toNat = x.length := by
        have h3 := congrArg List.length h2
        have h4 := congrArg List.length h1
        simp at h3 h4
        omega
      refine ⟨x.length, by omega, by simp, ?_⟩
      rw [cutAll_found m x y hm]
      simp
theorem splitK_length (m : UInt8) : ∀ (k : Nat) (s : List UInt8), (splitK [m] 0 k s).length = min (k + 1) (cutAll m s).length
  | 0, s => by
    have := cutAll_ne m s
    cases h : cutAll m s with
    | nil => exact absurd h this
    | cons x r => simp [splitK]
  | k + 1, s => by
    rcases index_cut m s with ⟨hi, hc⟩ | ⟨i, hi, hl, hc⟩
    · rw [splitK, if_pos (by simp [hi]), hc]; simp
    · rw [splitK, if_neg (by rw [hi, beq_iff_eq]; omega), hc, hi]
      simp only [List.length_cons, Int.toNat_natCast, List.length_nil, Nat.zero_add]
      rw [splitK_length m k]
      omega
theorem splitK_cutAll (m : UInt8) : ∀ (k : Nat) (s : List UInt8), (cutAll m s).length ≤ k + 1 → splitK [m] 0 k s = cutAll m s
  | 0, s, h => by
    rcases index_cut m s with ⟨hi, hc⟩ | ⟨i, hi, hl, hc⟩
    · rw [hc]; rfl
    · rw [hc] at h
      have := cutAll_ne m (s.drop (i + 1))
      cases hh : cutAll m (s.drop (i + 1)) with
      | nil => exact absurd hh this
      | cons => rw [hh] at h; simp at h
  | k + 1, s, h => by
    rcases index_cut m s with ⟨hi, hc⟩ | ⟨i, hi, hl, hc⟩
    · rw [splitK, if_pos (by simp [hi]), hc]
    · rw [hc] at h
      rw [splitK, if_neg (by rw [hi, beq_iff_eq]; omega), hc, hi]
      simp only [List.length_cons, Int.toNat_natCast, List.length_nil, Nat.add_zero, Nat.zero_add] at h ⊢
      rw [splitK_cutAll m k _ (by omega)]
theorem cutAll_count (m : UInt8) (l : List UInt8) : (cutAll m l).length = l.count m + 1 := by
  induction l with
  | nil => rfl
  | cons b l ih =>
    by_cases h : b = m
    · subst h; rw [cutAll_mark]; simp [ih]
    · rw [cutAll_other m b l h, List.count_cons_of_ne (by simpa using h)]
      cases hc : cutAll m l with
      | nil => exact absurd hc (cutAll_ne m l)
      | cons x r => rw [hc] at ih; simpa [glue] using ih
/-- A text is its pieces with marks between them. -/
theorem cutAll_join (m : UInt8) (l : List UInt8) : join (cutAll m l) [m] = l := by
  induction l with
  | nil => rfl
  | cons b l ih =>
    by_cases h : b = m
    · subst h
      rw [cutAll_mark, join_cons]
      cases hc : cutAll b l with
      | nil => exact absurd hc (cutAll_ne b l)
      | cons x r =>
        rw [hc, join_cons] at ih
        simp [joinTail] at ih ⊢
        exact ih
    · rw [cutAll_other m b l h]
      cases hc : cutAll m l with
      | nil => exact absurd hc (cutAll_ne m l)
      | cons x r =>
        rw [hc, join_cons] at ih
        simp only [glue]
        rw [join_cons]
        simp [ih]

/-! ### Lists that are read of the pieces of a text -/
section
variable {α : Type} (read : List UInt8 → Option α)
def readAll : List (List UInt8) → Option (List α)
  | [] => some []
  | p :: r => match read p with
    | some x => match readAll r with
      | some xs => some (x :: xs)
      | none => none
    | none => none
theorem readAll_snoc (l : List (List UInt8)) (p : List UInt8) : readAll read (l ++ [p]) = (readAll read l).bind fun xs => (read p).map fun x => xs ++ [x] := by
  induction l with
  | nil => simp only [List.nil_append, readAll, Option.bind_some]; cases read p <;> rfl
  | cons a l ih =>
    simp only [List.cons_append, readAll]
    cases read a with
    | none => rfl
    | some x =>
      simp only [ih]
      cases readAll read l with
      | none => rfl
      | some xs => simp only [Option.bind_some]; cases read p <;> rfl
theorem readAll_next {l : List (List UInt8)} (k : Nat) (hk : k < l.length) {xs : List α} {x : α} (h : readAll read (l.take k) = some xs) (hx : read l[k] = some x) : readAll read (l.take (k + 1)) = some (xs ++ [x]) := by
  rw [List.take_succ_eq_append_getElem hk, readAll_snoc, h, hx]; rfl
theorem readAll_append_none (a b : List (List UInt8)) (h : readAll read a = none) : readAll read (a ++ b) = none := by
  induction a with
  | nil => cases h
  | cons c a ih =>
    simp only [readAll, List.cons_append] at h ⊢
    cases hc : read c with
    | none => rfl
    | some x =>
      rw [hc] at h
      simp only at h ⊢
      cases hr : readAll read a with
      | none => rw [ih hr]
      | some xs => rw [hr] at h; cases h
theorem readAll_stop {l : List (List UInt8)} (k : Nat) (hk : k < l.length) {xs : List α} (h : readAll read (l.take k) = some xs) (hx : read l[k] = none) : readAll read l = none := by
  have h0 : l = l.take (k + 1) ++ l.drop (k + 1) := (List.take_append_drop _ _).symm
  rw [h0]
  apply readAll_append_none
  rw [List.take_succ_eq_append_getElem hk, readAll_snoc, h, hx]; rfl
theorem readAll_length : ∀ (l : List (List UInt8)) (xs : List α), readAll read l = some xs → xs.length = l.length
  | [], xs, h => by simp [readAll] at h; subst h; rfl
  | p :: r, xs, h => by
    simp only [readAll] at h
    cases hp : read p with
    | none => rw [hp] at h; cases h
    | some x =>
      rw [hp] at h
      simp only at h
      cases hr : readAll read r with
      | none => rw [hr] at h; cases h
      | some ys => rw [hr] at h; simp at h; rw [← h, List.length_cons, List.length_cons, readAll_length r ys hr]
def none4 : List UInt8 := [110, 111, 110, 101]
/-- The list with a text. -/
def readList (s : List UInt8) : Option (List α) := if s = none4 then some [] else if 256 < (cutAll 44 s).length then none else readAll read (cutAll 44 s)
/-- What is read of a text leads back to it, where each piece leads back to itself. -/
theorem readAll_back (text : α → List UInt8) (hb : ∀ p x, read p = some x → text x = p) : ∀ (l : List (List UInt8)) (xs : List α), readAll read l = some xs → xs.map text = l
  | [], xs, h => by simp [readAll] at h; subst h; rfl
  | p :: r, xs, h => by
    simp only [readAll] at h
    cases hp : read p with
    | none => rw [hp] at h; cases h
    | some x =>
      rw [hp] at h
      simp only at h
      cases hr : readAll read r with
      | none => rw [hr] at h; cases h
      | some ys => rw [hr] at h; simp at h; rw [← h, List.map_cons, hb p x hp, readAll_back text hb r ys hr]
theorem readList_back (text : α → List UInt8) (hb : ∀ p x, read p = some x → text x = p) (s : List UInt8) (xs : List α) (h : readList read s = some xs) (hne : xs ≠ []) : join (xs.map text) [44] = s := by
  unfold readList at h
  split at h
  · injection h with h; exact absurd h.symm hne
  · split at h
    · cases h
    · rw [readAll_back read text hb _ _ h, cutAll_join]
end
end Go.Proofs.YticfmlohkfoccaaGreatDoor.Plain
