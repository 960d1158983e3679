/- Plain laws on recovering a journal: lines, cuts at a blank, and that the reference's way and the program's way find the same lines: in plain Lean, no program in sight, no condition. -/
import Derived.Test.YthjahljlijcbmaaDoorG0
import Derived.Lib.IndexMore
set_option linter.unusedVariables false
set_option linter.unusedSimpArgs false
namespace Go.Proofs.YthjahljlijcbmaaDoor.Plain
open Go Go.Lib

/-- All pieces between marks. -/
def cutAll (m : UInt8) : List UInt8 → List (List UInt8)
  | [] => [[]]
  | b :: l => if b = m then [] :: cutAll m l else match cutAll m l with
    | [] => [[b]]
    | x :: r => (b :: x) :: r
theorem cutAll_ne (m : UInt8) (l : List UInt8) : cutAll m l ≠ [] := by
  cases l with
  | nil => simp [cutAll]
  | cons b l =>
    simp only [cutAll]
    split
    · simp
    · split <;> simp
def glue (p : List UInt8) : List (List UInt8) → List (List UInt8)
  | [] => [p]
  | x :: r => (p ++ x) :: r
theorem glue_glue (p q : List UInt8) (xs : List (List UInt8)) : glue p (glue q xs) = glue (p ++ q) xs := by cases xs <;> simp [glue]
theorem glue_nil (xs : List (List UInt8)) (h : xs ≠ []) : glue [] xs = xs := by cases xs <;> simp_all [glue]
theorem cutAll_other (m b : UInt8) (l : List UInt8) (h : b ≠ m) : cutAll m (b :: l) = glue [b] (cutAll m l) := by
  simp only [cutAll, if_neg h]
  cases hc : cutAll m l <;> simp [glue]
theorem cutAll_mark (m : UInt8) (l : List UInt8) : cutAll m (m :: l) = [] :: cutAll m l := by simp [cutAll]
/-- The lines that are ended. -/
def lns (l : List UInt8) : List (List UInt8) := (cutAll 10 l).dropLast
theorem cutAll_length (m : UInt8) (l : List UInt8) : (cutAll m l).length ≤ l.length + 1 := by
  induction l with
  | nil => simp [cutAll]
  | cons b l ih =>
    simp only [cutAll]
    split
    · simp; omega
    · split <;> simp_all
      omega

/-- Lib.cut at one byte, byte by byte. -/
theorem cut_nil (m : UInt8) : Lib.cut [] [m] = ([], [], false) := by simp [Lib.cut, Lib.index]
theorem cut_cons (m b : UInt8) (l : List UInt8) : Lib.cut (b :: l) [m] = if b = m then ([], l, true) else (b :: (Lib.cut l [m]).1, (Lib.cut l [m]).2.1, (Lib.cut l [m]).2.2) := by
  have hi := Lib.index_ge l [m]
  by_cases h : b = m
  · subst h
    simp [Lib.cut, Lib.index]
  · have h' : ¬ m = b := fun e => h e.symm
    rw [if_neg h]
    have hidx : Lib.index (b :: l) [m] = if Lib.index l [m] == -1 then -1 else Lib.index l [m] + 1 := by
      simp only [Lib.index]
      rw [if_neg (by simp [h'])]
    by_cases hx : Lib.index l [m] = -1
    · have e : Lib.index (b :: l) [m] = -1 := by rw [hidx, if_pos (by simp [hx])]
      simp [Lib.cut, e, hx]
    · have e : Lib.index (b :: l) [m] = Lib.index l [m] + 1 := by rw [hidx, if_neg (by simp [hx])]
      simp only [Lib.cut, e]
      rw [if_pos (by omega), if_pos (by omega)]
      rw [show (Lib.index l [m] + 1).toNat = (Lib.index l [m]).toNat + 1 from by omega]
      simp

theorem cut_found (m : UInt8) : ∀ (l x y : List UInt8), Lib.cut l [m] = (x, y, true) → l = x ++ m :: y ∧ m ∉ x
  | [], x, y, h => by rw [cut_nil] at h; simp at h
  | b :: l, x, y, h => by
    rw [cut_cons] at h
    by_cases e : b = m
    · rw [if_pos e] at h
      simp only [Prod.mk.injEq] at h
      obtain ⟨rfl, rfl, _⟩ := h
      subst e
      simp
    · rw [if_neg e] at h
      simp only [Prod.mk.injEq] at h
      obtain ⟨rfl, rfl, h3⟩ := h
      obtain ⟨h1, h2⟩ := cut_found m l _ _ (show Lib.cut l [m] = ((Lib.cut l [m]).1, (Lib.cut l [m]).2.1, true) by rw [← h3])
      refine ⟨by rw [List.cons_append, ← h1], ?_⟩
      rw [List.mem_cons]
      rintro (rfl | hm)
      · exact e rfl
      · exact h2 hm
theorem cut_none (m : UInt8) : ∀ (l x y : List UInt8), Lib.cut l [m] = (x, y, false) → x = l ∧ y = [] ∧ m ∉ l
  | [], x, y, h => by rw [cut_nil] at h; simp at h; simp [h]
  | b :: l, x, y, h => by
    rw [cut_cons] at h
    by_cases e : b = m
    · rw [if_pos e] at h
      simp at h
    · rw [if_neg e] at h
      simp only [Prod.mk.injEq] at h
      obtain ⟨rfl, rfl, h3⟩ := h
      obtain ⟨h1, h2, h4⟩ := cut_none m l _ _ (show Lib.cut l [m] = ((Lib.cut l [m]).1, (Lib.cut l [m]).2.1, false) by rw [← h3])
      refine ⟨by rw [h1], h2, ?_⟩
      rw [List.mem_cons]
      rintro (rfl | hm)
      · exact e rfl
      · exact h4 hm
theorem cutAll_none (m : UInt8) : ∀ l, m ∉ l → cutAll m l = [l]
  | [], _ => rfl
  | b :: l, h => by
    rw [List.mem_cons, not_or] at h
    rw [cutAll_other m b l (fun e => h.1 e.symm), cutAll_none m l h.2]
    rfl
theorem cutAll_found (m : UInt8) : ∀ x y, m ∉ x → cutAll m (x ++ m :: y) = x :: cutAll m y
  | [], y, _ => cutAll_mark m y
  | b :: x, y, h => by
    rw [List.mem_cons, not_or] at h
    rw [List.cons_append, cutAll_other m b _ (fun e => h.1 e.symm), cutAll_found m x y h.2]
    rfl
theorem lns_none {l : List UInt8} (h : 10 ∉ l) : lns l = [] := by unfold lns; rw [cutAll_none 10 l h]; rfl
theorem lns_found {x y : List UInt8} (h : 10 ∉ x) : lns (x ++ 10 :: y) = x :: lns y := by
  unfold lns
  rw [cutAll_found 10 x y h, List.dropLast_cons_of_ne_nil (cutAll_ne 10 y)]

/-- What is recovered of lines: the lines, and how many bytes they take. -/
def recov (n : Int) : List (List UInt8) → List (List UInt8) × Nat
  | [] => ([], 0)
  | s :: r => match Lib.cut s [32] with
    | (p, q, true) => if p = itoa (chk n q) then (q :: (recov (chk n q) r).1, (recov (chk n q) r).2 + (s.length + 1)) else ([], 0)
    | (_, _, false) => ([], 0)

theorem digit_range (d : Nat) : UInt8.ofNat (48 + d % 10) ≠ 10 ∧ UInt8.ofNat (48 + d % 10) ≠ 32 := by
  have h : ∀ e : Nat, e < 10 → UInt8.ofNat (48 + e) ≠ 10 ∧ UInt8.ofNat (48 + e) ≠ 32 := by decide
  exact h _ (Nat.mod_lt _ (by decide))
theorem decDigits_plain (u : Nat) : 10 ∉ decDigits u ∧ 32 ∉ decDigits u := by
  induction u using Nat.strongRecOn with
  | _ u ih =>
    rw [decDigits]
    have hd := digit_range u
    split
    · rename_i h
      rw [show u % 10 = u from by omega] at hd
      simp only [List.mem_singleton]
      exact ⟨fun e => hd.1 e.symm, fun e => hd.2 e.symm⟩
    · have := ih (u / 10) (by omega)
      simp only [List.mem_append, List.mem_singleton, not_or]
      exact ⟨⟨this.1, fun e => hd.1 e.symm⟩, ⟨this.2, fun e => hd.2 e.symm⟩⟩
theorem itoa_plain (n : Int) (h0 : 0 ≤ n) : 10 ∉ itoa n ∧ 32 ∉ itoa n := by
  unfold itoa
  rw [if_neg (by omega)]
  exact decDigits_plain _

theorem prefix_line {w x y : List UInt8} (hw : 10 ∉ w) (hx : 10 ∉ x) (h : w ++ [10] <+: x ++ 10 :: y) : w = x := by
  induction w generalizing x with
  | nil =>
    cases x with
    | nil => rfl
    | cons a x =>
      obtain ⟨t, ht⟩ := h
      simp at ht
      exact absurd (by rw [← ht.1]; simp) hx
  | cons a w ih =>
    cases x with
    | nil =>
      obtain ⟨t, ht⟩ := h
      simp at ht
      exact absurd (by rw [ht.1]; simp) hw
    | cons b x =>
      obtain ⟨t, ht⟩ := h
      simp only [List.cons_append, List.cons.injEq] at ht
      obtain ⟨rfl, ht⟩ := ht
      rw [ih (fun hm => hw (List.mem_cons_of_mem _ hm)) (fun hm => hx (List.mem_cons_of_mem _ hm)) ⟨t, ht⟩]

/-- The line that the program writes anew. -/
def anew (n : Int) (x : List UInt8) : List UInt8 := itoa (chk n (Lib.cut x [32]).2.1) ++ 32 :: (Lib.cut x [32]).2.1 ++ [10]
theorem anew_last (n : Int) (h0 : 0 ≤ n) (h1 : n < 65003) {x : List UInt8} (hx : 10 ∉ x) : ∃ w, anew n x = w ++ [10] ∧ 10 ∉ w ∧ w = itoa (chk n (Lib.cut x [32]).2.1) ++ 32 :: (Lib.cut x [32]).2.1 := by
  refine ⟨_, rfl, ?_, rfl⟩
  have hr := chk_range (Lib.cut x [32]).2.1 n h0 h1
  have hq : 10 ∉ (Lib.cut x [32]).2.1 := by
    rcases hc : Lib.cut x [32] with ⟨p, q, b⟩
    cases b with
    | true =>
      have := (cut_found 32 x p q hc).1
      intro hm
      exact hx (by rw [this]; simp [hm])
    | false =>
      have := (cut_none 32 x p q hc).2.1
      rw [this]; simp
  simp only [List.mem_append, List.mem_cons, not_or]
  exact ⟨(itoa_plain _ hr.1).1, by decide, hq⟩
/-- THE PROGRAM GOES ON: the line is one of a journal. -/
theorem goes_on (n : Int) (h0 : 0 ≤ n) (h1 : n < 65003) (u x y : List UInt8) (hc : Lib.cut u [10] = (x, y, true)) (hp : anew n x <+: u) :
    recov n (lns u) = ((Lib.cut x [32]).2.1 :: (recov (chk n (Lib.cut x [32]).2.1) (lns (u.drop (anew n x).length))).1, (recov (chk n (Lib.cut x [32]).2.1) (lns (u.drop (anew n x).length))).2 + (anew n x).length) := by
  obtain ⟨hu, hx⟩ := cut_found 10 u x y hc
  subst hu
  obtain ⟨w, hw, hwn, he⟩ := anew_last n h0 h1 hx
  rw [hw] at hp ⊢
  have := prefix_line hwn hx hp
  subst this
  have hr := chk_range (Lib.cut w [32]).2.1 n h0 h1
  have hdr : List.drop (w ++ [(10 : UInt8)]).length (w ++ (10 : UInt8) :: y) = y := by simp
  rw [lns_found hx, hdr]
  have hcut : Lib.cut w [32] = (itoa (chk n (Lib.cut w [32]).2.1), (Lib.cut w [32]).2.1, true) := by
    rcases hcc : Lib.cut w [32] with ⟨p, q, b⟩
    rw [hcc] at he
    cases b with
    | true =>
      obtain ⟨h2, h3⟩ := cut_found 32 w p q hcc
      have hpp : p = itoa (chk n q) := by
        have hr2 := chk_range q n h0 h1
        have e : p ++ 32 :: q = itoa (chk n q) ++ 32 :: q := by rw [← h2]; exact he
        exact List.append_cancel_right e
      rw [hpp]
    | false =>
      obtain ⟨_, _, h4⟩ := cut_none 32 w p q hcc
      exact absurd (by rw [he]; simp) h4
  simp only [recov]
  rw [hcut]
  simp only [if_true]
  simp
/-- THE PROGRAM STOPS: so does the reference. -/
theorem stops (n : Int) (h0 : 0 ≤ n) (h1 : n < 65003) (u : List UInt8) (h : ¬ ((Lib.cut u [10]).2.2 = true ∧ anew n (Lib.cut u [10]).1 <+: u)) : recov n (lns u) = ([], 0) := by
  rcases hc : Lib.cut u [10] with ⟨x, y, b⟩
  rw [hc] at h
  cases b with
  | false =>
    rw [lns_none (cut_none 10 u x y hc).2.2]
    rfl
  | true =>
    obtain ⟨hu, hx⟩ := cut_found 10 u x y hc
    have hnp : ¬ anew n x <+: u := fun hp => h ⟨rfl, hp⟩
    subst hu
    rw [lns_found hx]
    simp only [recov]
    rcases hcc : Lib.cut x [32] with ⟨p, q, b⟩
    cases b with
    | false => rfl
    | true =>
      obtain ⟨h2, h3⟩ := cut_found 32 x p q hcc
      simp only
      rw [if_neg]
      rintro rfl
      apply hnp
      unfold anew
      rw [hcc]
      exact ⟨y, by simp [h2]⟩
end Go.Proofs.YthjahljlijcbmaaDoor.Plain
