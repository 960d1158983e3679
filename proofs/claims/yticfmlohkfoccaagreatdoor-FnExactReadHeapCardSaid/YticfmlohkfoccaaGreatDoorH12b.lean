/- Plain laws that lead a grain's numbers back to its text: no program in sight. -/
import Derived.Test.YticfmlohkfoccaaGreatDoorH12
set_option linter.unusedVariables false
set_option linter.unusedSimpArgs false
namespace Go.Proofs.YticfmlohkfoccaaGreatDoor

theorem num8_text {p : List UInt8} {n : Nat} (h : num8 p = some n) : n < 4294967296 ∧ textF n = p := by
  obtain ⟨h1, h2, h3, h4, h5⟩ := num8_lt h
  exact ⟨h1, by unfold textF; rw [h2, h5]⟩
theorem readC_text {p : List UInt8} {x : Nat × Nat} (h : readC p = some x) : (x.1 < 4294967296 ∧ x.2 < 4294967296) ∧ textC x = p := by
  unfold readC at h
  split at h
  · cases h1 : num8 (p.take 8) with
    | none => rw [h1] at h; cases h
    | some a =>
      rw [h1] at h
      cases h2 : num8 (p.drop 8) with
      | none => rw [h2] at h; cases h
      | some b =>
        rw [h2] at h
        injection h with h
        subst h
        obtain ⟨a1, a2⟩ := num8_text h1
        obtain ⟨b1, b2⟩ := num8_text h2
        exact ⟨⟨a1, b1⟩, by unfold textC; rw [a2, b2, List.take_append_drop]⟩
  · cases h
theorem readAll_mem {α : Type} {read : List UInt8 → Option α} : ∀ (l : List (List UInt8)) (xs : List α), Plain.readAll read l = some xs → ∀ x ∈ xs, ∃ p, read p = some x
  | [], xs, h, x, hx => by simp [Plain.readAll] at h; subst h; cases hx
  | p :: r, xs, h, x, hx => by
    simp only [Plain.readAll] at h
    cases hp : read p with
    | none => rw [hp] at h; cases h
    | some y =>
      rw [hp] at h
      simp only at h
      cases hr : Plain.readAll read r with
      | none => rw [hr] at h; cases h
      | some ys =>
        rw [hr] at h
        injection h with h
        subst h
        rcases List.mem_cons.1 hx with rfl | hx
        · exact ⟨p, hp⟩
        · exact readAll_mem r ys hr x hx
theorem readList_mem {α : Type} {read : List UInt8 → Option α} (s : List UInt8) (xs : List α) (h : Plain.readList read s = some xs) : ∀ x ∈ xs, ∃ p, read p = some x := by
  unfold Plain.readList at h
  split at h
  · injection h with h; subst h; intro x hx; cases hx
  · split at h
    · cases h
    · exact readAll_mem _ _ h
theorem placesOf {s : List UInt8} {x y : Nat × Nat} (h : Plain.readList readC s = some [x, y]) : (x.1 < 4294967296 ∧ x.2 < 4294967296 ∧ y.1 < 4294967296 ∧ y.2 < 4294967296) ∧ Lib.join [textC x, textC y] [44] = s := by
  obtain ⟨p, hp⟩ := readList_mem s _ h x (by simp)
  obtain ⟨q, hq⟩ := readList_mem s _ h y (by simp)
  have h1 := (readC_text hp).1
  have h2 := (readC_text hq).1
  exact ⟨⟨h1.1, h1.2, h2.1, h2.2⟩, Plain.readList_back readC textC (fun p x h => (readC_text h).2) s _ h (by simp)⟩
theorem numbersOf {s : List UInt8} {r m u v : Nat} (h : Plain.readList num8 s = some [r, m, u, v]) : (r < 4294967296 ∧ m < 4294967296 ∧ u < 4294967296 ∧ v < 4294967296) ∧ Lib.join [textF r, textF m, textF u, textF v] [44] = s := by
  have hm := readList_mem s _ h
  obtain ⟨p1, h1⟩ := hm r (by simp)
  obtain ⟨p2, h2⟩ := hm m (by simp)
  obtain ⟨p3, h3⟩ := hm u (by simp)
  obtain ⟨p4, h4⟩ := hm v (by simp)
  exact ⟨⟨(num8_text h1).1, (num8_text h2).1, (num8_text h3).1, (num8_text h4).1⟩, Plain.readList_back num8 textF (fun p x h => (num8_text h).2) s _ h (by simp)⟩
end Go.Proofs.YticfmlohkfoccaaGreatDoor
