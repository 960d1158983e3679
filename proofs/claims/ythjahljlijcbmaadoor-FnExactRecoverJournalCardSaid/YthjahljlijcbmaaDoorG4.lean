/- The reference's JournalOf, walked: it returns Plain.answer of the lines, for every list of lines whose sizes do not add up beyond 2^40. -/
import Derived.Test.YthjahljlijcbmaaDoorG3
set_option linter.unusedVariables false
set_option linter.unusedSimpArgs false
namespace Go.Proofs.YthjahljlijcbmaaDoor
open Go.RowKit Go.Proofs.YthjahljlijcbmaaDoorW.PrintWords

theorem least_snoc (l : List ByteArray) (k : Nat) (h : k < l.length) : Plain.least (l.take (k + 1)) = Plain.least (l.take k) + (l[k].size + 3) := by
  rw [List.take_succ_eq_append_getElem h, Plain.least_append]; simp [Plain.least]
theorem nl_of (s : ByteArray) (j : Nat) (h : j < s.size) (e : s[j].toNat = 10) : Plain.nl s = true := by
  unfold Plain.nl
  rw [List.contains_iff_mem]
  have : s.data.toList[j]'(by simpa using h) = 10 := by
    apply UInt8.toNat_inj.1
    exact e
  rw [← this]
  exact List.getElem_mem _
theorem nl_none (s : ByteArray) (h : ∀ j (hj : j < s.size), ¬ s[j].toNat = 10) : Plain.nl s = false := by
  unfold Plain.nl
  rw [← Bool.not_eq_true, List.contains_iff_mem]
  intro hm
  obtain ⟨j, hj, e⟩ := List.getElem_of_mem hm
  refine h j (by simpa using hj) ?_
  have : s[j]'(by simpa using hj) = 10 := e
  rw [this]; rfl

/-- The lines before k have no newline, and take at most 16000 bytes. -/
def Good (l : List ByteArray) (k : Nat) : Prop := (∀ i (h : i < l.length), i < k → Plain.nl l[i] = false) ∧ Plain.least (l.take k) ≤ 16000
def Clear (s : ByteArray) (j : Nat) : Prop := ∀ i (h : i < s.size), i < j → ¬ s[i].toNat = 10

set_option maxHeartbeats 2000000 in
set_option maxRecDepth 100000 in
theorem spec_JournalOf (A0 : Option Addr) (c0 : Nat) (l : List ByteArray) (w : World) (hr0 : Kd.C Kd.string w A0 l.length l) (hc0 : l.length ≤ c0) (hm : Plain.least l ≤ 1099511627776) :
    Calls Tryd.prog 6 #[.slice A0 l.length c0] w fun e w' => e = .returned (.tuple #[.string (Plain.answer l).1, .bool (Plain.answer l).2]) ∧ Below w.heap.size w w' := by
  have HR := Lib.hid hr0; clear hr0
  have HM := Lib.hid hm; clear hm
  have hlen : l.length ≤ 1099511627776 := by have := Plain.length_least l; have := HM.out; omega
  go_enter Tryd.func6, Tryd.ntmps6
  go_wp2
  go_loopw [4, 5] (fun t i wr => ∃ k : Nat, k ≤ l.length ∧ i = .int .i64 k ∧ t = .int .i64 (Plain.least (l.take k)) ∧ Aside0 (Good l k) ∧ w = wr) (fun _ i _ => l.length - (intOf i).toNat)
  case atStart => exact ⟨0, Nat.zero_le _, rfl, rfl, ⟨fun i h hk => absurd hk (by omega), by simp [Plain.least]⟩, rfl⟩
  case round =>
    obtain ⟨k, hk, rfl, rfl, HG, rfl⟩ := hrel
    by_cases hlt : k < l.length
    · obtain ⟨ad, rfl, hcell⟩ := lines_cell HR.out (Below.refl _ _) k hlt
      have hg := HG.out.2
      have hsn := least_snoc l k hlt
      have hsz : l[k].size ≤ 1099511627776 := by
        have h1 := Plain.least_take_le l (k + 1)
        have := HM.out
        omega
      have HS := Lib.hid hsn; clear hsn
      generalize hT : Plain.least (l.take k) = T at *
      have HT := Lib.hid hT; clear hT
      by_cases hbig : 16000 < T + (l[k].size + 3)
      · go_wp2
        go_ret2
        have hL : 16000 < (Plain.jour l).1.size := by
          have h1 := Plain.least_take_le l (k + 1)
          have h2 := (Plain.jour_size l).1
          have := HS.out
          omega
        refine ⟨?_, Below.refl _ _⟩
        rw [Plain.answer_long l hL]
        rfl
      · go_wp2
        go_loopw [6] (fun j wr => ∃ m : Nat, m ≤ l[k].size ∧ j = .int .i64 m ∧ Aside0 (Clear l[k] m) ∧ w = wr) (fun j _ => l[k].size - (intOf j).toNat)
        case atStart => exact ⟨0, Nat.zero_le _, rfl, ⟨fun i h hk => absurd hk (by omega)⟩, rfl⟩
        case round =>
          obtain ⟨m, hm, rfl, HC, rfl⟩ := hrel
          by_cases hml : m < l[k].size
          · by_cases h10 : l[k][m].toNat = 10
            · have Hn := Lib.hid (nl_of l[k] m hml h10)
              have hb : ((l[k][m].toNat : Int) == 10) = true := by simp [h10]
              clear h10
              go_wp2
              go_ret2
              refine ⟨?_, Below.refl _ _⟩
              rw [Plain.answer_nl l l[k] (List.getElem_mem _) Hn.out]
              rfl
            · have hb : ((l[k][m].toNat : Int) == 10) = false := by simp; omega
              have HC2 : Aside0 (Clear l[k] (m + 1)) := ⟨fun i h hi => by
                by_cases e : i = m
                · subst e; exact h10
                · exact HC.out i h (by omega)⟩
              clear h10
              go_wp2
              go_roundw
              case rel => exact ⟨m + 1, by omega, by go_num, HC2, trivial⟩
              case measure => simp [intOf]; omega
          · have HG2 : Aside0 (Good l (k + 1)) := ⟨by
              refine ⟨fun i h hi => ?_, by have := HS.out; omega⟩
              by_cases e : i = k
              · subst e
                exact nl_none _ fun j hj => HC.out j hj (by omega)
              · exact HG.out.1 i h (by omega)⟩
            go_wp2
            go_roundw
            case rel => exact ⟨k + 1, by omega, by go_num, by rw [HS.out]; go_num, HG2, trivial⟩
            case measure => simp [intOf]; omega
    · have hkl : k = l.length := by omega
      subst hkl
      have hg := HG.out
      go_wp2_with fail
      refine (journal_calls _ _ l _ HR.out hc0 HM.out).mono ?_
      rintro e w1 ⟨rfl, hb1⟩
      have hn : ∀ s ∈ l, Plain.nl s = false := by
        intro s hs
        obtain ⟨i, hi, rfl⟩ := List.getElem_of_mem hs
        exact hg.1 i hi hi
      have HN := Lib.hid hn; clear hn
      have HB := Lib.hid hb1; clear hb1
      have hj2 : (Plain.jour l).1.size ≤ 9223372036854775807 := by
        have := (Plain.jour_size l).2
        have := HM.out
        omega
      clear hg
      by_cases hbig : 16000 < (Plain.jour l).1.size
      · go_wp2
        go_ret2
        refine ⟨?_, HB.out⟩
        rw [Plain.answer_long l hbig]
        rfl
      · go_wp2
        go_ret2
        refine ⟨?_, HB.out⟩
        rw [Plain.answer_good l HN.out hbig]
        rfl
end Go.Proofs.YthjahljlijcbmaaDoor
