/- The program's journalLine and JournalOf, walked: JournalOf returns Plain.answer of the lines, for every list of lines whose sizes do not add up beyond 2^40, where the library's three tables and its one variable hold what they are laid with. -/
import Derived.Test.YthjahljlijcbmaaDoorG1
import Derived.Test.YthjahljlijcbmaaDoorG4
import Derived.Test.YthjahljlijcbmaaDoorPFnExactJournalOfx18
import Derived.Lib.LaidTab
import Derived.WalkSmall
set_option linter.unusedVariables false
set_option linter.unusedSimpArgs false
namespace Go.Proofs.YthjahljlijcbmaaDoor
open Go.RowKit Go.Proofs.YthjahljlijcbmaaDoorW.PrintWords
open PFnExactJournalOf (impl_CheckOf.f impl_CheckOf.l0 impl_CheckOf.calls impl_within.f)

/-! ### strings.Builder -/
theorem copyCheck_any (B b : Nat) (bs : List Value) (w : World) (h : Lib.IsBuilderF 36 5 B b bs w) :
    Calls Tryd.prog 28 #[.pointer (some ⟨b, 0, none⟩)] w fun e w' => e = .returned (.tuple #[]) ∧ (Lib.BuilderAtF 36 5 B b (.pointer (some ⟨b, 0, none⟩)) bs w' ∧ Below B w w') := by
  rcases h with h | h
  · refine (copyCheck_fresh b w h.cell0 h.shape h.frozen0).mono ?_
    rintro e w' ⟨rfl, rfl⟩
    exact ⟨rfl, h.used _, (Below.refl B w).setCell (p := ⟨b, 0, none⟩) h.1 _⟩
  · refine (copyCheck_used b w h.cell0).mono ?_
    rintro e w' ⟨rfl, rfl⟩
    exact ⟨rfl, h, Below.refl B _⟩

set_option maxHeartbeats 1000000 in
set_option maxRecDepth 100000 in
theorem write_any (B b : Nat) (bs : List Value) (s : ByteArray) (w : World) (h : Lib.IsBuilderF 36 5 B b bs w) (hlen : bs.length + s.size ≤ 140737488355328) (hBw : B ≤ w.heap.size) :
    Calls Tryd.prog 18 #[.pointer (some ⟨b, 0, none⟩), .string s] w fun e w' => e = .returned (.tuple #[.int .i64 s.size, .nilIface]) ∧ (Lib.IsBuilderF 36 5 B b (bs ++ Lib.strCells s) w' ∧ Below B w w') := by
  obtain ⟨i0, hi, hz0, hz1, hz2⟩ := info_parts infoByte
  go_enter Tryd.func18, Tryd.ntmps18
  go_wp2_with (go_at_call 28; refine (copyCheck_any B b bs _ h).mono ?_)
  rintro e w1 ⟨rfl, h1, hb1⟩
  obtain ⟨hB, v, hbk, hown, hne⟩ := h1
  have c0 : w1.cell? ⟨b, 0, none⟩ = some (.pointer (some ⟨b, 0, none⟩)) := by rw [Lib.cell_of_heap hbk]; rfl
  have c1 : w1.cell? ⟨b, 1, none⟩ = some v := by rw [Lib.cell_of_heap hbk]; rfl
  go_wp2_with (at_builtin; refine Lib.wpList_append_own_stringF _ rfl _ _ 34 9 rfl B 5 i0 Tryd.underlying34 Tryd.underlying9 hi hz0 hz1 hz2 _ _ _ rfl hown s rfl ?c3 ?c4 ?c5 ?_)
  case c3 => unfold maxLen; omega
  case c4 => omega
  case c5 => have := hb1.size; omega
  intro v' w2 hown' hgrow _
  have hlt : b < w1.heap.size := by
    rcases Nat.lt_or_ge b w1.heap.size with h' | h'
    · exact h'
    · simp [Array.getElem?_eq_none h'] at hbk
  have hb2 : w2.heap[b]? = some (.cells #[.pointer (some ⟨b, 0, none⟩), v] 36 (0, 0)) := by
    rw [hgrow.block b hlt (fun e => hne e.symm)]
    exact hbk
  have d0 : w2.cell? ⟨b, 0, none⟩ = some (.pointer (some ⟨b, 0, none⟩)) := by rw [Lib.cell_of_heap hb2]; rfl
  have d1 : w2.cell? ⟨b, 1, none⟩ = some v := by rw [Lib.cell_of_heap hb2]; rfl
  have f1 : w2.frozen? ⟨b, 1, none⟩ = false := Lib.frozen_of_heap hb2 1
  obtain ⟨ao, n', cap, rfl⟩ : ∃ ao n' cap, v' = .slice ao n' cap := by
    rcases hown'.2 with ⟨hv, _⟩ | ⟨g, cap, cur, fz, hv, _⟩
    · exact ⟨_, _, _, hv⟩
    · exact ⟨_, _, _, hv⟩
  go_wp2
  go_ret2
  refine ⟨rfl, Or.inr ?_, ?_⟩
  · exact Lib.BuilderAtF.put (T := 36) (e := 5) hB hb2 (bs' := bs ++ Lib.strCells s) (by simpa [Lib.strCells_length] using hown') (by decide)
  · exact (hb1.grown hgrow (by have := hb1.size; omega) (fun k hk => (hown.lt k hk).1)).setCell (p := ⟨b, 1, none⟩) hB _

/-! ### The library's variables -/
/-- What the library's variables hold. -/
def Vars (w : World) : Prop := (∃ m, w.cell? ⟨0, 0, none⟩ = some (.int .i64 m)) ∧ Lib.TabIs Tryd.prog w "internal/strconv.uint64pow10" .u64 Lib.pow10Tab
theorem pow10_at : Tryd.prog.globalNamed "internal/strconv.uint64pow10" = some 1 := by kernel_rfl
theorem Vars.lt {w : World} (h : Vars w) : 1 < w.heap.size := by
  have h2 := h.2
  unfold Lib.TabIs World.var? at h2
  rw [pow10_at] at h2
  simp only [Option.bind_some] at h2
  rcases Nat.lt_or_ge 1 w.heap.size with hl | hl
  · exact hl
  · rw [Array.getElem?_eq_none hl] at h2
    simp at h2
theorem Vars.below {B : Nat} {w W : World} (h : Vars w) (hb : Below B w W) (hB : w.heap.size ≤ B) : Vars W := by
  have hl := h.lt
  obtain ⟨⟨m, hm⟩, ht⟩ := h
  exact ⟨⟨m, (hb.cell (p := ⟨0, 0, none⟩) (by show 0 < B; omega)).trans hm⟩, var?_below hb pow10_at (by omega) ht⟩

/-! ### CheckOf, Decimal, journalLine -/
theorem checkOf_loop (s : ByteArray) (hs : s.size ≤ 1099511627776) (n : Int) (h0 : 0 ≤ n) (h1 : n < 65003) (d : Nat) :
    ∀ (i k : Nat), i ≤ s.size → s.size - i = d → d < k → impl_CheckOf.l0 k (Plain.chk n (s.data.toList.take i)) s (s.size : Int) i = some (Plain.chk n s.data.toList, true) := by
  induction d with
  | zero =>
    intro i k hi hd hk
    obtain ⟨k, rfl⟩ : ∃ m, k = m + 1 := ⟨k - 1, by omega⟩
    have : i = s.size := by omega
    subst this
    simp only [impl_CheckOf.l0]
    rw [if_neg (by omega), List.take_of_length_le (by simp)]
  | succ d ih =>
    intro i k hi hd hk
    obtain ⟨k, rfl⟩ : ∃ m, k = m + 1 := ⟨k - 1, by omega⟩
    have hlt : i < s.size := by omega
    have hl : i < s.data.toList.length := by simpa using hlt
    simp only [impl_CheckOf.l0]
    rw [if_pos (by omega), if_pos (by omega), if_pos (by omega), bt_get s i hlt]
    have hr := Plain.chk_range (s.data.toList.take i) n h0 h1
    have hb := (s.data.toList[i]'hl).toNat_lt
    have e1 : wrap64 ((i : Int) + 1) = ((i + 1 : Nat) : Int) := by unfold wrap64; omega
    have e2 : wrap64 (wrap64 (wrap64 (773 * Plain.chk n (s.data.toList.take i)) + wrap64 ((s.data.toList[i]'hl).toNat : Int)) + 89) = 773 * Plain.chk n (s.data.toList.take i) + ((s.data.toList[i]'hl).toNat : Int) + 89 := by
      unfold wrap64; omega
    rw [e1, e2, tmod_eq (by omega), ← Plain.chk_snoc, ← take_snoc _ i hl]
    exact ih (i + 1) k (by omega) (by omega) (by omega)
theorem checkOf_f (n : Int) (s : ByteArray) (h0 : 0 ≤ n) (h1 : n < 65003) (hs : s.size ≤ 1099511627776) : impl_CheckOf.f (s.size + 1) n s = some (Plain.chk n s.data.toList, true) := by
  have := checkOf_loop s hs n h0 h1 s.size 0 (s.size + 1) (by omega) (by omega) (by omega)
  unfold impl_CheckOf.f impl_within.f
  rw [if_pos h0, show decide (n ≤ 65002) = true from by simp; omega]
  simp only [Option.bind_some, if_true]
  simpa [show Plain.chk n [] = n from rfl] using this
theorem checkOf_calls (n : Int) (s : ByteArray) (h0 : 0 ≤ n) (h1 : n < 65003) (hs : s.size ≤ 1099511627776) (w : World) :
    Calls Tryd.prog 26 #[.int .i64 n, .string s] w fun e w' => e = .returned (.tuple #[.int .i64 (Plain.chk n s.data.toList), .bool true]) ∧ Drawn0 w w' :=
  impl_CheckOf.calls _ n s _ _ w (checkOf_f n s h0 h1 hs)

set_option maxHeartbeats 1000000 in
theorem decimal_calls (n : Int) (h0 : -9223372036854775808 ≤ n) (h1 : n ≤ 9223372036854775807) (w : World) (hv : Vars w) :
    Calls Tryd.prog 27 #[.int .i64 n] w fun e w' => e = .returned (.string (Plain.dec n)) ∧ Below w.heap.size w w' := by
  have HV := Lib.hid hv; clear hv
  go_enter Tryd.func27, Tryd.ntmps27
  go_wp2_with fail
  refine (Tryd.strconv_FormatInt_10 n h0 h1 _ HV.out.2).mono ?_
  rintro e w' ⟨rfl, k, os, rfl⟩
  have hb : Below w.heap.size w (Go.Sort.grow (w.drewN k) os) :=
    ⟨rfl, rfl, rfl, by simp [Go.Sort.grow], fun i hi => by simp only [Go.Sort.grow]; rw [Array.getElem?_append_left (show i < (w.drewN k).heap.size from hi)]; rfl⟩
  clear h0 h1
  generalize Go.Sort.grow (w.drewN k) os = w1 at *
  go_wp2
  go_ret
  exact ⟨rfl, hb⟩

set_option maxHeartbeats 1000000 in
set_option maxRecDepth 100000 in
theorem journalLine_calls (n : Int) (s : ByteArray) (h0 : 0 ≤ n) (h1 : n < 65003) (hs : s.size ≤ 1099511627776) (w : World) (hv : Vars w) :
    Calls Tryd.prog 17 #[.int .i64 n, .string s] w fun e w' => e = .returned (.tuple #[.string (Plain.jline (Plain.chk n s.data.toList) s), .int .i64 (Plain.chk n s.data.toList)]) ∧ Below w.heap.size w w' := by
  have HV := Lib.hid hv; clear hv
  have hq := Plain.chk_range s.data.toList n h0 h1
  obtain ⟨hq0, hq1⟩ := hq
  have HC := Lib.hid (fun W => checkOf_calls n s h0 h1 hs W)
  generalize Plain.chk n s.data.toList = n' at *
  go_enter Tryd.func17, Tryd.ntmps17
  go_wp2_with fail
  refine (HC.out _).mono ?_
  rintro e w1 ⟨rfl, ⟨nd, rfl⟩⟩
  have HB1 : Hid (Below w.heap.size w (w.drewN nd)) := Lib.hid (pw_below_drewN (Below.refl _ _) nd)
  go_wp2_with fail
  have hv1 := Lib.hid (HV.out.below HB1.out (Nat.le_refl _))
  generalize hW : w.drewN nd = W1 at *
  clear hW
  refine (decimal_calls n' (by omega) (by omega) _ hv1.out).mono ?_
  rintro e w2 ⟨rfl, hb2⟩
  have HB2 := Lib.hid (below_then HB1.out HB1.out.size hb2)
  have hdb := Plain.dec_bounds n' hq0 hq1
  have Hl := Lib.hid (show Plain.jline n' s = ((Plain.dec n' ++ ⟨#[32]⟩) ++ s) ++ ⟨#[10]⟩ from rfl)
  generalize hdn : Plain.dec n' = dn at *
  clear hdn
  have x1 : dn.size + 1 ≤ 9223372036854775807 := by omega
  have x2 : dn.size + 1 + s.size ≤ 9223372036854775807 := by omega
  have x3 : dn.size + 1 + s.size + 1 ≤ 9223372036854775807 := by omega
  clear hdb hq0 hq1 h0 h1 hs HC
  have gx1 := eq_true x1; have gx2 := eq_true x2; have gx3 := eq_true x3
  have dx1 := decide_eq_true x1; have dx2 := decide_eq_true x2; have dx3 := decide_eq_true x3
  have nx1 := eq_false (Nat.not_lt.2 x1); have nx2 := eq_false (Nat.not_lt.2 x2); have nx3 := eq_false (Nat.not_lt.2 x3)
  clear x1 x2 x3
  go_wp2
  go_ret2
  refine ⟨?_, HB2.out⟩
  rw [Hl.out]
  rfl
end Go.Proofs.YthjahljlijcbmaaDoor
