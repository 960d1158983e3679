/- The law FnExactJournalOf, walked: for every list of lines it returns true, and what was there stays as it was. -/
import Derived.Test.YthjahljlijcbmaaDoorG6
import Derived.Test.YthjahljlijcbmaaDoorPFnExactJournalOfx1
import Derived.Test.YthjahljlijcbmaaDoorPFnExactJournalOfx6
import Derived.Test.YthjahljlijcbmaaDoorPFnExactJournalOfx39
set_option linter.unusedVariables false
set_option linter.unusedSimpArgs false
namespace Go.Proofs.YthjahljlijcbmaaDoor
open Go.RowKit Go.Proofs.YthjahljlijcbmaaDoorW.PrintWords
open PFnExactJournalOf (laws_szStringS.f laws_szStringS.l0 laws_szStringS.calls laws_toStringS.f laws_toStringS.l0 laws_toStringS.calls laws_eqStringS.f laws_eqStringS.l0 laws_eqStringS.calls)

theorem w64 {a : Int} (h0 : -9223372036854775808 ≤ a) (h1 : a ≤ 9223372036854775807) : wrap64 a = a := by unfold wrap64; omega

/-! ### szStringS -/
def total : List ByteArray → Nat
  | [] => 0
  | s :: l => s.size + total l
theorem total_take (l : List ByteArray) (k : Nat) (h : k < l.length) : total (l.take (k + 1)) = total (l.take k) + l[k].size := by
  rw [List.take_succ_eq_append_getElem h]
  have : ∀ a b : List ByteArray, total (a ++ b) = total a + total b := by
    intro a b
    induction a with
    | nil => simp [total]
    | cons s a ih => simp [total, ih]; omega
  rw [this]; simp [total]
theorem total_least (l : List ByteArray) : Plain.least l = total l + 3 * l.length := by
  induction l with
  | nil => rfl
  | cons s l ih => simp [Plain.least, total, ih]; omega
theorem sz_loop (l : List ByteArray) (hs : ∀ s ∈ l, s.size ≤ 9223372036854775807) (hl : l.length ≤ 9223372036854775807) (d : Nat) :
    ∀ (i k : Nat) (r : Int), i ≤ l.length → l.length - i = d → d < k → 0 ≤ r → r ≤ 1048576 →
      ∃ x, laws_szStringS.l0 k l r i = some x ∧ -1 ≤ x ∧ x ≤ 1048576 ∧ (0 ≤ x → x = r + (total (l.take i) : Int) - (total l : Int)) := by
  induction d with
  | zero =>
    intro i k r hi hd hk h0 h1
    obtain ⟨k, rfl⟩ : ∃ m, k = m + 1 := ⟨k - 1, by omega⟩
    have : i = l.length := by omega
    subst this
    refine ⟨r, ?_, by omega, by omega, fun _ => by rw [List.take_length]; omega⟩
    simp only [laws_szStringS.l0]
    rw [if_neg (by omega)]
  | succ d ih =>
    intro i k r hi hd hk h0 h1
    obtain ⟨k, rfl⟩ : ∃ m, k = m + 1 := ⟨k - 1, by omega⟩
    have hlt : i < l.length := by omega
    have hsz := hs _ (List.getElem_mem hlt)
    simp only [laws_szStringS.l0]
    rw [if_pos (by omega), if_pos (by omega), rd_get l i hlt, w64 (a := r - (l[i].size : Int)) (by omega) (by omega)]
    by_cases hneg : r - (l[i].size : Int) < 0
    · rw [if_pos hneg]
      exact ⟨-1, rfl, by omega, by omega, fun h => absurd h (by omega)⟩
    · rw [if_neg hneg, w64 (a := (i : Int) + 1) (by omega) (by omega)]
      obtain ⟨x, hx, hx0, hx1, hv⟩ := ih (i + 1) k (r - (l[i].size : Int)) (by omega) (by omega) (by omega) (by omega) (by omega)
      refine ⟨x, hx, hx0, hx1, fun h => ?_⟩
      have := hv h
      have := total_take l i hlt
      omega
theorem sz_f (l : List ByteArray) (hs : ∀ s ∈ l, s.size ≤ 9223372036854775807) (hl : l.length ≤ 9223372036854775807) :
    ∃ x, laws_szStringS.f (l.length + 1) l 1048576 = some x ∧ -9223372036854775808 ≤ x ∧ x ≤ 9223372036854775807 ∧ (0 ≤ x → l.length + total l ≤ 1048576) := by
  unfold laws_szStringS.f
  rw [w64 (a := 1048576 - (l.length : Int)) (by omega) (by omega)]
  by_cases hneg : 1048576 - (l.length : Int) < 0
  · rw [if_pos hneg]
    exact ⟨-1, rfl, by omega, by omega, fun h => absurd h (by omega)⟩
  · rw [if_neg hneg]
    obtain ⟨x, hx, hx0, hx1, hv⟩ := sz_loop l hs hl l.length 0 (l.length + 1) (1048576 - (l.length : Int)) (by omega) (by omega) (by omega) (by omega) (by omega)
    simp only [List.take_zero, total] at hv
    by_cases h : 0 ≤ x
    · have := hv h
      exact ⟨x, hx, by omega, by omega, fun _ => by omega⟩
    · exact ⟨x, hx, by omega, by omega, fun h' => absurd h' h⟩

/-! ### toStringS -/
theorem to_loop (l : List ByteArray) (hl : l.length ≤ 9223372036854775807) (d : Nat) : ∀ (i k : Nat), i ≤ l.length → l.length - i = d → d < k →
    laws_toStringS.l0 k l (l.take i ++ List.replicate (l.length - i) (⟨#[]⟩ : ByteArray)) i = some l := by
  induction d with
  | zero =>
    intro i k hi hd hk
    obtain ⟨k, rfl⟩ : ∃ m, k = m + 1 := ⟨k - 1, by omega⟩
    have : i = l.length := by omega
    subst this
    simp only [laws_toStringS.l0]
    rw [if_neg (by omega), List.take_length, Nat.sub_self, List.replicate_zero, List.append_nil]
  | succ d ih =>
    intro i k hi hd hk
    obtain ⟨k, rfl⟩ : ∃ m, k = m + 1 := ⟨k - 1, by omega⟩
    have hlt : i < l.length := by omega
    simp only [laws_toStringS.l0]
    rw [if_pos (by omega), if_pos (by omega), if_pos (by simp; omega), rd_get l i hlt, w64 (a := (i : Int) + 1) (by omega) (by omega), Int.toNat_natCast]
    have e : (l.take i ++ List.replicate (l.length - i) (⟨#[]⟩ : ByteArray)).set i l[i] = l.take (i + 1) ++ List.replicate (l.length - (i + 1)) (⟨#[]⟩ : ByteArray) := by
      rw [List.set_append_right _ _ (by simp; omega), List.take_succ_eq_append_getElem hlt]
      rw [show i - (l.take i).length = 0 from by simp; omega, show l.length - i = (l.length - (i + 1)) + 1 from by omega, List.replicate_succ]
      simp only [List.set_cons_zero, List.append_assoc, List.cons_append, List.nil_append]
    rw [e]
    exact ih (i + 1) k (by omega) (by omega) (by omega)
theorem to_f (l : List ByteArray) (hl : l.length ≤ 1048576) : laws_toStringS.f (l.length + 1) l = some l := by
  unfold laws_toStringS.f
  rw [if_pos (by omega), if_pos (by omega)]
  have := to_loop l (by omega) l.length 0 (l.length + 1) (by omega) (by omega) (by omega)
  simpa using this

/-! ### eqStringS -/
theorem eq_loop (l : List ByteArray) (hl : l.length ≤ 9223372036854775807) (d : Nat) : ∀ (i k : Nat), i ≤ l.length → l.length - i = d → d < k →
    laws_eqStringS.l0 k l l i = some true := by
  induction d with
  | zero =>
    intro i k hi hd hk
    obtain ⟨k, rfl⟩ : ∃ m, k = m + 1 := ⟨k - 1, by omega⟩
    simp only [laws_eqStringS.l0]
    rw [if_neg (by omega)]
  | succ d ih =>
    intro i k hi hd hk
    obtain ⟨k, rfl⟩ : ∃ m, k = m + 1 := ⟨k - 1, by omega⟩
    simp only [laws_eqStringS.l0]
    rw [if_pos (by omega), if_pos (by omega), if_pos (by omega), if_pos trivial, w64 (a := (i : Int) + 1) (by omega) (by omega)]
    exact ih (i + 1) k (by omega) (by omega) (by omega)
theorem eq_f (l : List ByteArray) (hl : l.length ≤ 1048576) : laws_eqStringS.f (l.length + 1) l l = some true := by
  unfold laws_eqStringS.f
  rw [if_pos rfl]
  exact eq_loop l (by omega) l.length 0 (l.length + 1) (by omega) (by omega) (by omega)

/-! ### The law -/
theorem read_made {w w' : World} {v : Value} {l : List ByteArray} (h : Kd.R Kd.string 9 w' w.heap.size (fun _ => True) v l) : ∃ A c, v = .slice A l.length c ∧ l.length ≤ c ∧ Kd.C Kd.string w' A l.length l := Kd.R_reads h

set_option maxHeartbeats 2000000 in
set_option maxRecDepth 100000 in
theorem law_calls (A0 : Option Addr) (c0 : Nat) (l : List ByteArray) (w : World) (hr0 : Kd.C Kd.string w A0 l.length l) (hc0 : l.length ≤ c0) (hs : ∀ s ∈ l, s.size ≤ 9223372036854775807) (hl : l.length ≤ 9223372036854775807) (hv : Vars w) :
    Calls Tryd.prog 3 #[.slice A0 l.length c0] w fun e w' => e = .returned (.bool true) ∧ Below w.heap.size w w' := by
  obtain ⟨x, hx, hx0, hx1, hxv⟩ := sz_f l hs hl
  have HX := Lib.hid hx; clear hx hs
  have HR := Lib.hid hr0; clear hr0
  have HV := Lib.hid hv; clear hv
  go_enter Tryd.func3, Tryd.ntmps3
  go_wp2_with fail
  refine (laws_szStringS.calls _ A0 c0 l 1048576 x _ HR.out hc0 HX.out).mono ?_
  rintro e w1 ⟨rfl, ⟨nd, rfl⟩⟩
  have HB : Hid (Below w.heap.size w (w.drewN nd)) := Lib.hid (pw_below_drewN (Below.refl _ _) nd)
  generalize w.drewN nd = W1 at *
  by_cases hneg : x < 0
  · go_wp2
    go_ret
    exact ⟨rfl, HB.out⟩
  · have hsum := hxv (by omega)
    clear hxv
    have hn : l.length ≤ 1048576 := by omega
    have HM : Hid (Plain.least l ≤ 1099511627776) := Lib.hid (by rw [total_least]; omega)
    clear hsum
    -- spec.JournalOf(toStringS(aLines))
    go_wp2_with fail
    refine (laws_toStringS.calls _ A0 c0 l l _ (Kd.C_below HR.out HB.out) hc0 (to_f l hn)).mono ?_
    rintro e w2 ⟨v2, rfl, hk2, hb2⟩
    obtain ⟨A2, c2, rfl, hc2, hr2⟩ := read_made hk2
    have HB2 := Lib.hid (below_then HB.out HB.out.size hb2)
    have HR2 := Lib.hid hr2
    clear hk2 hb2 hr2
    go_wp2_with fail
    refine (spec_JournalOf A2 c2 l _ HR2.out hc2 HM.out).mono ?_
    rintro e w3 ⟨rfl, hb3⟩
    have HB3 := Lib.hid (below_then HB2.out HB2.out.size hb3)
    clear hb3
    generalize hans : (Plain.answer l).1 = s at *
    generalize hok : (Plain.answer l).2 = b at *
    have Hans := Lib.hid hans
    have Hok := Lib.hid hok
    clear hans hok
    -- x0 := toStringS(aLines)
    go_wp2_with fail
    refine (laws_toStringS.calls _ A0 c0 l l _ (Kd.C_below HR.out HB3.out) hc0 (to_f l hn)).mono ?_
    rintro e w4 ⟨v4, rfl, hk4, hb4⟩
    obtain ⟨A4, c4, rfl, hc4, hr4⟩ := read_made hk4
    have HB4 := Lib.hid (below_then HB3.out HB3.out.size hb4)
    have HR4 := Lib.hid hr4
    clear hk4 hb4 hr4
    -- impl.JournalOf(x0)
    go_wp2_with fail
    have HI := Lib.hid (impl_JournalOf A4 c4 l _ HR4.out hc4 HM.out (HV.out.below HB4.out (Nat.le_refl _)))
    rw [Hans.out, Hok.out] at HI
    refine HI.out.mono ?_
    rintro e w5 ⟨rfl, hb5⟩
    have HB5 := Lib.hid (below_then HB4.out HB4.out.size hb5)
    have HR5 := Lib.hid (Kd.C_below HR4.out hb5)
    clear hb5 HI
    have hss : (s.toList != s.toList) = false := by simp
    have hbb : (b != b) = false := by simp
    go_wp2_with fail
    refine (laws_toStringS.calls _ A0 c0 l l _ (Kd.C_below HR.out HB5.out) hc0 (to_f l hn)).mono ?_
    rintro e w6 ⟨v6, rfl, hk6, hb6⟩
    obtain ⟨A6, c6, rfl, hc6, hr6⟩ := read_made hk6
    have HB6 := Lib.hid (below_then HB5.out HB5.out.size hb6)
    have HR6 := Lib.hid hr6
    have HR56 := Lib.hid (Kd.C_below HR5.out hb6)
    clear hk6 hb6 hr6
    go_wp2_with fail
    refine (laws_eqStringS.calls _ A4 c4 l A6 c6 l true _ HR56.out hc4 HR6.out hc6 (eq_f l hn)).mono ?_
    rintro e w7 ⟨rfl, hb7⟩
    have HB7 := Lib.hid (below_then HB6.out HB6.out.size hb7.below)
    clear hb7
    go_wp2
    go_ret
    exact ⟨rfl, HB7.out⟩
end Go.Proofs.YthjahljlijcbmaaDoor
