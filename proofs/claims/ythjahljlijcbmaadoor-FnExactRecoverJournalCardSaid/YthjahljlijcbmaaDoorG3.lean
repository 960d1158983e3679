/- The reference's l08Journal and JournalOf, walked: what they return, for every list of lines whose sizes do not add up beyond 2^40. -/
import Derived.Test.YthjahljlijcbmaaDoorG2
import Derived.Deep.LoopGhost
set_option linter.unusedVariables false
set_option linter.unusedSimpArgs false
namespace Go.Proofs.YthjahljlijcbmaaDoor
open Go.RowKit Go.Proofs.YthjahljlijcbmaaDoorW.PrintWords
open PFnExactJournalOf (spec_l01Check.calls spec_l01Dec.calls)

theorem check_calls (n : Int) (s : ByteArray) (h0 : 0 ≤ n) (h1 : n < 65003) (hs : s.size ≤ 1099511627776) (w : World) :
    Calls Tryd.prog 23 #[.int .i64 n, .string s] w fun e w' => e = .returned (.int .i64 (Plain.chk n s.data.toList)) ∧ Drawn0 w w' :=
  spec_l01Check.calls _ n s _ w (check_f n s h0 h1 hs)
theorem dec_calls (n : Int) (h0 : 0 ≤ n) (h1 : n < 65003) (w : World) :
    Calls Tryd.prog 24 #[.int .i64 n] w fun e w' => e = .returned (.string (Plain.dec n)) ∧ Below w.heap.size w w' :=
  spec_l01Dec.calls _ n _ w (dec_f n h0 h1)

theorem below_more {w W W2 : World} (h : Aside0 (Below w.heap.size w W)) (k : Below W.heap.size W W2) : Aside0 (Below w.heap.size w W2) := ⟨below_then h.out h.out.size k⟩
theorem below_drawn {w W : World} (h : Aside0 (Below w.heap.size w W)) : Aside0 (Below w.heap.size w W.drew) := ⟨below_drew h.out⟩
theorem rd_get (l : List ByteArray) (i : Nat) (h : i < l.length) : rdOf ByteArray.empty l (i : Int) = l[i] := by
  simp [rdOf, List.getD_eq_getElem?_getD, List.getElem?_eq_getElem h]
theorem lines_cell {w W : World} {A : Option Addr} {l : List ByteArray} (hr : Kd.C Kd.string w A l.length l) (hb : Below w.heap.size w W) (i : Nat) (h : i < l.length) :
    ∃ ad, A = some ad ∧ W.cell? (ad.add i) = some (.string l[i]) := by
  obtain ⟨ad, e, hc⟩ := Kd.at_string hr (i : Int) (by omega) (by omega)
  rw [rd_get l i h] at hc
  exact ⟨ad, e, pw_cell_below hb (by simpa using hc)⟩

set_option maxHeartbeats 2000000 in
set_option maxRecDepth 100000 in
theorem journal_calls (A0 : Option Addr) (c0 : Nat) (l : List ByteArray) (w : World) (hr0 : Kd.C Kd.string w A0 l.length l) (hc0 : l.length ≤ c0) (hm : Plain.least l ≤ 1099511627776) :
    Calls Tryd.prog 14 #[.slice A0 l.length c0] w fun e w' => e = .returned (.string (Plain.jour l).1) ∧ Below w.heap.size w w' := by
  have HR := Lib.hid hr0; clear hr0
  have HM := Lib.hid hm; clear hm
  have hlen : l.length ≤ 1099511627776 := by have := Plain.length_least l; have := HM.out; omega
  go_enter Tryd.func14, Tryd.ntmps14
  go_wp2
  go_loopw [3, 4, 5] (fun o n i wr => ∃ k : Nat, k ≤ l.length ∧ i = .int .i64 k ∧ o = .string (Plain.jour (l.take k)).1 ∧ n = .int .i64 (Plain.jour (l.take k)).2 ∧ Aside0 (Below w.heap.size w wr)) (fun _ _ i _ => l.length - (intOf i).toNat)
  case atStart => exact ⟨0, Nat.zero_le _, rfl, rfl, rfl, ⟨Below.refl _ _⟩⟩
  case round =>
    obtain ⟨k, hk, rfl, rfl, rfl, HB⟩ := hrel
    have hr := Plain.jour_range (l.take k)
    obtain ⟨hr0, hr1⟩ := hr
    by_cases hlt : k < l.length
    · obtain ⟨ad, rfl, hcell⟩ := lines_cell HR.out HB.out k hlt
      have hj := Plain.jour_mono l k
      have hs2 := (Plain.jour_size l).2
      have hsz : l[k].size ≤ 1099511627776 := by
        have h1 := Plain.least_take_le l (k + 1)
        rw [List.take_succ_eq_append_getElem hlt, Plain.least_append] at h1
        simp only [Plain.least] at h1
        have := HM.out
        omega
      have Hjt := Lib.hid (Plain.jour_take l k hlt)
      go_wp2_with fail
      refine (check_calls _ _ hr0 hr1 hsz _).mono ?_
      rintro e w1 ⟨rfl, ⟨nd, rfl⟩⟩
      have hq := Plain.chk_range l[k].data.toList _ hr0 hr1
      generalize hn' : Plain.chk (Plain.jour (List.take k l)).2 l[k].data.toList = n' at *
      have Hn := Lib.hid hn'; clear hn'
      obtain ⟨hq0, hq1⟩ := hq
      have Hd : Hid (∀ W, Calls Tryd.prog 24 #[.int .i64 n'] W fun e w' => e = .returned (.string (Plain.dec n')) ∧ Below W.heap.size W w') := Lib.hid (fun W => dec_calls n' hq0 hq1 W)
      have hdb := Plain.dec_bounds n' hq0 hq1
      have Hl := Lib.hid (show Plain.jline n' l[k] = ((Plain.dec n' ++ ⟨#[32]⟩) ++ l[k]) ++ ⟨#[10]⟩ from rfl)
      have HB2 : Aside0 (Below w.heap.size w (wr.drewN nd)) := ⟨pw_below_drewN HB.out nd⟩
      clear HB
      generalize hdn : Plain.dec n' = dn at *
      clear hdn
      generalize hW : wr.drewN nd = W1 at *
      clear hW hcell
      obtain ⟨ad', e', hcell1⟩ := lines_cell HR.out HB2.out k hlt
      cases e'
      go_wp2_with fail
      have z1 : (⟨#[32]⟩ : ByteArray).size = 1 := rfl
      have z2 : (⟨#[10]⟩ : ByteArray).size = 1 := rfl
      have hjk : (Plain.jour (l.take k)).1.size ≤ 109951162777600 := by have := HM.out; omega
      have f1 : dn.size + 1 ≤ 9223372036854775807 := by omega
      have f2 : (dn ++ ⟨#[32]⟩).size + l[k].size ≤ 9223372036854775807 := by rw [ByteArray.size_append]; omega
      have f3 : ((dn ++ ⟨#[32]⟩) ++ l[k]).size + 1 ≤ 9223372036854775807 := by rw [ByteArray.size_append, ByteArray.size_append]; omega
      have f4 : (Plain.jour (l.take k)).1.size + (((dn ++ ⟨#[32]⟩) ++ l[k]) ++ ⟨#[10]⟩).size ≤ 9223372036854775807 := by rw [ByteArray.size_append, ByteArray.size_append, ByteArray.size_append]; omega
      have x2 : dn.size + 1 + l[k].size ≤ 9223372036854775807 := by omega
      have x3 : dn.size + 1 + l[k].size + 1 ≤ 9223372036854775807 := by omega
      have x4 : (Plain.jour (l.take k)).1.size + (dn.size + 1 + l[k].size + 1) ≤ 9223372036854775807 := by omega
      clear z1 z2 hjk hj hs2 hsz hdb
      have gx2 := eq_true x2; have gx3 := eq_true x3; have gx4 := eq_true x4
      have dx2 := decide_eq_true x2; have dx3 := decide_eq_true x3; have dx4 := decide_eq_true x4
      have nx2 := eq_false (Nat.not_lt.2 x2); have nx3 := eq_false (Nat.not_lt.2 x3); have nx4 := eq_false (Nat.not_lt.2 x4)
      clear x2 x3 x4
      have g1 := eq_true f1; have g2 := eq_true f2; have g3 := eq_true f3; have g4 := eq_true f4
      have d1 := decide_eq_true f1; have d2 := decide_eq_true f2; have d3 := decide_eq_true f3; have d4 := decide_eq_true f4
      have n1 := eq_false (Nat.not_lt.2 f1); have n2 := eq_false (Nat.not_lt.2 f2); have n3 := eq_false (Nat.not_lt.2 f3); have n4 := eq_false (Nat.not_lt.2 f4)
      clear f1 f2 f3 f4
      have hcd : W1.drew.cell? (ad.add k) = some (.string l[k]) := by simpa using hcell1
      have hbd := below_drawn HB2
      go_region_held3 (fun w' => w'.cell? (ad.add k) = some (.string l[k]) ∧ Aside0 (Below w.heap.size w w')) (first | exact ⟨hcd, hbd⟩ | exact ⟨c2, b2⟩ | assumption)
        (first | (go_at_call 24; refine (Hd.out _).mono ?_; rintro e w2 ⟨rfl, hb2⟩; have c2 := pw_cell_below hb2 hcd; have b2 := below_more hbd hb2))
      clear g1 g2 g3 g4 d1 d2 d3 d4 n1 n2 n3 n4 gx2 gx3 gx4 dx2 dx3 dx4 nx2 nx3 nx4
      go_wp2
      go_roundw
      case rel =>
        refine ⟨k + 1, by omega, by go_num, ?_, ?_, b2⟩
        · rw [Hjt.out]; unfold Plain.step; rw [Hn.out, Hl.out]
        · rw [Hjt.out]; unfold Plain.step; rw [Hn.out]
      case measure => simp [intOf]; omega
    · go_wp2
      go_ret
      have : k = l.length := by omega
      subst this
      refine ⟨?_, HB.out⟩
      rw [List.take_length]
      rfl
end Go.Proofs.YthjahljlijcbmaaDoor
