/- The laws' equality of heaps, walked: two rows of the same finite grains are equal. -/
import Derived.Test.YticfmlohkfoccaaGreatDoorH21
import Derived.Test.YticfmlohkfoccaaGreatDoorH15
import Derived.StillTailTactics
set_option linter.unusedVariables false
set_option linter.unusedSimpArgs false
namespace Go.Proofs.YticfmlohkfoccaaGreatDoor
open Go.RowKit Go.Proofs.YticfmlohkfoccaaGreatDoorW.PrintWords

set_option maxHeartbeats 1000000 in
set_option maxRecDepth 100000 in
theorem eqGrainS_calls (A B : Option Addr) (c d : Nat) (l : List G) (w : World) (ha : GRow w A l) (hb : GRow w B l) (hl : l.length ≤ 24) (hf : ∀ x ∈ l, x.finite) :
    Calls Tryz.prog 104 #[.slice A l.length c, .slice B l.length d] w fun e w' => e = .returned (.bool true) ∧ Below w.heap.size w w' := by
  have HA : Hid (∀ W, Below w.heap.size w W → GRow W A l) := Lib.hid (fun W h => ha.more h)
  have HB : Hid (∀ W, Below w.heap.size w W → GRow W B l) := Lib.hid (fun W h => hb.more h)
  have HK := Lib.hid hf
  clear ha hb hf
  have hnn : ((l.length : Int) != (l.length : Int)) = false := by simp
  go_enter Tryz.func104, Tryz.ntmps104
  go_wp2_with fail
  go_loopw [5] (fun i wr => ∃ (k : Nat), i = .int .i64 k ∧ k ≤ l.length ∧ Aside0 (Below w.heap.size w wr)) (fun i _ => l.length - (intOf i).toNat)
  case atStart => exact ⟨0, rfl, by omega, ⟨Below.refl _ _⟩⟩
  case round =>
    obtain ⟨k, rfl, hk, HW⟩ := hrel
    by_cases hlt : k < l.length
    · have d1 : decide ((k : Int) < (l.length : Int)) = true := decide_eq_true (by omega)
      have d1' : decide (k < l.length) = true := decide_eq_true hlt
      obtain ⟨g, rfl, hat⟩ := (HA.out wr HW.out).get k hlt
      obtain ⟨g', rfl, hat'⟩ := (HB.out wr HW.out).get k hlt
      have HC := Lib.hid (fun W => eqGrain_calls l[k] (HK.out _ (List.getElem_mem hlt)) W)
      obtain ⟨q0, q1, q2, q3, q4, q5, q6⟩ := hat
      obtain ⟨p0, p1, p2, p3, p4, p5, p6⟩ := hat'
      generalize l[k] = x at *
      go_wp2_with fail
      go_still_tail 8, (by kernel_rfl)
      change wpList _ _ _ _ _ wr.drew
      have HW1 : Aside0 (Below w.heap.size w wr.drew) := ⟨below_then HW.out HW.out.size ((Below.refl _ _).drew)⟩
      generalize wr.drew = w2 at *
      clear q0 q1 q2 q3 q4 q5 q6 p0 p1 p2 p3 p4 p5 p6
      go_wp2_with fail
      change Calls Tryz.prog 15 #[.agg x.cells, .agg x.cells] w2 _
      refine (HC.out _).mono ?_
      rintro e W1 ⟨rfl, hb⟩
      have HW2 : Aside0 (Below w.heap.size w W1) := ⟨below_then HW1.out HW1.out.size hb⟩
      clear hb HC HW1
      go_wp2
      go_roundw
      case rel => exact ⟨k + 1, by go_num, by omega, HW2⟩
      case measure => simp [intOf]; omega
    · have d1 : decide ((k : Int) < (l.length : Int)) = false := decide_eq_false (by omega)
      have d1' : decide (k < l.length) = false := decide_eq_false hlt
      go_wp2_with fail
      go_ret
      exact ⟨rfl, HW.out⟩
set_option maxHeartbeats 1000000 in
set_option maxRecDepth 100000 in
theorem eqHeap_calls (A B : Option Addr) (c d : Nat) (l : List G) (w : World) (ha : GRow w A l) (hb : GRow w B l) (hl : l.length ≤ 24) (hf : ∀ x ∈ l, x.finite) :
    Calls Tryz.prog 51 #[.agg #[.slice A l.length c], .agg #[.slice B l.length d]] w fun e w' => e = .returned (.bool true) ∧ Below w.heap.size w w' := by
  have hb0 : Below w.heap.size w (w.alloc (.cells #[.slice A l.length c] 73)) := (Below.refl w.heap.size w).alloc (Nat.le_refl _) _
  have hb1 : Below w.heap.size w ((w.alloc (.cells #[.slice A l.length c] 73)).alloc (.cells #[.slice B l.length d] 73)) := hb0.alloc hb0.size _
  have q1 := ((BoxH.new w (.slice A l.length c)).more ((Below.refl _ _).alloc (Nat.le_refl _) (.cells #[.slice B l.length d] 73))).at
  have q2 : ((w.alloc (.cells #[.slice A l.length c] 73)).alloc (.cells #[.slice B l.length d] 73)).cell? ⟨w.heap.size + 1, 0, none⟩ = some (.slice B l.length d) := by
    have e : (w.alloc (.cells #[.slice A l.length c] 73)).heap.size = w.heap.size + 1 := by simp
    rw [← e]; exact (BoxH.new _ _).at
  have HC := Lib.hid (eqGrainS_calls A B c d l _ (ha.more hb1) (hb.more hb1) hl hf)
  have HB := Lib.hid hb1
  clear hb0 hb1 ha hb hf
  go_enter Tryz.func51, Tryz.ntmps51
  go_wp2_with fail
  refine HC.out.mono ?_
  rintro e W1 ⟨rfl, hb⟩
  have HB1 := Lib.hid (below_then HB.out HB.out.size hb)
  clear hb HB HC q1 q2
  go_wp2
  go_ret
  exact ⟨rfl, HB1.out⟩
end Go.Proofs.YticfmlohkfoccaaGreatDoor
