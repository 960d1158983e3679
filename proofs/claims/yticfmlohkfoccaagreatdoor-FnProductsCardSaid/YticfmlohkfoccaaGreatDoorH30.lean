/- The reference's source of choices, walked: its numbers lie within their bounds, and nothing but the source's own block turns. -/
import Derived.Test.YticfmlohkfoccaaGreatDoorH9
set_option linter.unusedVariables false
set_option linter.unusedSimpArgs false
namespace Go.Proofs.YticfmlohkfoccaaGreatDoor
open Go.RowKit Go.Proofs.YticfmlohkfoccaaGreatDoorW.PrintWords

/-- A source of choices in a block of its own; at most m bytes have been taken. -/
structure Src (W : World) (p m : Nat) : Prop where
  box : ∃ (A : Option Addr) (n c at_ seed : Nat), W.heap[p]? = some (.cells #[.slice A n c, .int .i64 (at_ : Int), .int .u64 (seed : Int)] 135 (0, 0)) ∧ at_ ≤ m ∧ n ≤ 1048576 ∧ seed < 18446744073709551616 ∧
    ∀ i, i < n → ∃ ad b, A = some ad ∧ ad.block < p ∧ W.cell? (ad.add i) = some (.int .u8 ((b : Nat) : Int)) ∧ b < 256
/-- Nothing but the block p has turned. -/
structure Turned (p : Nat) (w W : World) : Prop where
  siz : w.heap.size ≤ W.heap.size
  oth : ∀ k, k ≠ p → k < w.heap.size → W.heap[k]? = w.heap[k]?
  bel : ∀ B w0, Below B w0 w → B ≤ p → Below B w0 W
theorem Turned.refl (p : Nat) (w : World) : Turned p w w := ⟨Nat.le_refl _, fun _ _ _ => rfl, fun _ _ h _ => h⟩
theorem Turned.trans {p : Nat} {w W W2 : World} (h : Turned p w W) (k : Turned p W W2) : Turned p w W2 :=
  ⟨Nat.le_trans h.siz k.siz, fun j hj hl => (k.oth j hj (Nat.lt_of_lt_of_le hl h.siz)).trans (h.oth j hj hl), fun B w0 hb hp => k.bel B w0 (h.bel B w0 hb hp) hp⟩
theorem Turned.set (p i : Nat) (w : World) (v : Value) : Turned p w (w.setCell ⟨p, i, none⟩ v) :=
  ⟨by simp, fun k hk _ => Below.heap_setCell w ⟨p, i, none⟩ v k hk, fun B w0 hb hp => hb.setCell (p := ⟨p, i, none⟩) hp v⟩
theorem Turned.drawn (p : Nat) (w : World) (n : Nat) : Turned p w (w.drewN n) :=
  ⟨Nat.le_refl _, fun _ _ _ => rfl, fun B w0 hb _ => pw_below_drewN hb n⟩
theorem Turned.alloc (p : Nat) (w : World) (o : Obj) (h : p < w.heap.size) : Turned p w (w.alloc o) :=
  ⟨by simp, fun k _ hk => ((Below.refl w.heap.size w).alloc (Nat.le_refl _) o).block k hk, fun B w0 hb hp => hb.alloc (by omega) o⟩

theorem u64_nat (x : Int) : ∃ z : Nat, IntKind.u64.wrap x = (z : Int) ∧ z < 18446744073709551616 := by
  have h : IntKind.u64.wrap x = x % 18446744073709551616 := rfl
  refine ⟨(x % 18446744073709551616).toNat, ?_, ?_⟩
  · rw [h]; omega
  · omega
theorem and255 (z : Nat) (hz : z < 18446744073709551616) : wrap64 (Go.bits BinOp.and IntKind.u64 ((z : Int) / 1099511627776) 255) = (((z / 1099511627776) &&& 255 : Nat) : Int) := by
  have h1 : Go.bits BinOp.and IntKind.u64 ((z : Int) / 1099511627776) 255 = (((z / 1099511627776) &&& 255 : Nat) : Int) := by
    have h2 := u64_and_nat (z / 1099511627776) 255 (by omega) (by omega)
    rw [← h2]
    congr 1
  have h3 := Nat.and_le_right (n := z / 1099511627776) (m := 255)
  rw [h1]
  exact w64' (by omega) (by omega)
theorem src_set {W : World} {p n c : Nat} {A : Option Addr} {a z : Int} (h : W.heap[p]? = some (.cells #[.slice A n c, .int .i64 a, .int .u64 z] 135 (0, 0))) (a' z' : Int) :
    ((W.setCell ⟨p, 1, none⟩ (.int .i64 a')).setCell ⟨p, 2, none⟩ (.int .u64 z')).heap[p]? = some (.cells #[.slice A n c, .int .i64 a', .int .u64 z'] 135 (0, 0)) := by
  have h1 := heap_setCell (i := 1) (.int .i64 a') h
  have h2 := heap_setCell (i := 2) (.int .u64 z') h1
  exact h2
theorem code_set {W : World} {p n : Nat} {A : Option Addr} (h : ∀ i, i < n → ∃ ad b, A = some ad ∧ ad.block < p ∧ W.cell? (ad.add i) = some (.int .u8 ((b : Nat) : Int)) ∧ b < 256) (u v : Value) :
    ∀ i, i < n → ∃ ad b, A = some ad ∧ ad.block < p ∧ ((W.setCell ⟨p, 1, none⟩ u).setCell ⟨p, 2, none⟩ v).cell? (ad.add i) = some (.int .u8 ((b : Nat) : Int)) ∧ b < 256 := by
  intro i hi
  obtain ⟨ad, b, h1, h2, h3, h4⟩ := h i hi
  refine ⟨ad, b, h1, h2, ?_, h4⟩
  rw [World.cell?_setCell_far _ _ _ _ (by rw [add_block]; exact Nat.ne_of_gt h2), World.cell?_setCell_far _ _ _ _ (by rw [add_block]; exact Nat.ne_of_gt h2)]
  exact h3
set_option maxHeartbeats 1000000 in
set_option maxRecDepth 100000 in
theorem next_calls (p m : Nat) (hm : m < 4611686018427387904) (w : World) (hs : Src w p m) : Calls Tryz.prog 115 #[.pointer (some ⟨p, 0, none⟩)] w fun e w' => (∃ r : Nat, e = .returned (.int .i64 r) ∧ r < 256) ∧ Src w' p (m + 1) ∧ Turned p w w' := by
  obtain ⟨A, n, c, a, z, hb, ha, hn, hz, hc⟩ := hs.box
  have HC := Lib.hid hc
  have HB := Lib.hid hb
  clear hs hc hb
  have q0 : w.cell? ⟨p, 0, none⟩ = some (.slice A n c) := Lib.cell_of_heap HB.out 0
  have q1 : w.cell? ⟨p, 1, none⟩ = some (.int .i64 (a : Int)) := Lib.cell_of_heap HB.out 1
  have q2 : w.cell? ⟨p, 2, none⟩ = some (.int .u64 (z : Int)) := Lib.cell_of_heap HB.out 2
  have f1 : w.frozen? ⟨p, 1, none⟩ = false := Lib.frozen_of_heap HB.out 1
  have f2 : w.frozen? ⟨p, 2, none⟩ = false := Lib.frozen_of_heap HB.out 2
  by_cases hlt : a < n
  · have d1 : decide ((a : Int) < (n : Int)) = true := decide_eq_true (by omega)
    have d1' : decide (a < n) = true := decide_eq_true hlt
    go_enter Tryz.func115, Tryz.ntmps115
    go_wp2_with fail
    go_quiet (fail)
    change Exit.then _ _ _ _ (w.drewN nq)
    have HB1 : Hid ((w.drewN nq).heap[p]? = some (.cells #[.slice A n c, .int .i64 (a : Int), .int .u64 (z : Int)] 135 (0, 0))) := HB
    have HC1 : Hid (∀ i, i < n → ∃ ad b, A = some ad ∧ ad.block < p ∧ (w.drewN nq).cell? (ad.add i) = some (.int .u8 ((b : Nat) : Int)) ∧ b < 256) := HC
    have HT1 := Lib.hid (Turned.drawn p w nq)
    generalize w.drewN nq = w1 at *
    clear q0 q1 q2 f1 f2 nq
    have q0 : w1.cell? ⟨p, 0, none⟩ = some (.slice A n c) := Lib.cell_of_heap HB1.out 0
    have q1 : w1.cell? ⟨p, 1, none⟩ = some (.int .i64 (a : Int)) := Lib.cell_of_heap HB1.out 1
    have q2 : w1.cell? ⟨p, 2, none⟩ = some (.int .u64 (z : Int)) := Lib.cell_of_heap HB1.out 2
    have f1 : w1.frozen? ⟨p, 1, none⟩ = false := Lib.frozen_of_heap HB1.out 1
    have f2 : w1.frozen? ⟨p, 2, none⟩ = false := Lib.frozen_of_heap HB1.out 2
    obtain ⟨ad, b, rfl, hne, hcell, hb⟩ := HC1.out a hlt
    have hcell := hcell
    go_wp2_with fail
    go_quiet (fail)
    change Exit.then _ _ _ _ (w1.drewN nq)
    have HB2 : Hid ((w1.drewN nq).heap[p]? = some (.cells #[.slice (some ad) n c, .int .i64 (a : Int), .int .u64 (z : Int)] 135 (0, 0))) := HB1
    have HC2 : Hid (∀ i, i < n → ∃ ad' b, some ad = some ad' ∧ ad'.block < p ∧ (w1.drewN nq).cell? (ad'.add i) = some (.int .u8 ((b : Nat) : Int)) ∧ b < 256) := HC1
    have HT2 := Lib.hid (HT1.out.trans (Turned.drawn p w1 nq))
    generalize w1.drewN nq = w2 at *
    clear q0 q1 q2 f1 f2 hcell nq HB1 HC1 HT1
    have q0 : w2.cell? ⟨p, 0, none⟩ = some (.slice (some ad) n c) := Lib.cell_of_heap HB2.out 0
    have q1 : w2.cell? ⟨p, 1, none⟩ = some (.int .i64 (a : Int)) := Lib.cell_of_heap HB2.out 1
    have q2 : w2.cell? ⟨p, 2, none⟩ = some (.int .u64 (z : Int)) := Lib.cell_of_heap HB2.out 2
    have f1 : w2.frozen? ⟨p, 1, none⟩ = false := Lib.frozen_of_heap HB2.out 1
    have f2 : w2.frozen? ⟨p, 2, none⟩ = false := Lib.frozen_of_heap HB2.out 2
    generalize hA : some ad = A at *
    clear hA
    go_wp2_with fail
    obtain ⟨z', hz', hzl⟩ := u64_nat (IntKind.u64.wrap (IntKind.u64.wrap ((z : Int) * 6364136223846793005) + (b : Int)) + 1442695040888963407)
    rw [hz']
    have hb3 : ((w2.setCell ⟨p, 1, none⟩ (.int .i64 ((a : Int) + 1))).setCell ⟨p, 2, none⟩ (.int .u64 (z' : Int))).heap[p]? = some (.cells #[.slice A n c, .int .i64 ((a : Int) + 1), .int .u64 (z' : Int)] 135 (0, 0)) := src_set HB2.out _ _
    have HC3 : Hid (∀ i, i < n → ∃ ad b, A = some ad ∧ ad.block < p ∧ ((w2.setCell ⟨p, 1, none⟩ (.int .i64 ((a : Int) + 1))).setCell ⟨p, 2, none⟩ (.int .u64 (z' : Int))).cell? (ad.add i) = some (.int .u8 ((b : Nat) : Int)) ∧ b < 256) := Lib.hid (code_set HC2.out _ _)
    have HT3 : Hid (Turned p w ((w2.setCell ⟨p, 1, none⟩ (.int .i64 ((a : Int) + 1))).setCell ⟨p, 2, none⟩ (.int .u64 (z' : Int)))) := Lib.hid ((HT2.out.trans (Turned.set p 1 w2 _)).trans (Turned.set p 2 _ _))
    have HB3 := Lib.hid hb3
    clear hb3 hz' HB2 HC2 HT2 q0 q1 q2 f1 f2 hz
    generalize (w2.setCell ⟨p, 1, none⟩ (.int .i64 ((a : Int) + 1))).setCell ⟨p, 2, none⟩ (.int .u64 (z' : Int)) = w3 at *
    have q0 : w3.cell? ⟨p, 0, none⟩ = some (.slice A n c) := Lib.cell_of_heap HB3.out 0
    have q1 : w3.cell? ⟨p, 1, none⟩ = some (.int .i64 ((a : Int) + 1)) := Lib.cell_of_heap HB3.out 1
    have q2 : w3.cell? ⟨p, 2, none⟩ = some (.int .u64 (z' : Int)) := Lib.cell_of_heap HB3.out 2
    have f1 : w3.frozen? ⟨p, 1, none⟩ = false := Lib.frozen_of_heap HB3.out 1
    have f2 : w3.frozen? ⟨p, 2, none⟩ = false := Lib.frozen_of_heap HB3.out 2
    have d3 : decide ((a : Int) + 1 ≤ (n : Int)) = true := decide_eq_true (by omega)
    go_quiet (fail)
    change Exit.then _ _ _ _ (w3.drewN nq)
    have HB4 : Hid ((w3.drewN nq).heap[p]? = some (.cells #[.slice A n c, .int .i64 ((a : Int) + 1), .int .u64 (z' : Int)] 135 (0, 0))) := HB3
    have HC4 : Hid (∀ i, i < n → ∃ ad b, A = some ad ∧ ad.block < p ∧ (w3.drewN nq).cell? (ad.add i) = some (.int .u8 ((b : Nat) : Int)) ∧ b < 256) := HC3
    have HT4 := Lib.hid (HT3.out.trans (Turned.drawn p w3 nq))
    generalize w3.drewN nq = w4 at *
    clear q0 q1 q2 f1 f2 nq HB3 HC3 HT3
    have q0 : w4.cell? ⟨p, 0, none⟩ = some (.slice A n c) := Lib.cell_of_heap HB4.out 0
    have q1 : w4.cell? ⟨p, 1, none⟩ = some (.int .i64 ((a : Int) + 1)) := Lib.cell_of_heap HB4.out 1
    have q2 : w4.cell? ⟨p, 2, none⟩ = some (.int .u64 (z' : Int)) := Lib.cell_of_heap HB4.out 2
    have f1 : w4.frozen? ⟨p, 1, none⟩ = false := Lib.frozen_of_heap HB4.out 1
    have f2 : w4.frozen? ⟨p, 2, none⟩ = false := Lib.frozen_of_heap HB4.out 2
    go_wp2_with fail
    go_ret
    exact ⟨⟨b, rfl, hb⟩, ⟨A, n, c, a + 1, z', HB4.out, by omega, hn, hzl, HC4.out⟩, HT4.out⟩
  · have d1 : decide ((a : Int) < (n : Int)) = false := decide_eq_false (by omega)
    have d1' : decide (a < n) = false := decide_eq_false hlt
    go_enter Tryz.func115, Tryz.ntmps115
    go_wp2_with fail
    go_quiet (fail)
    change Exit.then _ _ _ _ (w.drewN nq)
    have HB1 : Hid ((w.drewN nq).heap[p]? = some (.cells #[.slice A n c, .int .i64 (a : Int), .int .u64 (z : Int)] 135 (0, 0))) := HB
    have HC1 : Hid (∀ i, i < n → ∃ ad b, A = some ad ∧ ad.block < p ∧ (w.drewN nq).cell? (ad.add i) = some (.int .u8 ((b : Nat) : Int)) ∧ b < 256) := HC
    have HT1 := Lib.hid (Turned.drawn p w nq)
    generalize w.drewN nq = w1 at *
    clear q0 q1 q2 f1 f2 nq
    have q0 : w1.cell? ⟨p, 0, none⟩ = some (.slice A n c) := Lib.cell_of_heap HB1.out 0
    have q1 : w1.cell? ⟨p, 1, none⟩ = some (.int .i64 (a : Int)) := Lib.cell_of_heap HB1.out 1
    have q2 : w1.cell? ⟨p, 2, none⟩ = some (.int .u64 (z : Int)) := Lib.cell_of_heap HB1.out 2
    have f1 : w1.frozen? ⟨p, 1, none⟩ = false := Lib.frozen_of_heap HB1.out 1
    have f2 : w1.frozen? ⟨p, 2, none⟩ = false := Lib.frozen_of_heap HB1.out 2
    have HB2 := HB1
    have HC2 := HC1
    have HT2 := HT1
    clear HB1 HC1 HT1
    go_wp2_with fail
    obtain ⟨z', hz', hzl⟩ := u64_nat (IntKind.u64.wrap (IntKind.u64.wrap ((z : Int) * 6364136223846793005)) + 1442695040888963407)
    rw [hz']
    have hb3 : ((w1.setCell ⟨p, 1, none⟩ (.int .i64 ((a : Int) + 1))).setCell ⟨p, 2, none⟩ (.int .u64 (z' : Int))).heap[p]? = some (.cells #[.slice A n c, .int .i64 ((a : Int) + 1), .int .u64 (z' : Int)] 135 (0, 0)) := src_set HB2.out _ _
    have HC3 : Hid (∀ i, i < n → ∃ ad b, A = some ad ∧ ad.block < p ∧ ((w1.setCell ⟨p, 1, none⟩ (.int .i64 ((a : Int) + 1))).setCell ⟨p, 2, none⟩ (.int .u64 (z' : Int))).cell? (ad.add i) = some (.int .u8 ((b : Nat) : Int)) ∧ b < 256) := Lib.hid (code_set HC2.out _ _)
    have HT3 : Hid (Turned p w ((w1.setCell ⟨p, 1, none⟩ (.int .i64 ((a : Int) + 1))).setCell ⟨p, 2, none⟩ (.int .u64 (z' : Int)))) := Lib.hid ((HT2.out.trans (Turned.set p 1 w1 _)).trans (Turned.set p 2 _ _))
    have HB3 := Lib.hid hb3
    clear hb3 hz' HB2 HC2 HT2 q0 q1 q2 f1 f2 hz
    generalize (w1.setCell ⟨p, 1, none⟩ (.int .i64 ((a : Int) + 1))).setCell ⟨p, 2, none⟩ (.int .u64 (z' : Int)) = w3 at *
    have q0 : w3.cell? ⟨p, 0, none⟩ = some (.slice A n c) := Lib.cell_of_heap HB3.out 0
    have q1 : w3.cell? ⟨p, 1, none⟩ = some (.int .i64 ((a : Int) + 1)) := Lib.cell_of_heap HB3.out 1
    have q2 : w3.cell? ⟨p, 2, none⟩ = some (.int .u64 (z' : Int)) := Lib.cell_of_heap HB3.out 2
    have f1 : w3.frozen? ⟨p, 1, none⟩ = false := Lib.frozen_of_heap HB3.out 1
    have f2 : w3.frozen? ⟨p, 2, none⟩ = false := Lib.frozen_of_heap HB3.out 2
    have d3 : decide ((a : Int) + 1 ≤ (n : Int)) = false := decide_eq_false (by omega)
    go_quiet (fail)
    change Exit.then _ _ _ _ (w3.drewN nq)
    have HB4 : Hid ((w3.drewN nq).heap[p]? = some (.cells #[.slice A n c, .int .i64 ((a : Int) + 1), .int .u64 (z' : Int)] 135 (0, 0))) := HB3
    have HC4 : Hid (∀ i, i < n → ∃ ad b, A = some ad ∧ ad.block < p ∧ (w3.drewN nq).cell? (ad.add i) = some (.int .u8 ((b : Nat) : Int)) ∧ b < 256) := HC3
    have HT4 := Lib.hid (HT3.out.trans (Turned.drawn p w3 nq))
    generalize w3.drewN nq = w4 at *
    clear q0 q1 q2 f1 f2 nq HB3 HC3 HT3
    have q0 : w4.cell? ⟨p, 0, none⟩ = some (.slice A n c) := Lib.cell_of_heap HB4.out 0
    have q1 : w4.cell? ⟨p, 1, none⟩ = some (.int .i64 ((a : Int) + 1)) := Lib.cell_of_heap HB4.out 1
    have q2 : w4.cell? ⟨p, 2, none⟩ = some (.int .u64 (z' : Int)) := Lib.cell_of_heap HB4.out 2
    have f1 : w4.frozen? ⟨p, 1, none⟩ = false := Lib.frozen_of_heap HB4.out 1
    have f2 : w4.frozen? ⟨p, 2, none⟩ = false := Lib.frozen_of_heap HB4.out 2
    go_wp2_with fail
    go_ret
    refine ⟨⟨(z' / 1099511627776) &&& 255, ?_, ?_⟩, ⟨A, n, c, a + 1, z', HB4.out, by omega, hn, hzl, HC4.out⟩, HT4.out⟩
    · exact congrArg (fun x => Ending.returned (Value.int IntKind.i64 x)) (and255 z' hzl)
    · have := Nat.and_le_right (n := z' / 1099511627776) (m := 255); omega
end Go.Proofs.YticfmlohkfoccaaGreatDoor
