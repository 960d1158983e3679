import Derived.Test.YticfmlohkfoccaaGreatDoorH9

/- The reference's source of choices, walked: its numbers lie within their bounds, and nothing but the source's own block turns. -/
set_option linter.unusedVariables false
set_option linter.unusedSimpArgs false
namespace Go.Proofs.YticfmlohkfoccaaGreatDoor
open Go.RowKit Go.Proofs.YticfmlohkfoccaaGreatDoorW.PrintWords

/-- A source of choices in a block of its own; at most m bytes have been taken. -/
structure Src (W : World) (p m : Nat) : Prop where
  box : ∃ (A : Option Addr) (n c at_ seed : Nat), W.heap[p]? = some (.cells #[.slice A n c, .int .i64 (at_ : Int), .int .u64 (seed : Int)] 135 (0, 0)) ∧ at_ ≤ m ∧ n ≤ 1048576 ∧ seed < 18446744073709551616 ∧
    ∀ i, i < n → ∃ ad b, A = some ad ∧ ad.block < p ∧ W.cell? (ad.add i) = some (.int .u8 ((b : Nat) : Int)) ∧ b < 256
/-- Nothing but the block p has turned. -/
structure Turned (p : Nat) (w W : World) : Prop where
  siz : w.heap.size ≤ W.heap.size
  oth : ∀ k, k ≠ p → k < w.heap.size → W.heap[k]? = w.heap[k]?
  bel : ∀ B w0, Below B w0 w → B ≤ p → Below B w0 W
theorem Turned.refl (p : Nat) (w : World) : Turned p w w := ⟨Nat.le_refl _, fun _ _ _ => rfl, fun _ _ h _ => h⟩
theorem Turned.trans {p : Nat} {w W W2 : World} (h : Turned p w W) (k : Turned p W W2) : Turned p w W2 :=
  ⟨Nat.le_trans h.siz k.siz, fun j hj hl => (k.oth j hj (Nat.lt_of_lt_of_le hl h.siz)).trans (h.oth j hj hl), fun B w0 hb hp => k.bel B w0 (h.bel B w0 hb hp) hp⟩
theorem Turned.set (p i : Nat) (w : World) (v : Value) : Turned p w (w.setCell ⟨p, i, none⟩ v) :=
  ⟨by simp, fun k hk _ => Below.heap_setCell w ⟨p, i, none⟩ v k hk, fun B w0 hb hp => hb.setCell (p := ⟨p, i, none⟩) hp v⟩
theorem Turned.drawn (p : Nat) (w : World) (n : Nat) : Turned p w (w.drewN n) :=
  ⟨Nat.le_refl _, fun _ _ _ => rfl, fun B w0 hb _ => pw_below_drewN hb n⟩
theorem Turned.alloc (p : Nat) (w : World) (o : Obj) (h : p < w.heap.size) : Turned p w (w.alloc o) :=
  ⟨by simp, fun k _ hk => ((Below.refl w.heap.size w).alloc (Nat.le_refl _) o).block k hk, fun B w0 hb hp => hb.alloc (by omega) o⟩

theorem u64_nat (x : Int) : ∃ z : Nat, IntKind.u64.wrap x = (z : Int) ∧ z < 18446744073709551616 := by
  have h : IntKind.u64.wrap x = x % 18446744073709551616 := rfl
  refine ⟨(x % 18446744073709551616).toNat, ?_, ?_⟩
  · rw [h]; omega
  · omega
theorem and255 (z : Nat) (hz : z < 18446744073709551616) : wrap64 (Go.bits BinOp.and IntKind.u64 ((z : Int) / 1099511627776) 255) = (((z / 1099511627776) &&& 255 : Nat) : Int) := by
  have h1 : Go.bits BinOp.and IntKind.u64 ((z : Int) / 1099511627776) 255 = (((z / 1099511627776) &&& 255 : Nat) : Int) := by
    have h2 := u64_and_nat (z / 1099511627776) 255 (by omega) (by omega)
    rw [← h2]
    congr 1
  have h3 := Nat.and_le_right (n := z / 1099511627776) (m := 255)
  rw [h1]
  exact w64' (by omega) (by omega)
theorem src_set {W : World} {p n c : Nat} {A : Option Addr} {a z : Int} (h : W.heap[p]? = some (.cells #[.slice A n c, .int .i64 a, .int .u64 z] 135 (0, 0))) (a' z' : Int) :
    ((W.setCell ⟨p, 1, none⟩ (.int .i64 a')).setCell ⟨p, 2, none⟩ (.int .u64 z')).heap[p]? = some (.cells #[.slice A n c, .int .i64 a', .int .u64 z'] 135 (0, 0)) := by
  have h1 := heap_setCell (i := 1) (.int .i64 a') h
  have h2 := heap_setCell (i := 2) (.int .u64 z') h1
  exact h2
theorem code_set {W : World} {p n : Nat} {A : Option Addr} (h : ∀ i, i < n → ∃ ad b, A = some ad ∧ ad.block < p ∧ W.cell? (ad.add i) = some (.int .u8 ((b : Nat) : Int)) ∧ b < 256) (u v : Value) :
    ∀ i, i < n → ∃ ad b, A = some ad ∧ ad.block < p ∧ ((W.setCell ⟨p, 1, none⟩ u).setCell ⟨p, 2, none⟩ v).cell? (ad.add i) = some (.int .u8 ((b : Nat) : Int)) ∧ b < 256 := by
  intro i hi
  obtain ⟨ad, b, h1, h2, h3, h4⟩ := h i hi
  refine ⟨ad, b, h1, h2, ?_, h4⟩
  rw [World.cell?_setCell_far _ _ _ _ (by rw [add_block]; exact Nat.ne_of_gt h2), World.cell?_setCell_far _ _ _ _ (by rw [add_block]; exact Nat.ne_of_gt h2)]
  exact h3
set_option maxHeartbeats 1000000 in
set_option maxRecDepth 100000 in
theorem next_calls (p m : Nat) (hm : m < 4611686018427387904) (w : World) (hs : Src w p m) : Calls Tryz.prog 115 #[.pointer (some ⟨p, 0, none⟩)] w fun e w' => (∃ r : Nat, e = .returned (.int .i64 r) ∧ r < 256) ∧ Src w' p (m + 1) ∧ Turned p w w' := by
  obtain ⟨A, n, c, a, z, hb, ha, hn, hz, hc⟩ := hs.box
  have HC := Lib.hid hc
  have HB := Lib.hid hb
  clear hs hc hb
  have q0 : w.cell? ⟨p, 0, none⟩ = some (.slice A n c) := Lib.cell_of_heap HB.out 0
  have q1 : w.cell? ⟨p, 1, none⟩ = some (.int .i64 (a : Int)) := Lib.cell_of_heap HB.out 1
  have q2 : w.cell? ⟨p, 2, none⟩ = some (.int .u64 (z : Int)) := Lib.cell_of_heap HB.out 2
  have f1 : w.frozen? ⟨p, 1, none⟩ = false := Lib.frozen_of_heap HB.out 1
  have f2 : w.frozen? ⟨p, 2, none⟩ = false := Lib.frozen_of_heap HB.out 2
  by_cases hlt : a < n
  · have d1 : decide ((a : Int) < (n : Int)) = true := decide_eq_true (by omega)
    have d1' : decide (a < n) = true := decide_eq_true hlt
    go_enter Tryz.func115, Tryz.ntmps115
    go_wp2_with fail
    go_quiet (fail)
    change Exit.then _ _ _ _ (w.drewN nq)
    have HB1 : Hid ((w.drewN nq).heap[p]? = some (.cells #[.slice A n c, .int .i64 (a : Int), .int .u64 (z : Int)] 135 (0, 0))) := HB
    have HC1 : Hid (∀ i, i < n → ∃ ad b, A = some ad ∧ ad.block < p ∧ (w.drewN nq).cell? (ad.add i) = some (.int .u8 ((b : Nat) : Int)) ∧ b < 256) := HC
    have HT1 := Lib.hid (Turned.drawn p w nq)
    generalize w.drewN nq = w1 at *
    clear q0 q1 q2 f1 f2 nq
    have q0 : w1.cell? ⟨p, 0, none⟩ = some (.slice A n c) := Lib.cell_of_heap HB1.out 0
    have q1 : w1.cell? ⟨p, 1, none⟩ = some (.int .i64 (a : Int)) := Lib.cell_of_heap HB1.out 1
    have q2 : w1.cell? ⟨p, 2, none⟩ = some (.int .u64 (z : Int)) := Lib.cell_of_heap HB1.out 2
    have f1 : w1.frozen? ⟨p, 1, none⟩ = false := Lib.frozen_of_heap HB1.out 1
    have f2 : w1.frozen? ⟨p, 2, none⟩ = false := Lib.frozen_of_heap HB1.out 2
    obtain ⟨ad, b, rfl, hne, hcell, hb⟩ := HC1.out a hlt
    have hcell := hcell
    go_wp2_with fail
    go_quiet (fail)
    change Exit.then _ _ _ _ (w1.drewN nq)
    have HB2 : Hid ((w1.drewN nq).heap[p]? = some (.cells #[.slice (some ad) n c, .int .i64 (a : Int), .int .u64 (z : Int)] 135 (0, 0))) := HB1
    have HC2 : Hid (∀ i, i < n → ∃ ad' b, some ad = some ad' ∧ ad'.block < p ∧ (w1.drewN nq).cell? (ad'.add i) = some (.int .u8 ((b : Nat) : Int)) ∧ b < 256) := HC1
    have HT2 := Lib.hid (HT1.out.trans (Turned.drawn p w1 nq))
    generalize w1.drewN nq = w2 at *
    clear q0 q1 q2 f1 f2 hcell nq HB1 HC1 HT1
    have q0 : w2.cell? ⟨p, 0, none⟩ = some (.slice (some ad) n c) := Lib.cell_of_heap HB2.out 0
    have q1 : w2.cell? ⟨p, 1, none⟩ = some (.int .i64 (a : Int)) := Lib.cell_of_heap HB2.out 1
    have q2 : w2.cell? ⟨p, 2, none⟩ = some (.int .u64 (z : Int)) := Lib.cell_of_heap HB2.out 2
    have f1 : w2.frozen? ⟨p, 1, none⟩ = false := Lib.frozen_of_heap HB2.out 1
    have f2 : w2.frozen? ⟨p, 2, none⟩ = false := Lib.frozen_of_heap HB2.out 2
    generalize hA : some ad = A at *
    clear hA
    go_wp2_with fail
    obtain ⟨z', hz', hzl⟩ := u64_nat (IntKind.u64.wrap (IntKind.u64.wrap ((z : Int) * 6364136223846793005) + (b : Int)) + 1442695040888963407)
    rw [hz']
    have hb3 : ((w2.setCell ⟨p, 1, none⟩ (.int .i64 ((a : Int) + 1))).setCell ⟨p, 2, none⟩ (.int .u64 (z' : Int))).heap[p]? = some (.cells #[.slice A n c, .int .i64 ((a : Int) + 1), .int .u64 (z' : Int)] 135 (0, 0)) := src_set HB2.out _ _
    have HC3 : Hid (∀ i, i < n → ∃ ad b, A = some ad ∧ ad.block < p ∧ ((w2.setCell ⟨p, 1, none⟩ (.int .i64 ((a : Int) + 1))).setCell ⟨p, 2, none⟩ (.int .u64 (z' : Int))).cell? (ad.add i) = some (.int .u8 ((b : Nat) : Int)) ∧ b < 256) := Lib.hid (code_set HC2.out _ _)
    have HT3 : Hid (Turned p w ((w2.setCell ⟨p, 1, none⟩ (.int .i64 ((a : Int) + 1))).setCell ⟨p, 2, none⟩ (.int .u64 (z' : Int)))) := Lib.hid ((HT2.out.trans (Turned.set p 1 w2 _)).trans (Turned.set p 2 _ _))
    have HB3 := Lib.hid hb3
    clear hb3 hz' HB2 HC2 HT2 q0 q1 q2 f1 f2 hz
    generalize (w2.setCell ⟨p, 1, none⟩ (.int .i64 ((a : Int) + 1))).setCell ⟨p, 2, none⟩ (.int .u64 (z' : Int)) = w3 at *
    have q0 : w3.cell? ⟨p, 0, none⟩ = some (.slice A n c) := Lib.cell_of_heap HB3.out 0
    have q1 : w3.cell? ⟨p, 1, none⟩ = some (.int .i64 ((a : Int) + 1)) := Lib.cell_of_heap HB3.out 1
    have q2 : w3.cell? ⟨p, 2, none⟩ = some (.int .u64 (z' : Int)) := Lib.cell_of_heap HB3.out 2
    have f1 : w3.frozen? ⟨p, 1, none⟩ = false := Lib.frozen_of_heap HB3.out 1
    have f2 : w3.frozen? ⟨p, 2, none⟩ = false := Lib.frozen_of_heap HB3.out 2
    have d3 : decide ((a : Int) + 1 ≤ (n : Int)) = true := decide_eq_true (by omega)
    go_quiet (fail)
    change Exit.then _ _ _ _ (w3.drewN nq)
    have HB4 : Hid ((w3.drewN nq).heap[p]? = some (.cells #[.slice A n c, .int .i64 ((a : Int) + 1), .int .u64 (z' : Int)] 135 (0, 0))) := HB3
    have HC4 : Hid (∀ i, i < n → ∃ ad b, A = some ad ∧ ad.block < p ∧ (w3.drewN nq).cell? (ad.add i) = some (.int .u8 ((b : Nat) : Int)) ∧ b < 256) := HC3
    have HT4 := Lib.hid (HT3.out.trans (Turned.drawn p w3 nq))
    generalize w3.drewN nq = w4 at *
    clear q0 q1 q2 f1 f2 nq HB3 HC3 HT3
    have q0 : w4.cell? ⟨p, 0, none⟩ = some (.slice A n c) := Lib.cell_of_heap HB4.out 0
    have q1 : w4.cell? ⟨p, 1, none⟩ = some (.int .i64 ((a : Int) + 1)) := Lib.cell_of_heap HB4.out 1
    have q2 : w4.cell? ⟨p, 2, none⟩ = some (.int .u64 (z' : Int)) := Lib.cell_of_heap HB4.out 2
    have f1 : w4.frozen? ⟨p, 1, none⟩ = false := Lib.frozen_of_heap HB4.out 1
    have f2 : w4.frozen? ⟨p, 2, none⟩ = false := Lib.frozen_of_heap HB4.out 2
    go_wp2_with fail
    go_ret
    exact ⟨⟨b, rfl, hb⟩, ⟨A, n, c, a + 1, z', HB4.out, by omega, hn, hzl, HC4.out⟩, HT4.out⟩
  · have d1 : decide ((a : Int) < (n : Int)) = false := decide_eq_false (by omega)
    have d1' : decide (a < n) = false := decide_eq_false hlt
    go_enter Tryz.func115, Tryz.ntmps115
    go_wp2_with fail
    go_quiet (fail)
    change Exit.then _ _ _ _ (w.drewN nq)
    have HB1 : Hid ((w.drewN nq).heap[p]? = some (.cells #[.slice A n c, .int .i64 (a : Int), .int .u64 (z : Int)] 135 (0, 0))) := HB
    have HC1 : Hid (∀ i, i < n → ∃ ad b, A = some ad ∧ ad.block < p ∧ (w.drewN nq).cell? (ad.add i) = some (.int .u8 ((b : Nat) : Int)) ∧ b < 256) := HC
    have HT1 := Lib.hid (Turned.drawn p w nq)
    generalize w.drewN nq = w1 at *
    clear q0 q1 q2 f1 f2 nq
    have q0 : w1.cell? ⟨p, 0, none⟩ = some (.slice A n c) := Lib.cell_of_heap HB1.out 0
    have q1 : w1.cell? ⟨p, 1, none⟩ = some (.int .i64 (a : Int)) := Lib.cell_of_heap HB1.out 1
    have q2 : w1.cell? ⟨p, 2, none⟩ = some (.int .u64 (z : Int)) := Lib.cell_of_heap HB1.out 2
    have f1 : w1.frozen? ⟨p, 1, none⟩ = false := Lib.frozen_of_heap HB1.out 1
    have f2 : w1.frozen? ⟨p, 2, none⟩ = false := Lib.frozen_of_heap HB1.out 2
    have HB2 := HB1
    have HC2 := HC1
    have HT2 := HT1
    clear HB1 HC1 HT1
    go_wp2_with fail
    obtain ⟨z', hz', hzl⟩ := u64_nat (IntKind.u64.wrap (IntKind.u64.wrap ((z : Int) * 6364136223846793005)) + 1442695040888963407)
    rw [hz']
    have hb3 : ((w1.setCell ⟨p, 1, none⟩ (.int .i64 ((a : Int) + 1))).setCell ⟨p, 2, none⟩ (.int .u64 (z' : Int))).heap[p]? = some (.cells #[.slice A n c, .int .i64 ((a : Int) + 1), .int .u64 (z' : Int)] 135 (0, 0)) := src_set HB2.out _ _
    have HC3 : Hid (∀ i, i < n → ∃ ad b, A = some ad ∧ ad.block < p ∧ ((w1.setCell ⟨p, 1, none⟩ (.int .i64 ((a : Int) + 1))).setCell ⟨p, 2, none⟩ (.int .u64 (z' : Int))).cell? (ad.add i) = some (.int .u8 ((b : Nat) : Int)) ∧ b < 256) := Lib.hid (code_set HC2.out _ _)
    have HT3 : Hid (Turned p w ((w1.setCell ⟨p, 1, none⟩ (.int .i64 ((a : Int) + 1))).setCell ⟨p, 2, none⟩ (.int .u64 (z' : Int)))) := Lib.hid ((HT2.out.trans (Turned.set p 1 w1 _)).trans (Turned.set p 2 _ _))
    have HB3 := Lib.hid hb3
    clear hb3 hz' HB2 HC2 HT2 q0 q1 q2 f1 f2 hz
    generalize (w1.setCell ⟨p, 1, none⟩ (.int .i64 ((a : Int) + 1))).setCell ⟨p, 2, none⟩ (.int .u64 (z' : Int)) = w3 at *
    have q0 : w3.cell? ⟨p, 0, none⟩ = some (.slice A n c) := Lib.cell_of_heap HB3.out 0
    have q1 : w3.cell? ⟨p, 1, none⟩ = some (.int .i64 ((a : Int) + 1)) := Lib.cell_of_heap HB3.out 1
    have q2 : w3.cell? ⟨p, 2, none⟩ = some (.int .u64 (z' : Int)) := Lib.cell_of_heap HB3.out 2
    have f1 : w3.frozen? ⟨p, 1, none⟩ = false := Lib.frozen_of_heap HB3.out 1
    have f2 : w3.frozen? ⟨p, 2, none⟩ = false := Lib.frozen_of_heap HB3.out 2
    have d3 : decide ((a : Int) + 1 ≤ (n : Int)) = false := decide_eq_false (by omega)
    go_quiet (fail)
    change Exit.then _ _ _ _ (w3.drewN nq)
    have HB4 : Hid ((w3.drewN nq).heap[p]? = some (.cells #[.slice A n c, .int .i64 ((a : Int) + 1), .int .u64 (z' : Int)] 135 (0, 0))) := HB3
    have HC4 : Hid (∀ i, i < n → ∃ ad b, A = some ad ∧ ad.block < p ∧ (w3.drewN nq).cell? (ad.add i) = some (.int .u8 ((b : Nat) : Int)) ∧ b < 256) := HC3
    have HT4 := Lib.hid (HT3.out.trans (Turned.drawn p w3 nq))
    generalize w3.drewN nq = w4 at *
    clear q0 q1 q2 f1 f2 nq HB3 HC3 HT3
    have q0 : w4.cell? ⟨p, 0, none⟩ = some (.slice A n c) := Lib.cell_of_heap HB4.out 0
    have q1 : w4.cell? ⟨p, 1, none⟩ = some (.int .i64 ((a : Int) + 1)) := Lib.cell_of_heap HB4.out 1
    have q2 : w4.cell? ⟨p, 2, none⟩ = some (.int .u64 (z' : Int)) := Lib.cell_of_heap HB4.out 2
    have f1 : w4.frozen? ⟨p, 1, none⟩ = false := Lib.frozen_of_heap HB4.out 1
    have f2 : w4.frozen? ⟨p, 2, none⟩ = false := Lib.frozen_of_heap HB4.out 2
    go_wp2_with fail
    go_ret
    refine ⟨⟨(z' / 1099511627776) &&& 255, ?_, ?_⟩, ⟨A, n, c, a + 1, z', HB4.out, by omega, hn, hzl, HC4.out⟩, HT4.out⟩
    · exact congrArg (fun x => Ending.returned (Value.int IntKind.i64 x)) (and255 z' hzl)
    · have := Nat.and_le_right (n := z' / 1099511627776) (m := 255); omega
end Go.Proofs.YticfmlohkfoccaaGreatDoor

/- What is drawn from a source of choices, walked: numbers within their bounds, floats of any bits. -/
set_option linter.unusedVariables false
set_option linter.unusedSimpArgs false
namespace Go.Proofs.YticfmlohkfoccaaGreatDoor
open Go.RowKit Go.Proofs.YticfmlohkfoccaaGreatDoorW.PrintWords

theorem Src.le {W : World} {p m m' : Nat} (h : Src W p m) (hm : m ≤ m') : Src W p m' := by
  obtain ⟨A, n, c, a, z, h1, h2, h3, h4, h5⟩ := h.box
  exact ⟨A, n, c, a, z, h1, by omega, h3, h4, h5⟩
theorem src_lt {W : World} {p m : Nat} (h : Src W p m) : p < W.heap.size := by
  obtain ⟨A, n, c, a, z, h1, _⟩ := h.box
  exact (Array.getElem?_eq_some_iff.1 h1).1
theorem Src.more {W W2 : World} {p m : Nat} (h : Src W p m) (k : Below W.heap.size W W2) : Src W2 p m := by
  have hlt := src_lt h
  obtain ⟨A, n, c, a, z, h1, h2, h3, h4, h5⟩ := h.box
  refine ⟨A, n, c, a, z, (k.block p hlt).trans h1, h2, h3, h4, fun i hi => ?_⟩
  obtain ⟨ad, b, e1, e2, e3, e4⟩ := h5 i hi
  exact ⟨ad, b, e1, e2, pw_cell_below k e3, e4⟩
theorem Turned.more {p : Nat} {w W : World} (h : Below w.heap.size w W) (hp : p < w.heap.size) : Turned p w W :=
  ⟨h.size, fun k _ hk => h.block k hk, fun B w0 hb hB => below_then hb (by omega) h⟩

/-- What the functions over a source do. -/
def Draws (p m : Nat) (w : World) (ok : Ending → Prop) (e : Ending) (w' : World) : Prop := ok e ∧ Src w' p m ∧ Turned p w w'
set_option maxHeartbeats 1000000 in
set_option maxRecDepth 100000 in
theorem pick_calls (p m k : Nat) (hk : 1 < k) (hk2 : k ≤ 65536) (hm : m < 1000000000) (w : World) (hs : Src w p m) : Calls Tryz.prog 65 #[.pointer (some ⟨p, 0, none⟩), .int .i64 k] w (Draws p (m + 2) w fun e => ∃ r : Nat, e = .returned (.int .i64 r) ∧ r < k) := by
  have HC := Lib.hid (fun m W (hm : m < 4611686018427387904) hs => next_calls p m hm W hs)
  have HS := Lib.hid hs
  clear hs
  have d1 : decide ((k : Int) ≤ 1) = false := decide_eq_false (by omega)
  by_cases h2 : 200 < k
  · have d2 : decide (200 < (k : Int)) = true := decide_eq_true (by omega)
    go_enter Tryz.func65, Tryz.ntmps65
    go_wp2_with fail
    refine (HC.out m _ (by omega) HS.out).mono ?_
    rintro e w1 ⟨⟨r, rfl, hr⟩, hs1, ht1⟩
    have HS1 := Lib.hid hs1
    have HT1 := Lib.hid ht1
    clear hs1 ht1 HS
    go_wp2_with fail
    refine (HC.out (m + 1) _ (by omega) HS1.out).mono ?_
    rintro e w2 ⟨⟨r2, rfl, hr2⟩, hs2, ht2⟩
    have HS2 := Lib.hid hs2
    have HT2 := Lib.hid (HT1.out.trans ht2)
    clear hs2 ht2 HS1 HT1 HC
    go_wp2_with fail
    go_ret
    exact ⟨⟨(r * 256 + r2) % k, congrArg (fun x => Ending.returned (Value.int IntKind.i64 x)) (by push_cast; rfl), Nat.mod_lt _ (by omega)⟩, HS2.out, HT2.out⟩
  · have d2 : decide (200 < (k : Int)) = false := decide_eq_false (by omega)
    go_enter Tryz.func65, Tryz.ntmps65
    go_wp2_with fail
    refine (HC.out m _ (by omega) HS.out).mono ?_
    rintro e w1 ⟨⟨r, rfl, hr⟩, hs1, ht1⟩
    have HS1 := Lib.hid hs1
    have HT1 := Lib.hid ht1
    clear hs1 ht1 HS HC
    go_wp2_with fail
    go_ret
    exact ⟨⟨r % k, congrArg (fun x => Ending.returned (Value.int IntKind.i64 x)) (by push_cast; rfl), Nat.mod_lt _ (by omega)⟩, HS1.out.le (by omega), HT1.out⟩
set_option maxHeartbeats 1000000 in
set_option maxRecDepth 100000 in
theorem one_calls (p m k : Nat) (hk : 1 < k) (hk2 : k ≤ 65536) (hm : m < 1000000000) (w : World) (hs : Src w p m) : Calls Tryz.prog 78 #[.pointer (some ⟨p, 0, none⟩), .int .i64 k] w (Draws p (m + 2) w fun e => ∃ b, e = .returned (.bool b)) := by
  have HC := Lib.hid (pick_calls p m k hk hk2 hm w hs)
  clear hs
  go_enter Tryz.func78, Tryz.ntmps78
  go_wp2_with fail
  refine HC.out.mono ?_
  rintro e w1 ⟨⟨r, rfl, hr⟩, hs1, ht1⟩
  have HS1 := Lib.hid hs1
  have HT1 := Lib.hid ht1
  clear hs1 ht1 HC
  go_wp2_with fail
  go_ret
  exact ⟨⟨_, rfl⟩, HS1.out, HT1.out⟩
/-- A row of integers in a block of its own. -/
def Ints (W : World) (g : Nat) (l : List Nat) : Prop := W.heap[g]? = some (.cells (l.map fun n => Value.int .i64 ((n : Nat) : Int)).toArray 2 (0, 0))
set_option maxHeartbeats 1000000 in
set_option maxRecDepth 100000 in
theorem among_calls (p m g : Nat) (l : List Nat) (hl : 1 < l.length) (hl2 : l.length ≤ 200) (hm : m < 1000000000) (hg : g ≠ p) (w : World) (hs : Src w p m) (hi : Ints w g l) : Calls Tryz.prog 128 #[.pointer (some ⟨p, 0, none⟩), .slice (some ⟨g, 0, none⟩) l.length l.length] w (Draws p (m + 2) w fun e => ∃ x ∈ l, e = .returned (.int .i64 ((x : Nat) : Int))) := by
  have HC := Lib.hid (pick_calls p m l.length hl (by omega) hm w hs)
  have HI := Lib.hid hi
  have hglt : g < w.heap.size := (Array.getElem?_eq_some_iff.1 hi).1
  clear hs hi
  go_enter Tryz.func128, Tryz.ntmps128
  go_wp2_with fail
  refine HC.out.mono ?_
  rintro e w1 ⟨⟨r, rfl, hr⟩, hs1, ht1⟩
  have HS1 := Lib.hid hs1
  have HT1 := Lib.hid ht1
  have hcell : w1.cell? ⟨g, r, none⟩ = some (.int .i64 ((l[r] : Nat) : Int)) := by
    rw [Lib.cell_of_heap ((ht1.oth g hg hglt).trans HI.out)]
    simp [hr]
  have hmem : l[r] ∈ l := List.getElem_mem _
  clear hs1 ht1 HC HI
  generalize l[r] = x at *
  have e24 : decide (r < l.length) = true := decide_eq_true hr
  go_wp2_with fail
  go_ret
  exact ⟨⟨x, hmem, rfl⟩, HS1.out, HT1.out⟩

/-! ### Floats -/
/-- What an operation on floats gives; the tape tells a NaN's bits. -/
def fop (op : BinOp) (k : FloatKind) (x y : Nat) (W : World) : Nat := (floatBits op k x y).getD (Question.cut (.nanBits k x y) (W.tape W.drawn (.nanBits k x y)))
def fow (op : BinOp) (k : FloatKind) (x y : Nat) (W : World) : World := if (floatBits op k x y).isSome then W else W.drew
theorem run_fop (P : Program) (op : BinOp) (hop : op = .add ∨ op = .sub ∨ op = .mul ∨ op = .quo) (t : TypeId) (k : FloatKind) (x y : Nat) (W : World) : (binOp op t (.float k x) (.float k y)).run P W = .ok (.float k (fop op k x y W)) (fow op k x y W) := by
  unfold fop fow
  cases h : floatBits op k x y with
  | some r => rw [run_float_arith W op t k x y r h]; rfl
  | none =>
    unfold floatBits at h
    rcases hop with rfl | rfl | rfl | rfl <;> simp only at h <;> simp [binOp, Op.floatArith, h, choose, Sem.run, Question.forced]
theorem fow_drawn (op : BinOp) (k : FloatKind) (x y : Nat) (W : World) : ∃ n, fow op k x y W = W.drewN n := by
  unfold fow
  split
  · exact ⟨0, rfl⟩
  · exact ⟨1, rfl⟩
theorem wf_lt {b : Nat} (h : (Lit.float .f32 b).wf = true) : b < 4294967296 := by
  have : decide (b < 2 ^ 32) = true := h
  simpa using this
theorem fop_lt (op : BinOp) (x y : Nat) (W : World) : fop op .f32 x y W < 4294967296 := by
  unfold fop
  cases h : floatBits op .f32 x y with
  | some r => exact wf_lt (floatBits_wf h)
  | none =>
    simp only [Option.getD_none, Question.cut]
    have h1 := Nat.mod_lt (W.tape W.drawn (.nanBits .f32 x y)) (show 0 < 2 by decide)
    have h2 := Nat.mod_lt (W.tape W.drawn (.nanBits .f32 x y) / 2) (show 0 < 2 ^ 23 - 1 by decide)
    generalize W.tape W.drawn (.nanBits .f32 x y) % 2 = a at *
    generalize W.tape W.drawn (.nanBits .f32 x y) / 2 % (2 ^ 23 - 1) = c at *
    omega
/-- Some float of 32 bits. -/
def AnyF (e : Ending) : Prop := ∃ b : Nat, e = .returned (.float .f32 b) ∧ b < 4294967296
set_option maxHeartbeats 1000000 in
set_option maxRecDepth 100000 in
theorem plain_calls (p m : Nat) (hm : m < 100000000) (w : World) (hs : Src w p m) : Calls Tryz.prog 127 #[.pointer (some ⟨p, 0, none⟩)] w (Draws p (m + 4) w AnyF) := by
  have HC1 := Lib.hid (pick_calls p m 129 (by decide) (by decide) (by omega) w hs)
  have HC2 := Lib.hid (fun W hs => one_calls p (m + 2) 4 (by decide) (by decide) (by omega) W hs)
  clear hs
  go_enter Tryz.func127, Tryz.ntmps127
  go_wp2_with fail
  refine HC1.out.mono ?_
  rintro e w1 ⟨⟨r, rfl, hr⟩, hs1, ht1⟩
  have HS1 := Lib.hid hs1
  have HT1 := Lib.hid ht1
  clear hs1 ht1 HC1
  go_wp2_with fail
  refine (HC2.out _ HS1.out).mono ?_
  rintro e w2 ⟨⟨b, rfl⟩, hs2, ht2⟩
  have HS2 := Lib.hid hs2
  have HT2 := Lib.hid (HT1.out.trans ht2)
  clear hs2 ht2 HC2 HS1 HT1
  have hq := fun c W => run_fop Tryz.prog .quo (by simp) 29 .f32 (floatOfInt .f32 ((r : Int) - 64)) c W
  cases b with
  | true =>
    go_wp2_with fail
    go_ret
    obtain ⟨n, hn⟩ := fow_drawn .quo .f32 (floatOfInt .f32 ((r : Int) - 64)) 1088421888 w2
    rw [hn]
    exact ⟨⟨_, rfl, fop_lt _ _ _ _⟩, HS2.out.more (pw_below_drewN (Below.refl _ _) n), HT2.out.trans (Turned.drawn p w2 n)⟩
  | false =>
    go_wp2_with fail
    go_ret
    obtain ⟨n, hn⟩ := fow_drawn .quo .f32 (floatOfInt .f32 ((r : Int) - 64)) 1098907648 w2
    rw [hn]
    exact ⟨⟨_, rfl, fop_lt _ _ _ _⟩, HS2.out.more (pw_below_drewN (Below.refl _ _) n), HT2.out.trans (Turned.drawn p w2 n)⟩
end Go.Proofs.YticfmlohkfoccaaGreatDoor

/- Floats and complex numbers drawn from a source of choices, walked: any bits. -/
set_option linter.unusedVariables false
set_option linter.unusedSimpArgs false
namespace Go.Proofs.YticfmlohkfoccaaGreatDoor
open Go.RowKit Go.Proofs.YticfmlohkfoccaaGreatDoorW.PrintWords

theorem Src.alloc {W : World} {p m : Nat} (h : Src W p m) (o : Obj) : Src (W.alloc o) p m := h.more ((Below.refl _ _).alloc (Nat.le_refl _) o)
theorem run_mul64 (x k : Nat) (h : x * k < 9223372036854775808) (W : World) : (binOp .mul 2 (.int .i64 (x : Int)) (.int .i64 (k : Int))).run Tryz.prog W = .ok (.int .i64 ((x * k : Nat) : Int)) W := by
  have h1 : (binOp .mul 2 (.int .i64 (x : Int)) (.int .i64 (k : Int))).run Tryz.prog W = .ok (.int .i64 (IntKind.i64.wrap ((x : Int) * (k : Int)))) W := rfl
  rw [h1, show (x : Int) * (k : Int) = ((x * k : Nat) : Int) from by push_cast; rfl, IntWalk.i64_in _ (by omega)]
def strange : List Nat := [0, 2147483648, 2139095040, 4286578688, 2143289344, 1, 2139095039, 8388608, 8388607, 2147483649]
def powers : List Nat := [8388608, 2130706432, 1610612736, 536870912]
theorem strange_lt : ∀ x ∈ strange, x < 4294967296 := by decide
theorem powers_lt : ∀ x ∈ powers, x < 4294967296 := by decide
set_option maxHeartbeats 2000000 in
set_option maxRecDepth 100000 in
theorem float_calls (p m : Nat) (hm : m < 10000000) (w : World) (hs : Src w p m) : Calls Tryz.prog 80 #[.pointer (some ⟨p, 0, none⟩)] w (Draws p (m + 10) w AnyF) := by
  have HC1 := Lib.hid (one_calls p m 12 (by decide) (by decide) (by omega) w hs)
  have HC2 := Lib.hid (fun m W (hm : m < 100000000) hs => plain_calls p m hm W hs)
  have HC3 := Lib.hid (fun m k W (hk : 1 < k) (hk2 : k ≤ 65536) (hm : m < 1000000000) hs => pick_calls p m k hk hk2 hm W hs)
  have HC4 := Lib.hid (fun m W g l hl hl2 (hm : m < 1000000000) hg hs hi => among_calls p m g l hl hl2 hm hg W hs hi)
  clear hs
  go_enter Tryz.func80, Tryz.ntmps80
  go_wp2_with fail
  refine HC1.out.mono ?_
  rintro e w1 ⟨⟨b, rfl⟩, hs1, ht1⟩
  have HS1 := Lib.hid hs1
  have HT1 := Lib.hid ht1
  clear hs1 ht1 HC1
  cases b with
  | false =>
    go_wp2_with fail
    refine (HC2.out _ _ (by omega) HS1.out).mono ?_
    rintro e w2 ⟨⟨x, rfl, hx⟩, hs2, ht2⟩
    have HS2 := Lib.hid hs2
    have HT2 := Lib.hid (HT1.out.trans ht2)
    clear hs2 ht2 HS1 HT1 HC2 HC3 HC4
    go_wp2_with fail
    go_ret
    exact ⟨⟨x, rfl, hx⟩, HS2.out.le (by omega), HT2.out⟩
  | true =>
    go_wp2_with fail
    refine (HC3.out _ 4 _ (by decide) (by decide) (by omega) HS1.out).mono ?_
    rintro e w2 ⟨⟨r, rfl, hr⟩, hs2, ht2⟩
    have HS2 := Lib.hid hs2
    have HT2 := Lib.hid (HT1.out.trans ht2)
    clear hs2 ht2 HS1 HT1
    obtain rfl | rfl | rfl | rfl : r = 0 ∨ r = 1 ∨ r = 2 ∨ r = 3 := by omega
    · have hi : Ints (w2.alloc (.cells (strange.map fun n => Value.int .i64 ((n : Nat) : Int)).toArray 2)) w2.heap.size strange := heap_alloc_new w2 _
      have hpl := src_lt HS2.out
      have HCc := Lib.hid (HC4.out (m + 2 + 2) _ w2.heap.size strange (by decide) (by decide) (by omega) (by omega) (HS2.out.alloc _) hi)
      have HTa := Lib.hid (HT2.out.trans (Turned.alloc p w2 (.cells (strange.map fun n => Value.int .i64 ((n : Nat) : Int)).toArray 2) hpl))
      clear hi hpl HC2 HC3 HC4
      go_wp2_with fail
      change Calls Tryz.prog 128 _ (w2.alloc (.cells (strange.map fun n => Value.int .i64 ((n : Nat) : Int)).toArray 2)) _
      refine HCc.out.mono ?_
      rintro e w3 ⟨⟨x, hx, rfl⟩, hs3, ht3⟩
      have HS3 := Lib.hid hs3
      have HT3 := Lib.hid (HTa.out.trans ht3)
      have hxl := strange_lt x hx
      clear hs3 ht3 hx HCc HTa HS2 HT2
      have HF := Lib.hid (l01From_calls x hxl w3)
      go_wp2_with fail
      refine HF.out.mono ?_
      rintro e w4 ⟨rfl, rfl⟩
      go_wp2_with fail
      go_ret
      exact ⟨⟨x, rfl, hxl⟩, HS3.out.le (by omega), HT3.out⟩
    · go_wp2_with fail
      refine (HC3.out _ 65536 _ (by decide) (by decide) (by omega) HS2.out).mono ?_
      rintro e w3 ⟨⟨x, rfl, hx⟩, hs3, ht3⟩
      have HS3 := Lib.hid hs3
      have HT3 := Lib.hid (HT2.out.trans ht3)
      clear hs3 ht3 HS2 HT2
      have Hx := Lib.hid hx; clear hx
      go_wp2_with fail
      refine (HC3.out _ 65536 _ (by decide) (by decide) (by omega) HS3.out).mono ?_
      rintro e w4 ⟨⟨y, rfl, hy⟩, hs4, ht4⟩
      have HS4 := Lib.hid hs4
      have HT4 := Lib.hid (HT3.out.trans ht4)
      clear hs4 ht4 HS3 HT3
      have hf := l01From_calls (x * 65536 + y) (by have := Hx.out; omega) w4
      have e2 : ((x * 65536 + y : Nat) : Int) = wrap64 (wrap64 ((x : Int) * 65536) + (y : Int)) := by
        have := Hx.out
        rw [w64' (a := (x : Int) * 65536) (by omega) (by omega), w64' (by omega) (by omega)]; omega
      rw [e2] at hf
      clear e2
      have Hy := Lib.hid hy; clear hy
      have HF := Lib.hid hf
      clear hf HC2 HC3 HC4
      go_wp2_with fail
      refine HF.out.mono ?_
      rintro e w5 ⟨rfl, rfl⟩
      go_wp2_with fail
      go_ret
      exact ⟨⟨x * 65536 + y, rfl, by have := Hx.out; have := Hy.out; omega⟩, HS4.out.le (by omega), HT4.out⟩
    · go_wp2_with fail
      refine (HC3.out _ 65536 _ (by decide) (by decide) (by omega) HS2.out).mono ?_
      rintro e w3 ⟨⟨x, rfl, hx⟩, hs3, ht3⟩
      have HS3 := Lib.hid hs3
      have HT3 := Lib.hid (HT2.out.trans ht3)
      clear hs3 ht3 HS2 HT2
      have hf := l01From_calls (x * 65536) (by omega) w3
      have e2 : ((x * 65536 : Nat) : Int) = wrap64 ((x : Int) * 65536) := by
        rw [w64' (by omega) (by omega)]; omega
      rw [e2] at hf
      clear e2
      have Hx := Lib.hid hx; clear hx
      have HF := Lib.hid hf
      clear hf HC2 HC3 HC4
      go_wp2_with fail
      refine HF.out.mono ?_
      rintro e w5 ⟨rfl, rfl⟩
      go_wp2_with fail
      go_ret
      exact ⟨⟨x * 65536, rfl, by have := Hx.out; omega⟩, HS3.out.le (by omega), HT3.out⟩
    · go_wp2_with fail
      refine (HC2.out _ _ (by omega) HS2.out).mono ?_
      rintro e w3 ⟨⟨a, rfl, ha⟩, hs3, ht3⟩
      have HS3 := Lib.hid hs3
      have HT3 := Lib.hid (HT2.out.trans ht3)
      clear hs3 ht3 HS2 HT2
      have hi : Ints (w3.alloc (.cells (powers.map fun n => Value.int .i64 ((n : Nat) : Int)).toArray 2)) w3.heap.size powers := heap_alloc_new w3 _
      have hpl := src_lt HS3.out
      have HCc := Lib.hid (HC4.out (m + 2 + 2 + 4) _ w3.heap.size powers (by decide) (by decide) (by omega) (by omega) (HS3.out.alloc _) hi)
      have HTa := Lib.hid (HT3.out.trans (Turned.alloc p w3 (.cells (powers.map fun n => Value.int .i64 ((n : Nat) : Int)).toArray 2) hpl))
      clear hi hpl HC2 HC3 HC4
      go_wp2_with fail
      change Calls Tryz.prog 128 _ (w3.alloc (.cells (powers.map fun n => Value.int .i64 ((n : Nat) : Int)).toArray 2)) _
      refine HCc.out.mono ?_
      rintro e w4 ⟨⟨x, hx, rfl⟩, hs4, ht4⟩
      have HS4 := Lib.hid hs4
      have HT4 := Lib.hid (HTa.out.trans ht4)
      have hxl := powers_lt x hx
      clear hs4 ht4 hx HCc HTa HS3 HT3
      have HF := Lib.hid (l01From_calls x hxl w4)
      have hq := fun W => run_fop Tryz.prog .mul (by simp) 29 .f32 a x W
      go_wp2_with fail
      refine HF.out.mono ?_
      rintro e w5 ⟨rfl, rfl⟩
      go_wp2_with fail
      go_ret
      obtain ⟨n, hn⟩ := fow_drawn .mul .f32 a x w5
      rw [hn]
      exact ⟨⟨_, rfl, fop_lt _ _ _ _⟩, (HS4.out.more (pw_below_drewN (Below.refl _ _) n)).le (by omega), HT4.out.trans (Turned.drawn p w5 n)⟩
end Go.Proofs.YticfmlohkfoccaaGreatDoor

/- Lists and single numbers that the laws draw out of bytes, walked: any bits, as many as asked. -/
set_option linter.unusedVariables false
set_option linter.unusedSimpArgs false
namespace Go.Proofs.YticfmlohkfoccaaGreatDoor
open Go.RowKit Go.Proofs.YticfmlohkfoccaaGreatDoorW.PrintWords

theorem Src.grow {W W2 : World} {p m B : Nat} (h : Src W p m) (k : Below B W W2) (hB : p < B) : Src W2 p m := by
  obtain ⟨A, n, c, a, z, h1, h2, h3, h4, h5⟩ := h.box
  refine ⟨A, n, c, a, z, (k.block p hB).trans h1, h2, h3, h4, fun i hi => ?_⟩
  obtain ⟨ad, b, e1, e2, e3, e4⟩ := h5 i hi
  exact ⟨ad, b, e1, e2, by rw [k.cell (p := ad.add i) (by rw [add_block]; omega)]; exact e3, e4⟩
theorem Turned.grow {p : Nat} {w W W2 : World} (h : Turned p w W) (k : Below w.heap.size W W2) (hp : p < w.heap.size) : Turned p w W2 :=
  ⟨Nat.le_trans h.siz k.size, fun j hj hl => (k.block j hl).trans (h.oth j hj hl), fun B w0 hb hB => (h.bel B w0 hb hB).trans ⟨k.os, k.tape, k.output, k.size, fun j hj => k.block j (by omega)⟩⟩
/-- A row that grows while a source is drawn from. -/
structure FWalk {α : Type} (d : Kd α) (e : Nat) (w : World) (p m : Nat) (v : Value) (o : List α) (W : World) : Prop where
  row : Kd.R d e W w.heap.size (fun k => k ≠ p) v o
  src : Src W p m
  tur : Turned p w W
  lt : p < w.heap.size
section
variable {α : Type} {d : Kd α} {e : Nat} {w W W2 : World} {p m m' : Nat} {v v1 : Value} {o o1 : List α}
theorem FWalk.more (h : FWalk d e w p m v o W) (hs : Src W2 p m') (ht : Turned p W W2) : FWalk d e w p m' v o W2 :=
  ⟨Kd.R_step h.row (fun k hk hl => ht.oth k hk hl), hs, h.tur.trans ht, h.lt⟩
theorem FWalk.next (h : FWalk d e w p m v o W) (ho : Kd.R d e W2 w.heap.size (fun k => k ≠ p) v1 o1) (hb : Below w.heap.size W W2) : FWalk d e w p m v1 o1 W2 :=
  ⟨ho, h.src.grow hb h.lt, h.tur.grow hb h.lt, h.lt⟩
theorem FWalk.fresh (h : FWalk d e w p m v o W) : ∀ k, W.heap.size ≤ k → k ≠ p := fun k hk => by
  have h1 := h.tur.siz
  have h2 := h.lt
  omega
end
/-- Some complex number of 32-bit parts. -/
def AnyC (e : Ending) : Prop := ∃ a b : Nat, e = .returned (.complex .f32 a b) ∧ a < 4294967296 ∧ b < 4294967296
set_option maxHeartbeats 1000000 in
set_option maxRecDepth 100000 in
theorem complex_calls (p m : Nat) (hm : m < 1000000) (w : World) (hs : Src w p m) : Calls Tryz.prog 84 #[.pointer (some ⟨p, 0, none⟩)] w (Draws p (m + 20) w AnyC) := by
  have HC := Lib.hid (fun m W (hm : m < 10000000) hs => float_calls p m hm W hs)
  have HS := Lib.hid hs
  clear hs
  go_enter Tryz.func84, Tryz.ntmps84
  go_wp2_with fail
  refine (HC.out m _ (by omega) HS.out).mono ?_
  rintro e w1 ⟨⟨a, rfl, ha⟩, hs1, ht1⟩
  have HS1 := Lib.hid hs1
  have HT1 := Lib.hid ht1
  clear hs1 ht1 HS
  go_wp2_with fail
  refine (HC.out _ _ (by omega) HS1.out).mono ?_
  rintro e w2 ⟨⟨b, rfl, hb⟩, hs2, ht2⟩
  have HS2 := Lib.hid hs2
  have HT2 := Lib.hid (HT1.out.trans ht2)
  clear hs2 ht2 HS1 HT1 HC
  go_wp2_with fail
  go_ret
  exact ⟨⟨a, b, rfl, ha, hb⟩, HS2.out.le (by omega), HT2.out⟩
set_option maxHeartbeats 1000000 in
set_option maxRecDepth 100000 in
theorem fine_calls (p m : Nat) (hm : m < 1000000) (w : World) (hs : Src w p m) : Calls Tryz.prog 85 #[.pointer (some ⟨p, 0, none⟩)] w (Draws p (m + 20) w AnyC) := by
  have HC := Lib.hid (fun m W (hm : m < 1000000000) hs => pick_calls p m 65 (by decide) (by decide) hm W hs)
  have HS := Lib.hid hs
  clear hs
  have hq := fun z W => run_fop Tryz.prog .quo (by simp) 29 .f32 z 1098907648 W
  go_enter Tryz.func85, Tryz.ntmps85
  go_wp2_with fail
  refine (HC.out m _ (by omega) HS.out).mono ?_
  rintro e w1 ⟨⟨r, rfl, hr⟩, hs1, ht1⟩
  have HS1 := Lib.hid hs1
  have HT1 := Lib.hid ht1
  clear hs1 ht1 HS
  obtain ⟨n1, hn1⟩ := fow_drawn .quo .f32 (floatOfInt .f32 ((r : Int) - 32)) 1098907648 w1
  have hl1 := fop_lt .quo (floatOfInt .f32 ((r : Int) - 32)) 1098907648 w1
  have HS1a := Lib.hid (HS1.out.more (pw_below_drewN (Below.refl _ _) n1))
  have HT1a := Lib.hid (HT1.out.trans (Turned.drawn p w1 n1))
  clear HS1 HT1
  go_wp2_with fail
  clear hn1
  generalize fop .quo .f32 (floatOfInt .f32 ((r : Int) - 32)) 1098907648 w1 = x1 at *
  generalize w1.drewN n1 = w2 at *
  refine (HC.out _ _ (by omega) HS1a.out).mono ?_
  rintro e w3 ⟨⟨r3, rfl, hr3⟩, hs3, ht3⟩
  have HS3 := Lib.hid hs3
  have HT3 := Lib.hid (HT1a.out.trans ht3)
  clear hs3 ht3 HS1a HT1a HC
  obtain ⟨n3, hn3⟩ := fow_drawn .quo .f32 (floatOfInt .f32 ((r3 : Int) - 32)) 1098907648 w3
  have hl3 := fop_lt .quo (floatOfInt .f32 ((r3 : Int) - 32)) 1098907648 w3
  go_wp2_with fail
  go_ret
  exact ⟨⟨_, _, rfl, hl1, hl3⟩, (HS3.out.more (pw_below_drewN (Below.refl _ _) n3)).le (by omega), HT3.out.trans (Turned.drawn p w3 n3)⟩
end Go.Proofs.YticfmlohkfoccaaGreatDoor

/- Lists of numbers that the laws draw out of bytes, walked: any bits, as many as asked. -/
set_option linter.unusedVariables false
set_option linter.unusedSimpArgs false
namespace Go.Proofs.YticfmlohkfoccaaGreatDoor
open Go.RowKit Go.Proofs.YticfmlohkfoccaaGreatDoorW.PrintWords

def goodF (x : Nat) : Prop := x < 4294967296
def goodC (x : Nat × Nat) : Prop := x.1 < 4294967296 ∧ x.2 < 4294967296

set_option maxHeartbeats 2000000 in
set_option maxRecDepth 100000 in
theorem floats_calls (p n : Nat) (hn : n ≤ 100) (w : World) (hs : Src w p 0) : Calls Tryz.prog 91 #[.pointer (some ⟨p, 0, none⟩), .int .i64 n] w fun e w' => ∃ v o, e = .returned v ∧ o.length = n ∧ (∀ x ∈ o, goodF x) ∧ Kd.R kF 29 w' w.heap.size (fun _ => True) v o ∧ Turned p w w' := by
  have HS := Lib.hid hs
  have hpl := src_lt hs
  have HC1 := Lib.hid (fun W (hs : Src W p 0) => one_calls p 0 4 (by decide) (by decide) (by decide) W hs)
  have HC2 := Lib.hid (fun m W (hm : m < 1000000) hs => float_calls p m (by omega) W hs)
  have HC3 := Lib.hid (fun m W (hm : m < 1000000) hs => plain_calls p m (by omega) W hs)
  clear hs
  go_enter Tryz.func91, Tryz.ntmps91
  go_wp2_with (first | ((with_reducible refine gate_dst (N := 7) rfl ?_); refine Kd.R_lit kF w.heap.size 29 ?hg (N := 7) ?hd (xs := ([] : List Nat)) (inner := []) (ok := fun _ => True) (okp := fun _ => True) ?hr ?hp (fun _ hk => hk) trivial (Below.refl w.heap.size w) (Nat.le_refl _) (by simp) ?_; (case hd => rfl); (case hg => rfl); (case hr => first | (go_simp; done) | (go_simp; rfl)); (case hp => exact (Reps.none _ _)); intro v2 w2 ho2 hb2 hg2 hnew2; clear hg2 hnew2))
  have HF0 : Hid (FWalk kF 29 w p 0 v2 [] w2) := Lib.hid ⟨Kd.R_mono (Kd.R_bound ho2) (fun k hk => by have := hk.2.1; omega), HS.out.grow hb2 hpl, (Turned.refl p w).grow hb2 hpl, hpl⟩
  clear ho2 hb2 HS
  refine (HC1.out _ HF0.out.src).mono ?_
  rintro e w3 ⟨⟨b, rfl⟩, hs3, ht3⟩
  have HF : Aside0 (FWalk kF 29 w p 2 v2 [] w3) := ⟨HF0.out.more hs3 ht3⟩
  clear hs3 ht3 HF0 HC1
  go_wp2_with fail
  go_loopw [1, 5] (fun c v wr => ∃ (k : Nat) (o : List Nat), c = .int .i64 ((n : Int) - (k : Int)) ∧ k ≤ n ∧ o.length = k ∧ Aside0 (∀ x ∈ o, goodF x) ∧ Aside0 (FWalk kF 29 w p (2 + 20 * k) v o wr)) (fun c _ _ => (intOf c).toNat)
  case atStart => exact ⟨0, [], by simp, by omega, rfl, ⟨by simp⟩, HF⟩
  case round =>
    clear HF
    obtain ⟨k, o, rfl, hk, hol, HA, HW⟩ := hrel
    by_cases hlt : k < n
    · have d1 : decide (0 < (n : Int) - (k : Int)) = true := decide_eq_true (by omega)
      have d2 : decide ((k : Int) < (n : Int)) = true := decide_eq_true (by omega)
      have d3 : decide (k < n) = true := decide_eq_true hlt
      cases b with
      | true =>
        go_wp2_with fail
        refine (HC2.out _ _ (by omega) HW.out.src).mono ?_
        rintro e w4 ⟨⟨x, rfl, hx⟩, hs4, ht4⟩
        have HW4 := Aside0.mk (HW.out.more hs4 ht4)
        have HA4 : Aside0 (∀ z ∈ o ++ [x], goodF z) := ⟨fun z hz => by
          rcases List.mem_append.1 hz with hz | hz
          · exact HA.out z hz
          · rw [List.mem_singleton.1 hz]; exact hx⟩
        clear hs4 ht4 HW HA
        go_wp2_with (first | ((with_reducible refine gate_builtin (b := .append) (xs := #[.tmp 15, .tmp 18]) rfl ?_); at_builtin; refine Kd.R_append kF (w0 := w4) w.heap.size rfl (.tmp 15) (.tmp 18) 63 29 (.float .f32 0) 4 rfl Tryz.underlying63 info29 rfl (by decide) (by omega) u5 o (x) [.float .f32 x] (fun k => k ≠ p) (fun _ => False) rfl rfl ?aP (fun _ hk => hk.elim) ?aF ?aO ?aB ?aS ?aL ?_; (case aP => exact rfl); (case aB => exact Below.refl _ _); (case aF => exact HW4.out.fresh); (case aO => exact HW4.out.row); (case aS => exact HW4.out.tur.siz); (case aL => omega); intro v5 w5 ho5 hb5 hg5 hat5; have HW5 := Aside0.mk (HW4.out.next ho5 hb5); clear ho5 hb5 hg5 hat5))
        go_roundw
        case rel => exact ⟨k + 1, o ++ [x], congrArg (Value.int IntKind.i64) (by omega), by omega, by simp; omega, HA4, ⟨⟨HW5.out.row, HW5.out.src.le (by omega), HW5.out.tur, HW5.out.lt⟩⟩⟩
        case measure => simp [intOf]; omega
      | false =>
        go_wp2_with fail
        refine (HC3.out _ _ (by omega) HW.out.src).mono ?_
        rintro e w4 ⟨⟨x, rfl, hx⟩, hs4, ht4⟩
        have HW4 := Aside0.mk (HW.out.more hs4 ht4)
        have HA4 : Aside0 (∀ z ∈ o ++ [x], goodF z) := ⟨fun z hz => by
          rcases List.mem_append.1 hz with hz | hz
          · exact HA.out z hz
          · rw [List.mem_singleton.1 hz]; exact hx⟩
        clear hs4 ht4 HW HA
        go_wp2_with (first | ((with_reducible refine gate_builtin (b := .append) (xs := #[.tmp 20, .tmp 23]) rfl ?_); at_builtin; refine Kd.R_append kF (w0 := w4) w.heap.size rfl (.tmp 20) (.tmp 23) 63 29 (.float .f32 0) 4 rfl Tryz.underlying63 info29 rfl (by decide) (by omega) u5 o (x) [.float .f32 x] (fun k => k ≠ p) (fun _ => False) rfl rfl ?aP (fun _ hk => hk.elim) ?aF ?aO ?aB ?aS ?aL ?_; (case aP => exact rfl); (case aB => exact Below.refl _ _); (case aF => exact HW4.out.fresh); (case aO => exact HW4.out.row); (case aS => exact HW4.out.tur.siz); (case aL => omega); intro v5 w5 ho5 hb5 hg5 hat5; have HW5 := Aside0.mk (HW4.out.next ho5 hb5); clear ho5 hb5 hg5 hat5))
        go_roundw
        case rel => exact ⟨k + 1, o ++ [x], congrArg (Value.int IntKind.i64) (by omega), by omega, by simp; omega, HA4, ⟨⟨HW5.out.row, HW5.out.src.le (by omega), HW5.out.tur, HW5.out.lt⟩⟩⟩
        case measure => simp [intOf]; omega
    · have d1 : decide (0 < (n : Int) - (k : Int)) = false := decide_eq_false (by omega)
      have d2 : decide ((k : Int) < (n : Int)) = false := decide_eq_false (by omega)
      have d3 : decide (k < n) = false := decide_eq_false hlt
      have Hol : Hid (o.length = n) := Lib.hid (by omega)
      go_wp2_with fail
      go_ret
      exact ⟨_, o, rfl, Hol.out, HA.out, Kd.R_mono HW.out.row (fun _ _ => trivial), HW.out.tur⟩

set_option maxHeartbeats 2000000 in
set_option maxRecDepth 100000 in
theorem complexes_calls (p n : Nat) (hn : n ≤ 100) (w : World) (hs : Src w p 0) : Calls Tryz.prog 71 #[.pointer (some ⟨p, 0, none⟩), .int .i64 n] w fun e w' => ∃ v o, e = .returned v ∧ o.length = n ∧ (∀ x ∈ o, goodC x) ∧ Kd.R kC 28 w' w.heap.size (fun _ => True) v o ∧ Turned p w w' := by
  have HS := Lib.hid hs
  have hpl := src_lt hs
  have HC1 := Lib.hid (fun W (hs : Src W p 0) => one_calls p 0 5 (by decide) (by decide) (by decide) W hs)
  have HC2 := Lib.hid (fun m W (hm : m < 1000000) hs => complex_calls p m hm W hs)
  have HC3 := Lib.hid (fun m W (hm : m < 1000000) hs => fine_calls p m hm W hs)
  clear hs
  go_enter Tryz.func71, Tryz.ntmps71
  go_wp2_with (first | ((with_reducible refine gate_dst (N := 7) rfl ?_); refine Kd.R_lit kC w.heap.size 28 ?hg (N := 7) ?hd (xs := ([] : List (Nat × Nat))) (inner := []) (ok := fun _ => True) (okp := fun _ => True) ?hr ?hp (fun _ hk => hk) trivial (Below.refl w.heap.size w) (Nat.le_refl _) (by simp) ?_; (case hd => rfl); (case hg => rfl); (case hr => first | (go_simp; done) | (go_simp; rfl)); (case hp => exact (Reps.none _ _)); intro v2 w2 ho2 hb2 hg2 hnew2; clear hg2 hnew2))
  have HF0 : Hid (FWalk kC 28 w p 0 v2 [] w2) := Lib.hid ⟨Kd.R_mono (Kd.R_bound ho2) (fun k hk => by have := hk.2.1; omega), HS.out.grow hb2 hpl, (Turned.refl p w).grow hb2 hpl, hpl⟩
  clear ho2 hb2 HS
  refine (HC1.out _ HF0.out.src).mono ?_
  rintro e w3 ⟨⟨b, rfl⟩, hs3, ht3⟩
  have HF : Aside0 (FWalk kC 28 w p 2 v2 [] w3) := ⟨HF0.out.more hs3 ht3⟩
  clear hs3 ht3 HF0 HC1
  go_wp2_with fail
  go_loopw [1, 5] (fun c v wr => ∃ (k : Nat) (o : List (Nat × Nat)), c = .int .i64 ((n : Int) - (k : Int)) ∧ k ≤ n ∧ o.length = k ∧ Aside0 (∀ x ∈ o, goodC x) ∧ Aside0 (FWalk kC 28 w p (2 + 20 * k) v o wr)) (fun c _ _ => (intOf c).toNat)
  case atStart => exact ⟨0, [], by simp, by omega, rfl, ⟨by simp⟩, HF⟩
  case round =>
    clear HF
    obtain ⟨k, o, rfl, hk, hol, HA, HW⟩ := hrel
    by_cases hlt : k < n
    · have d1 : decide (0 < (n : Int) - (k : Int)) = true := decide_eq_true (by omega)
      have d2 : decide ((k : Int) < (n : Int)) = true := decide_eq_true (by omega)
      have d3 : decide (k < n) = true := decide_eq_true hlt
      cases b with
      | true =>
        go_wp2_with fail
        refine (HC2.out _ _ (by omega) HW.out.src).mono ?_
        rintro e w4 ⟨⟨x, y, rfl, hx, hy⟩, hs4, ht4⟩
        have HW4 := Aside0.mk (HW.out.more hs4 ht4)
        have HA4 : Aside0 (∀ z ∈ o ++ [(x, y)], goodC z) := ⟨fun z hz => by
          rcases List.mem_append.1 hz with hz | hz
          · exact HA.out z hz
          · rw [List.mem_singleton.1 hz]; exact ⟨hx, hy⟩⟩
        clear hs4 ht4 HW HA
        go_wp2_with (first | ((with_reducible refine gate_builtin (b := .append) (xs := #[.tmp 15, .tmp 18]) rfl ?_); at_builtin; refine Kd.R_append kC (w0 := w4) w.heap.size rfl (.tmp 15) (.tmp 18) 37 28 (.complex .f32 0 0) 8 rfl Tryz.underlying37 info28 rfl (by decide) (by omega) u5 o ((x, y)) [.complex .f32 x y] (fun k => k ≠ p) (fun _ => False) rfl rfl ?aP (fun _ hk => hk.elim) ?aF ?aO ?aB ?aS ?aL ?_; (case aP => exact rfl); (case aB => exact Below.refl _ _); (case aF => exact HW4.out.fresh); (case aO => exact HW4.out.row); (case aS => exact HW4.out.tur.siz); (case aL => omega); intro v5 w5 ho5 hb5 hg5 hat5; have HW5 := Aside0.mk (HW4.out.next ho5 hb5); clear ho5 hb5 hg5 hat5))
        go_roundw
        case rel => exact ⟨k + 1, o ++ [(x, y)], congrArg (Value.int IntKind.i64) (by omega), by omega, by simp; omega, HA4, ⟨⟨HW5.out.row, HW5.out.src.le (by omega), HW5.out.tur, HW5.out.lt⟩⟩⟩
        case measure => simp [intOf]; omega
      | false =>
        go_wp2_with fail
        refine (HC3.out _ _ (by omega) HW.out.src).mono ?_
        rintro e w4 ⟨⟨x, y, rfl, hx, hy⟩, hs4, ht4⟩
        have HW4 := Aside0.mk (HW.out.more hs4 ht4)
        have HA4 : Aside0 (∀ z ∈ o ++ [(x, y)], goodC z) := ⟨fun z hz => by
          rcases List.mem_append.1 hz with hz | hz
          · exact HA.out z hz
          · rw [List.mem_singleton.1 hz]; exact ⟨hx, hy⟩⟩
        clear hs4 ht4 HW HA
        go_wp2_with (first | ((with_reducible refine gate_builtin (b := .append) (xs := #[.tmp 20, .tmp 23]) rfl ?_); at_builtin; refine Kd.R_append kC (w0 := w4) w.heap.size rfl (.tmp 20) (.tmp 23) 37 28 (.complex .f32 0 0) 8 rfl Tryz.underlying37 info28 rfl (by decide) (by omega) u5 o ((x, y)) [.complex .f32 x y] (fun k => k ≠ p) (fun _ => False) rfl rfl ?aP (fun _ hk => hk.elim) ?aF ?aO ?aB ?aS ?aL ?_; (case aP => exact rfl); (case aB => exact Below.refl _ _); (case aF => exact HW4.out.fresh); (case aO => exact HW4.out.row); (case aS => exact HW4.out.tur.siz); (case aL => omega); intro v5 w5 ho5 hb5 hg5 hat5; have HW5 := Aside0.mk (HW4.out.next ho5 hb5); clear ho5 hb5 hg5 hat5))
        go_roundw
        case rel => exact ⟨k + 1, o ++ [(x, y)], congrArg (Value.int IntKind.i64) (by omega), by omega, by simp; omega, HA4, ⟨⟨HW5.out.row, HW5.out.src.le (by omega), HW5.out.tur, HW5.out.lt⟩⟩⟩
        case measure => simp [intOf]; omega
    · have d1 : decide (0 < (n : Int) - (k : Int)) = false := decide_eq_false (by omega)
      have d2 : decide ((k : Int) < (n : Int)) = false := decide_eq_false (by omega)
      have d3 : decide (k < n) = false := decide_eq_false hlt
      have Hol : Hid (o.length = n) := Lib.hid (by omega)
      go_wp2_with fail
      go_ret
      exact ⟨_, o, rfl, Hol.out, HA.out, Kd.R_mono HW.out.row (fun _ _ => trivial), HW.out.tur⟩
end Go.Proofs.YticfmlohkfoccaaGreatDoor

/- What the laws draw out of bytes, walked: any bits; whole numbers within their bounds. -/
set_option linter.unusedVariables false
set_option linter.unusedSimpArgs false
namespace Go.Proofs.YticfmlohkfoccaaGreatDoor
open Go.RowKit Go.Proofs.YticfmlohkfoccaaGreatDoorW.PrintWords

/-- Bytes that can be read. -/
structure Code (W : World) (A : Option Addr) (n : Nat) : Prop where
  few : n ≤ 1048576
  cells : ∀ i, i < n → ∃ (ad : Addr) (b : Nat), A = some ad ∧ W.cell? (ad.add i) = some (.int .u8 ((b : Nat) : Int)) ∧ b < 256
theorem Code.more {W W2 : World} {A : Option Addr} {n : Nat} (h : Code W A n) (k : Below W.heap.size W W2) : Code W2 A n :=
  ⟨h.few, fun i hi => by
    obtain ⟨ad, b, h1, h2, h3⟩ := h.cells i hi
    exact ⟨ad, b, h1, pw_cell_below k h2, h3⟩⟩
def srcCells (A : Option Addr) (n c : Nat) : Obj := .cells #[.slice A n c, .int .i64 0, .int .u64 0] 135
theorem Code.src {W : World} {A : Option Addr} {n : Nat} (h : Code W A n) (c : Nat) : Src (W.alloc (srcCells A n c)) W.heap.size 0 := by
  refine ⟨A, n, c, 0, 0, heap_alloc_new W _, Nat.le_refl _, h.few, by decide, fun i hi => ?_⟩
  obtain ⟨ad, b, h1, h2, h3⟩ := h.cells i hi
  have hlt : ad.block < W.heap.size := by
    have := World.block_lt_of_cell? _ _ h2
    rwa [add_block] at this
  exact ⟨ad, b, h1, hlt, pw_cell_below ((Below.refl _ _).alloc (Nat.le_refl _) _) h2, h3⟩
set_option maxRecDepth 100000 in
theorem from_calls (A : Option Addr) (n c : Nat) (w : World) : Calls Tryz.prog 64 #[.slice A n c] w fun e w' => e = .returned (.pointer (some ⟨w.heap.size, 0, none⟩)) ∧ w' = w.alloc (srcCells A n c) := by
  go_enter Tryz.func64, Tryz.ntmps64
  go_wp2_with fail
  go_ret
  exact ⟨rfl, rfl⟩
theorem fresh_below (w : World) (o : Obj) {W : World} (h : Turned w.heap.size (w.alloc o) W) : Below w.heap.size w W :=
  h.bel _ _ ((Below.refl _ _).alloc (Nat.le_refl _) o) (Nat.le_refl _)
set_option maxHeartbeats 1000000 in
set_option maxRecDepth 100000 in
theorem number_calls (A : Option Addr) (n c : Nat) (w : World) (hc : Code w A n) : Calls Tryz.prog 30 #[.slice A n c] w fun e w' => AnyF e ∧ Below w.heap.size w w' := by
  have HC0 := Lib.hid (from_calls A n c w)
  have HS := Lib.hid (hc.src c)
  have HC1 := Lib.hid (fun p m k W (hk : 1 < k) (hk2 : k ≤ 65536) (hm : m < 1000000000) hs => pick_calls p m k hk hk2 hm W hs)
  have HC2 := Lib.hid (fun p m k W (hk : 1 < k) (hk2 : k ≤ 65536) (hm : m < 1000000000) hs => one_calls p m k hk hk2 hm W hs)
  have HC3 := Lib.hid (fun p m W (hm : m < 10000000) hs => float_calls p m hm W hs)
  clear hc
  go_enter Tryz.func30, Tryz.ntmps30
  go_wp2_with fail
  refine HC0.out.mono ?_
  rintro e w1 ⟨rfl, rfl⟩
  generalize hp : w.heap.size = p at *
  have HP := Lib.hid hp; clear hp HC0
  have HT : Hid (∀ W, Turned p (w.alloc (srcCells A n c)) W → Below p w W) := Lib.hid (fun W h => by
    have e := HP.out; subst e; exact fresh_below w _ h)
  generalize w.alloc (srcCells A n c) = w1 at *
  go_wp2_with fail
  refine (HC2.out _ _ 2 _ (by decide) (by decide) (by decide) HS.out).mono ?_
  rintro e w2 ⟨⟨b, rfl⟩, hs2, ht2⟩
  have HS2 := Lib.hid hs2
  have HT2 := Lib.hid ht2
  clear hs2 ht2 HS
  cases b with
  | false =>
    go_wp2_with fail
    refine (HC3.out _ _ _ (by decide) HS2.out).mono ?_
    rintro e w3 ⟨⟨x, rfl, hx⟩, hs3, ht3⟩
    have HB := Lib.hid (HT.out _ (HT2.out.trans ht3))
    clear hs3 ht3 HS2 HT2 HC1 HC2 HC3
    go_wp2_with fail
    go_ret
    exact ⟨⟨x, rfl, hx⟩, by rw [HP.out]; exact HB.out⟩
  | true =>
    go_wp2_with fail
    refine (HC1.out _ _ 65536 _ (by decide) (by decide) (by decide) HS2.out).mono ?_
    rintro e w3 ⟨⟨x, rfl, hx⟩, hs3, ht3⟩
    have HS3 := Lib.hid hs3
    have HT3 := Lib.hid (HT2.out.trans ht3)
    clear hs3 ht3 HS2 HT2
    have Hx := Lib.hid hx; clear hx
    go_wp2_with fail
    refine (HC1.out _ _ 65536 _ (by decide) (by decide) (by decide) HS3.out).mono ?_
    rintro e w4 ⟨⟨y, rfl, hy⟩, hs4, ht4⟩
    have HB4 := Lib.hid (HT.out _ (HT3.out.trans ht4))
    clear hs4 ht4 HS3 HT3
    have hf := l01From_calls (x * 65536 + y) (by have := Hx.out; omega) w4
    have e2 : ((x * 65536 + y : Nat) : Int) = wrap64 (wrap64 ((x : Int) * 65536) + (y : Int)) := by
      have := Hx.out
      rw [w64' (a := (x : Int) * 65536) (by omega) (by omega), w64' (by omega) (by omega)]; omega
    rw [e2] at hf
    clear e2
    have Hy := Lib.hid hy; clear hy
    have HF := Lib.hid hf
    clear hf HC1 HC2 HC3
    go_wp2_with fail
    refine HF.out.mono ?_
    rintro e w5 ⟨rfl, rfl⟩
    go_wp2_with fail
    go_ret
    exact ⟨⟨x * 65536 + y, rfl, by have := Hx.out; have := Hy.out; omega⟩, by rw [HP.out]; exact HB4.out⟩
set_option maxHeartbeats 1000000 in
set_option maxRecDepth 100000 in
theorem complexOf_calls (A : Option Addr) (n c : Nat) (w : World) (hc : Code w A n) : Calls Tryz.prog 33 #[.slice A n c] w fun e w' => AnyC e ∧ Below w.heap.size w w' := by
  have HC0 := Lib.hid (from_calls A n c w)
  have HS := Lib.hid (hc.src c)
  have HC2 := Lib.hid (fun p m k W (hk : 1 < k) (hk2 : k ≤ 65536) (hm : m < 1000000000) hs => one_calls p m k hk hk2 hm W hs)
  have HC3 := Lib.hid (fun p m W (hm : m < 1000000) hs => complex_calls p m hm W hs)
  have HC4 := Lib.hid (fun p m W (hm : m < 1000000) hs => fine_calls p m hm W hs)
  clear hc
  go_enter Tryz.func33, Tryz.ntmps33
  go_wp2_with fail
  refine HC0.out.mono ?_
  rintro e w1 ⟨rfl, rfl⟩
  generalize hp : w.heap.size = p at *
  have HP := Lib.hid hp; clear hp HC0
  have HT : Hid (∀ W, Turned p (w.alloc (srcCells A n c)) W → Below p w W) := Lib.hid (fun W h => by
    have e := HP.out; subst e; exact fresh_below w _ h)
  generalize w.alloc (srcCells A n c) = w1 at *
  go_wp2_with fail
  refine (HC2.out _ _ 4 _ (by decide) (by decide) (by decide) HS.out).mono ?_
  rintro e w2 ⟨⟨b, rfl⟩, hs2, ht2⟩
  have HS2 := Lib.hid hs2
  have HT2 := Lib.hid ht2
  clear hs2 ht2 HS
  cases b with
  | false =>
    go_wp2_with fail
    refine (HC4.out _ _ _ (by decide) HS2.out).mono ?_
    rintro e w3 ⟨⟨x, y, rfl, hx, hy⟩, hs3, ht3⟩
    have HB := Lib.hid (HT.out _ (HT2.out.trans ht3))
    clear hs3 ht3 HS2 HT2 HC2 HC3 HC4
    go_wp2_with fail
    go_ret
    exact ⟨⟨x, y, rfl, hx, hy⟩, by rw [HP.out]; exact HB.out⟩
  | true =>
    go_wp2_with fail
    refine (HC3.out _ _ _ (by decide) HS2.out).mono ?_
    rintro e w3 ⟨⟨x, y, rfl, hx, hy⟩, hs3, ht3⟩
    have HB := Lib.hid (HT.out _ (HT2.out.trans ht3))
    clear hs3 ht3 HS2 HT2 HC2 HC3 HC4
    go_wp2_with fail
    go_ret
    exact ⟨⟨x, y, rfl, hx, hy⟩, by rw [HP.out]; exact HB.out⟩

set_option maxHeartbeats 1000000 in
set_option maxRecDepth 100000 in
theorem drawnNumbers_calls (A : Option Addr) (n c k : Nat) (hk : k ≤ 100) (w : World) (hc : Code w A n) : Calls Tryz.prog 40 #[.slice A n c, .int .i64 k] w fun e w' => ∃ v o, e = .returned v ∧ o.length = k ∧ (∀ x ∈ o, goodF x) ∧ Out kF 29 w v o w' := by
  have HC0 := Lib.hid (from_calls A n c w)
  have HS := Lib.hid (hc.src c)
  have HC2 := Lib.hid (fun p W hs => floats_calls p k hk W hs)
  clear hc
  go_enter Tryz.func40, Tryz.ntmps40
  go_wp2_with fail
  refine HC0.out.mono ?_
  rintro e w1 ⟨rfl, rfl⟩
  have hsz : w.heap.size ≤ (w.alloc (srcCells A n c)).heap.size := by simp
  have HO : Hid (∀ v o W, Kd.R kF 29 W (w.alloc (srcCells A n c)).heap.size (fun _ => True) v o → Turned w.heap.size (w.alloc (srcCells A n c)) W → Out kF 29 w v o W) := Lib.hid (fun v o W h ht => ⟨Kd.R_lower h hsz, fresh_below w _ ht⟩)
  generalize hp : w.heap.size = p at HS
  have HP := Lib.hid hp; clear hp HC0 hsz
  have HO2 := HO
  rw [HP.out] at HO2
  clear HO
  generalize w.alloc (srcCells A n c) = w1 at *
  go_wp2_with fail
  refine (HC2.out _ _ HS.out).mono ?_
  rintro e w2 ⟨v, o, rfl, hol, hoa, hr, ht⟩
  have Hol := Lib.hid hol
  have Hoa := Lib.hid hoa
  have HOut := Lib.hid (HO2.out v o w2 hr ht)
  clear hol hoa hr ht HO2 HC2
  go_wp2_with fail
  go_ret
  exact ⟨v, o, rfl, Hol.out, Hoa.out, HOut.out⟩

set_option maxHeartbeats 1000000 in
set_option maxRecDepth 100000 in
theorem drawnAny_calls (A : Option Addr) (n c k : Nat) (hk : k ≤ 100) (w : World) (hc : Code w A n) : Calls Tryz.prog 26 #[.slice A n c, .int .i64 k] w fun e w' => ∃ v o, e = .returned v ∧ o.length = k ∧ (∀ x ∈ o, goodC x) ∧ Out kC 28 w v o w' := by
  have HC0 := Lib.hid (from_calls A n c w)
  have HS := Lib.hid (hc.src c)
  have HC2 := Lib.hid (fun p W hs => complexes_calls p k hk W hs)
  clear hc
  go_enter Tryz.func26, Tryz.ntmps26
  go_wp2_with fail
  refine HC0.out.mono ?_
  rintro e w1 ⟨rfl, rfl⟩
  have hsz : w.heap.size ≤ (w.alloc (srcCells A n c)).heap.size := by simp
  have HO : Hid (∀ v o W, Kd.R kC 28 W (w.alloc (srcCells A n c)).heap.size (fun _ => True) v o → Turned w.heap.size (w.alloc (srcCells A n c)) W → Out kC 28 w v o W) := Lib.hid (fun v o W h ht => ⟨Kd.R_lower h hsz, fresh_below w _ ht⟩)
  generalize hp : w.heap.size = p at HS
  have HP := Lib.hid hp; clear hp HC0 hsz
  have HO2 := HO
  rw [HP.out] at HO2
  clear HO
  generalize w.alloc (srcCells A n c) = w1 at *
  go_wp2_with fail
  refine (HC2.out _ _ HS.out).mono ?_
  rintro e w2 ⟨v, o, rfl, hol, hoa, hr, ht⟩
  have Hol := Lib.hid hol
  have Hoa := Lib.hid hoa
  have HOut := Lib.hid (HO2.out v o w2 hr ht)
  clear hol hoa hr ht HO2 HC2
  go_wp2_with fail
  go_ret
  exact ⟨v, o, rfl, Hol.out, Hoa.out, HOut.out⟩
end Go.Proofs.YticfmlohkfoccaaGreatDoor
