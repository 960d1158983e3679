/- The laws' marks on a row of grains, walked: they are set, and are found again. -/
import Derived.Test.YticfmlohkfoccaaGreatDoorH22
set_option linter.unusedVariables false
set_option linter.unusedSimpArgs false
namespace Go.Proofs.YticfmlohkfoccaaGreatDoor
open Go.RowKit Go.Proofs.YticfmlohkfoccaaGreatDoorW.PrintWords

def fz (z : Int) : Nat := floatOfInt .f32 z
/-- The marked grain, at a count. -/
def mG (z : Int) : G := ⟨fz z, 1065353216, fz (z + 1), 1065353216, fz (z + 1 + 1), fz (z + 1 + 1 + 1), fz (z + 1 + 1 + 1 + 1), fz (z + 1 + 1 + 1 + 1 + 1), (z + 1 + 1 + 1 + 1 + 1 + 1) % 3 == 0⟩
theorem fz_all : ∀ n : Nat, n < 200 → floatToFloatBits .f64 (floatOfInt .f64 (n : Int)) .f32 = some (fz (n : Int)) ∧ nan32 (fz (n : Int)) = false := by
  have : ∀ n ∈ List.range 200, floatToFloatBits .f64 (floatOfInt .f64 (n : Int)) .f32 = some (fz (n : Int)) ∧ nan32 (fz (n : Int)) = false := by decide +kernel
  exact fun n h => this n (List.mem_range.2 h)
theorem fz_conv (z : Int) (h0 : 0 ≤ z) (h1 : z < 200) : floatToFloatBits .f64 (floatOfInt .f64 z) .f32 = some (fz z) ∧ nan32 (fz z) = false := by
  obtain ⟨n, rfl⟩ : ∃ n : Nat, z = n := ⟨z.toNat, by omega⟩
  exact fz_all n (by omega)
theorem run_mark (z : Int) (h0 : 0 ≤ z) (h1 : z < 200) (W : World) : (convert 56 28 (.complex .f64 (floatOfInt .f64 z) 4607182418800017408)).run Tryz.prog W = .ok (.complex .f32 (fz z) 1065353216) W :=
  run_convert_complex W 56 28 .f64 .f32 _ _ _ _ (by rw [Tryz.underlying56]; rfl) Tryz.underlying28 (by
    unfold cConvBits
    rw [(fz_conv z h0 h1).1, show floatToFloatBits .f64 4607182418800017408 .f32 = some 1065353216 by decide +kernel]
    rfl)

/-- A row's block of memory. -/
def RB (W : World) (g : Nat) (cur : Array Value) : Prop := W.heap[g]? = some (.cells cur 31 (0, 0))
theorem RB.cell {W : World} {g : Nat} {cur : Array Value} (h : RB W g cur) (i : Nat) (hi : i < cur.size) : W.cell? ⟨g, i, none⟩ = some cur[i] := by
  rw [Lib.cell_of_heap h i, Array.getElem?_eq_getElem hi]
theorem RB.thaw {W : World} {g : Nat} {cur : Array Value} (h : RB W g cur) (i : Nat) : W.frozen? ⟨g, i, none⟩ = false := Lib.frozen_of_heap h i
theorem RB.set {W : World} {g : Nat} {cur : Array Value} (h : RB W g cur) (i : Nat) (v : Value) : RB (W.setCell ⟨g, i, none⟩ v) g (cur.setIfInBounds i v) := heap_setCell (i := i) _ h
theorem RB.more {W W2 : World} {g : Nat} {cur : Array Value} (h : RB W g cur) (k : Below W.heap.size W W2) : RB W2 g cur := by
  obtain ⟨hlt, _⟩ := Array.getElem?_eq_some_iff.1 h
  exact (k.block g hlt).trans h
def setG (cur : Array Value) (o : Nat) (g : G) : Array Value := ((((((cur.setIfInBounds o (.complex .f32 g.a g.b)).setIfInBounds (o + 1) (.complex .f32 g.c g.d)).setIfInBounds (o + 2) (.float .f32 g.r)).setIfInBounds (o + 3) (.float .f32 g.m)).setIfInBounds (o + 4) (.float .f32 g.t)).setIfInBounds (o + 5) (.float .f32 g.s)).setIfInBounds (o + 6) (.bool g.h)
def putAt (W : World) (p o : Nat) (g : G) : World := ((((((W.setCell ⟨p, o, none⟩ (.complex .f32 g.a g.b)).setCell ⟨p, o + 1, none⟩ (.complex .f32 g.c g.d)).setCell ⟨p, o + 2, none⟩ (.float .f32 g.r)).setCell ⟨p, o + 3, none⟩ (.float .f32 g.m)).setCell ⟨p, o + 4, none⟩ (.float .f32 g.t)).setCell ⟨p, o + 5, none⟩ (.float .f32 g.s)).setCell ⟨p, o + 6, none⟩ (.bool g.h)
theorem RB.put {W : World} {p : Nat} {cur : Array Value} (h : RB W p cur) (o : Nat) (g : G) : RB (putAt W p o g) p (setG cur o g) := ((((((h.set o _).set (o + 1) _).set (o + 2) _).set (o + 3) _).set (o + 4) _).set (o + 5) _).set (o + 6) _
theorem setG_size (cur : Array Value) (o : Nat) (g : G) : (setG cur o g).size = cur.size := by simp [setG]
theorem setG_low (cur : Array Value) (o : Nat) (g : G) (i : Nat) (h : i < o) : (setG cur o g)[i]? = cur[i]? := by
  unfold setG
  simp only [Array.getElem?_setIfInBounds]
  repeat rw [if_neg (by omega)]
theorem setG_at (cur : Array Value) (o : Nat) (g : G) (h : o + 7 ≤ cur.size) : ∀ i v, g.cells.toList[i]? = some v → (setG cur o g)[o + i]? = some v := by
  intro i v hv
  have hi : i < 7 := by
    have := List.getElem?_eq_some_iff.1 hv
    obtain ⟨hlt, _⟩ := this
    simpa [G.cells] using hlt
  unfold setG
  simp only [Array.getElem?_setIfInBounds, Array.size_setIfInBounds]
  obtain rfl | rfl | rfl | rfl | rfl | rfl | rfl : i = 0 ∨ i = 1 ∨ i = 2 ∨ i = 3 ∨ i = 4 ∨ i = 5 ∨ i = 6 := by omega
  all_goals (
    simp only [G.cells] at hv
    repeat (first | rw [if_neg (by omega)] | rw [if_pos (by omega), if_pos (by omega)])
    exact hv)
theorem below_putAt {B : Nat} {w W : World} (hb : Below B w W) {p : Nat} (hp : B ≤ p) (o : Nat) (g : G) : Below B w (putAt W p o g) :=
  ((((((hb.setCell (p := ⟨p, o, none⟩) hp _).setCell (p := ⟨p, o + 1, none⟩) hp _).setCell (p := ⟨p, o + 2, none⟩) hp _).setCell (p := ⟨p, o + 3, none⟩) hp _).setCell (p := ⟨p, o + 4, none⟩) hp _).setCell (p := ⟨p, o + 5, none⟩) hp _).setCell (p := ⟨p, o + 6, none⟩) hp _
theorem putAt_size (W : World) (p o : Nat) (g : G) : (putAt W p o g).heap.size = W.heap.size := by simp [putAt]
theorem putAt_heap (W : World) (p o : Nat) (g : G) (k : Nat) (h : k ≠ p) : (putAt W p o g).heap[k]? = W.heap[k]? := by
  have hs : ∀ (W : World) i v, (W.setCell ⟨p, i, none⟩ v).heap[k]? = W.heap[k]? := fun W i v => Below.heap_setCell W ⟨p, i, none⟩ v k h
  unfold putAt
  rw [hs, hs, hs, hs, hs, hs, hs]
/-- The first n of a row are marked. -/
structure Marks (w0 w1 : World) (B g n len : Nat) (W : World) : Prop where
  row : 0 < len → ∃ cur, RB W g cur ∧ len * 7 ≤ cur.size ∧ ∀ j, j < n → ∀ i v, (mG (1 + 7 * (j : Int))).cells.toList[i]? = some v → cur[j * 7 + i]? = some v
  bel : Below B w1 W
  le : B ≤ w1.heap.size
  siz : w0.heap.size ≤ W.heap.size
  oth : ∀ k, k ≠ g → k < w0.heap.size → W.heap[k]? = w0.heap[k]?
theorem Marks.more {w0 w1 : World} {B g n len : Nat} {W W2 : World} (h : Marks w0 w1 B g n len W) (k : Below W.heap.size W W2) : Marks w0 w1 B g n len W2 :=
  ⟨fun hl => by
    obtain ⟨cur, hr, hs, hm⟩ := h.row hl
    exact ⟨cur, hr.more k, hs, hm⟩, below_then h.bel (Nat.le_trans h.le h.bel.size) k, h.le, Nat.le_trans h.siz k.size, fun j hj hl => (k.block j (Nat.lt_of_lt_of_le hl h.siz)).trans (h.oth j hj hl)⟩
theorem Marks.next {w0 w1 : World} {B g n len : Nat} {W : World} (h : Marks w0 w1 B g n len W) (hn : n < len) (hB : B ≤ g) : Marks w0 w1 B g (n + 1) len (putAt W g (n * 7) (mG (1 + 7 * (n : Int)))) := by
  obtain ⟨cur, hr, hs, hm⟩ := h.row (by omega)
  refine ⟨fun _ => ⟨_, hr.put (n * 7) _, by rw [setG_size]; exact hs, fun j hj i v hv => ?_⟩, below_putAt h.bel hB _ _, h.le, by rw [putAt_size]; exact h.siz, fun j hj hl => (putAt_heap W g _ _ j hj).trans (h.oth j hj hl)⟩
  have hi : i < 7 := by
    obtain ⟨hlt, _⟩ := List.getElem?_eq_some_iff.1 hv
    simpa [G.cells] using hlt
  by_cases hjn : j = n
  · subst hjn
    exact setG_at cur (j * 7) _ (by omega) i v hv
  · rw [setG_low cur (n * 7) _ (j * 7 + i) (by omega)]
    exact hm j (by omega) i v hv
theorem Marks.get {w0 w1 : World} {B g n len : Nat} {W : World} (h : Marks w0 w1 B g n len W) (hl : n ≤ len) (j : Nat) (hj : j < n) : GAt W g (j * 7) (mG (1 + 7 * (j : Int))) := by
  obtain ⟨cur, hr, hs, hm⟩ := h.row (by omega)
  have hc : ∀ i v, (mG (1 + 7 * (j : Int))).cells.toList[i]? = some v → W.cell? ⟨g, j * 7 + i, none⟩ = some v := fun i v hv => by
    rw [Lib.cell_of_heap hr]
    exact hm j hj i v hv
  exact ⟨hc 0 _ rfl, hc 1 _ rfl, hc 2 _ rfl, hc 3 _ rfl, hc 4 _ rfl, hc 5 _ rfl, hc 6 _ rfl⟩

set_option maxHeartbeats 1000000 in
set_option maxRecDepth 100000 in
theorem markGrainS_calls (A : Option Addr) (g n c : Nat) (hA : 0 < n → A = some ⟨g, 0, none⟩) (hn : n ≤ 24) (w0 w1 : World) (B : Nat) (hB : B ≤ g) (w : World) (h0 : Marks w0 w1 B g 0 n w) :
    Calls Tryz.prog 105 #[.slice A n c, .int .i64 1] w fun e w' => e = .returned (.int .i64 (1 + 7 * (n : Int))) ∧ Marks w0 w1 B g n n w' := by
  have H0 := Aside0.mk h0; clear h0
  go_enter Tryz.func105, Tryz.ntmps105
  go_wp2_with fail
  go_loopw [1, 5] (fun m i wr => ∃ (k : Nat), m = .int .i64 (1 + 7 * (k : Int)) ∧ i = .int .i64 k ∧ k ≤ n ∧ Aside0 (Marks w0 w1 B g k n wr)) (fun _ i _ => n - (intOf i).toNat)
  case atStart => exact ⟨0, rfl, rfl, by omega, H0⟩
  case round =>
    obtain ⟨k, rfl, rfl, hk, HM⟩ := hrel
    by_cases hlt : k < n
    · have d1 : decide ((k : Int) < (n : Int)) = true := decide_eq_true (by omega)
      have d1' : decide (k < n) = true := decide_eq_true hlt
      obtain rfl := hA (by omega)
      obtain ⟨cur, hr, hs, _⟩ := HM.out.row (by omega)
      have q0 := hr.cell (k * 7) (by omega)
      have q1 := hr.cell (k * 7 + 1) (by omega)
      have q2 := hr.cell (k * 7 + 2) (by omega)
      have q3 := hr.cell (k * 7 + 3) (by omega)
      have q4 := hr.cell (k * 7 + 4) (by omega)
      have q5 := hr.cell (k * 7 + 5) (by omega)
      have q6 := hr.cell (k * 7 + 6) (by omega)
      generalize cur[k * 7] = x0 at *
      generalize cur[k * 7 + 1] = x1 at *
      generalize cur[k * 7 + 2] = x2 at *
      generalize cur[k * 7 + 3] = x3 at *
      generalize cur[k * 7 + 4] = x4 at *
      generalize cur[k * 7 + 5] = x5 at *
      generalize cur[k * 7 + 6] = x6 at *
      have f0 := hr.thaw (k * 7)
      have f1 := hr.thaw (k * 7 + 1)
      have f2 := hr.thaw (k * 7 + 2)
      have f3 := hr.thaw (k * 7 + 3)
      have f4 := hr.thaw (k * 7 + 4)
      have f5 := hr.thaw (k * 7 + 5)
      have f6 := hr.thaw (k * 7 + 6)
      have r1 := store_cm
      have r2 := store_fm
      have c0 := run_mark (1 + 7 * (k : Int)) (by omega) (by omega)
      have c1 := run_mark (1 + 7 * (k : Int) + 1) (by omega) (by omega)
      have HM2 := Aside0.mk (HM.out.next hlt hB)
      clear hr hs HM
      go_wp2_with fail
      refine ⟨⟨k + 1, congrArg (Value.int IntKind.i64) (by omega), congrArg (Value.int IntKind.i64) (by omega), by omega, HM2⟩, ?_⟩
      simp [intOf]; omega
    · have hkn : k = n := by omega
      subst hkn
      have d1 : decide ((k : Int) < (k : Int)) = false := decide_eq_false (by omega)
      have d1' : decide (k < k) = false := decide_eq_false (by omega)
      go_wp2_with fail
      go_ret
      exact ⟨rfl, HM.out⟩

set_option maxHeartbeats 1000000 in
set_option maxRecDepth 100000 in
theorem heldGrainS_calls (A : Option Addr) (g n c : Nat) (hA : 0 < n → A = some ⟨g, 0, none⟩) (hn : n ≤ 24) (w0 w1 : World) (B : Nat) (w : World) (h0 : Marks w0 w1 B g n n w) :
    Calls Tryz.prog 106 #[.slice A n c, .int .i64 1] w fun e w' => e = .returned (.int .i64 (1 + 7 * (n : Int))) ∧ ∃ m, w' = w.drewN m := by
  have HM : Hid (∀ m j, j < n → GAt (w.drewN m) g (j * 7) (mG (1 + 7 * (j : Int)))) := Lib.hid (fun m j hj => (h0.get (Nat.le_refl _) j hj).more (pw_below_drewN (Below.refl _ _) m))
  clear h0
  go_enter Tryz.func106, Tryz.ntmps106
  go_wp2_with fail
  go_loopw [1, 5] (fun m i wr => ∃ (k : Nat), m = .int .i64 (1 + 7 * (k : Int)) ∧ i = .int .i64 k ∧ k ≤ n ∧ Aside0 (∃ m, wr = w.drewN m)) (fun _ i _ => n - (intOf i).toNat)
  case atStart => exact ⟨0, rfl, rfl, by omega, ⟨0, rfl⟩⟩
  case round =>
    obtain ⟨k, rfl, rfl, hk, HW⟩ := hrel
    by_cases hlt : k < n
    · have d1 : decide ((k : Int) < (n : Int)) = true := decide_eq_true (by omega)
      have d1' : decide (k < n) = true := decide_eq_true hlt
      obtain rfl := hA (by omega)
      obtain ⟨m, hwm⟩ := HW.out
      obtain ⟨q0, q1, q2, q3, q4, q5, q6⟩ := HM.out m k hlt
      rw [← hwm] at q0 q1 q2 q3 q4 q5 q6
      have HW2 : Aside0 (∃ m, wr = w.drewN m) := ⟨⟨m, hwm⟩⟩
      clear hwm HW
      unfold mG at q0 q1 q2 q3 q4 q5 q6
      have c0 := run_mark (1 + 7 * (k : Int)) (by omega) (by omega)
      have c1 := run_mark (1 + 7 * (k : Int) + 1) (by omega) (by omega)
      have n0 : (FloatKind.f32.format.order (fz (1 + 7 * (k : Int))) (fz (1 + 7 * (k : Int))) != some Ordering.eq) = false := (ne_self _).trans (fz_conv _ (by omega) (by omega)).2
      have n1 : (FloatKind.f32.format.order (fz (1 + 7 * (k : Int) + 1)) (fz (1 + 7 * (k : Int) + 1)) != some Ordering.eq) = false := (ne_self _).trans (fz_conv _ (by omega) (by omega)).2
      have n2 : (FloatKind.f32.format.order (fz (1 + 7 * (k : Int) + 1 + 1)) (fz (1 + 7 * (k : Int) + 1 + 1)) != some Ordering.eq) = false := (ne_self _).trans (fz_conv _ (by omega) (by omega)).2
      have n3 : (FloatKind.f32.format.order (fz (1 + 7 * (k : Int) + 1 + 1 + 1)) (fz (1 + 7 * (k : Int) + 1 + 1 + 1)) != some Ordering.eq) = false := (ne_self _).trans (fz_conv _ (by omega) (by omega)).2
      have n4 : (FloatKind.f32.format.order (fz (1 + 7 * (k : Int) + 1 + 1 + 1 + 1)) (fz (1 + 7 * (k : Int) + 1 + 1 + 1 + 1)) != some Ordering.eq) = false := (ne_self _).trans (fz_conv _ (by omega) (by omega)).2
      have n5 : (FloatKind.f32.format.order (fz (1 + 7 * (k : Int) + 1 + 1 + 1 + 1 + 1)) (fz (1 + 7 * (k : Int) + 1 + 1 + 1 + 1 + 1)) != some Ordering.eq) = false := (ne_self _).trans (fz_conv _ (by omega) (by omega)).2
      have no : (FloatKind.f32.format.order 1065353216 1065353216 != some Ordering.eq) = false := by rfl
      have e0 : (FloatKind.f32.format.order (fz (1 + 7 * (k : Int))) (fz (1 + 7 * (k : Int))) == some Ordering.eq) = true := by simpa [bne] using n0
      have e1 : (FloatKind.f32.format.order (fz (1 + 7 * (k : Int) + 1)) (fz (1 + 7 * (k : Int) + 1)) == some Ordering.eq) = true := by simpa [bne] using n1
      have eo : (FloatKind.f32.format.order 1065353216 1065353216 == some Ordering.eq) = true := by rfl
      have he : ∀ z, floatOfInt .f32 z = fz z := fun _ => rfl
      go_wp2_with fail
      refine ⟨⟨k + 1, congrArg (Value.int IntKind.i64) (by omega), congrArg (Value.int IntKind.i64) (by omega), by omega, HW2⟩, ?_⟩
      simp [intOf]; omega
    · have hkn : k = n := by omega
      subst hkn
      have d1 : decide ((k : Int) < (k : Int)) = false := decide_eq_false (by omega)
      have d1' : decide (k < k) = false := decide_eq_false (by omega)
      go_wp2_with fail
      go_ret
      exact ⟨rfl, HW.out⟩

set_option maxHeartbeats 1000000 in
set_option maxRecDepth 100000 in
theorem markHeap_calls (A : Option Addr) (g n c : Nat) (hA : 0 < n → A = some ⟨g, 0, none⟩) (hn : n ≤ 24) (w0 w1 : World) (B : Nat) (hB : B ≤ g) (w : World) (h0 : Marks w0 w1 B g 0 n w) :
    Calls Tryz.prog 52 #[.agg #[.slice A n c], .int .i64 1] w fun e w' => e = .returned (.int .i64 (1 + 7 * (n : Int))) ∧ Marks w0 w1 B g n n w' := by
  have hb0 : Below w.heap.size w (w.alloc (.cells #[.slice A n c] 73)) := (Below.refl w.heap.size w).alloc (Nat.le_refl _) _
  have q1 := (BoxH.new w (.slice A n c)).at
  have HC := Lib.hid (markGrainS_calls A g n c hA hn w0 w1 B hB _ (h0.more hb0))
  clear hb0 h0 hA
  go_enter Tryz.func52, Tryz.ntmps52
  go_wp2_with fail
  refine HC.out.mono ?_
  rintro e W1 ⟨rfl, hb⟩
  have HB1 := Lib.hid hb
  clear hb HC q1
  go_wp2
  go_ret
  exact ⟨rfl, HB1.out⟩
set_option maxHeartbeats 1000000 in
set_option maxRecDepth 100000 in
theorem heldHeap_calls (A : Option Addr) (g n c : Nat) (hA : 0 < n → A = some ⟨g, 0, none⟩) (hn : n ≤ 24) (w0 w1 : World) (B : Nat) (w : World) (h0 : Marks w0 w1 B g n n w) :
    Calls Tryz.prog 53 #[.agg #[.slice A n c], .int .i64 1] w fun e w' => e = .returned (.int .i64 (1 + 7 * (n : Int))) ∧ Below w.heap.size w w' := by
  have hb0 : Below w.heap.size w (w.alloc (.cells #[.slice A n c] 73)) := (Below.refl w.heap.size w).alloc (Nat.le_refl _) _
  have q1 := (BoxH.new w (.slice A n c)).at
  have HC := Lib.hid (heldGrainS_calls A g n c hA hn w0 w1 B _ (h0.more hb0))
  have HB := Lib.hid hb0
  have hneg : decide (1 + 7 * (n : Int) < 0) = false := decide_eq_false (by omega)
  clear hb0 h0 hA
  go_enter Tryz.func53, Tryz.ntmps53
  go_wp2_with fail
  refine HC.out.mono ?_
  rintro e W1 ⟨rfl, m, rfl⟩
  have HB1 := Lib.hid (pw_below_drewN HB.out m)
  clear HB HC q1
  go_wp2_with fail
  go_ret
  exact ⟨rfl, HB1.out⟩
end Go.Proofs.YticfmlohkfoccaaGreatDoor
