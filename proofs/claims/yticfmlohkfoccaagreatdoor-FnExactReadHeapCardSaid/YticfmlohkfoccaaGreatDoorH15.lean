/- The laws' equality of grains, walked: it is true of a grain of finite numbers and itself. -/
import Derived.Test.YticfmlohkfoccaaGreatDoorH15a
set_option linter.unusedVariables false
set_option linter.unusedSimpArgs false
namespace Go.Proofs.YticfmlohkfoccaaGreatDoor
open Go.RowKit Go.Proofs.YticfmlohkfoccaaGreatDoorW.PrintWords

set_option maxRecDepth 100000 in
theorem sameFloat_calls (x : Nat) (hx : num64 x) (w : World) : Calls Tryz.prog 63 #[.float .f64 x, .float .f64 x] w fun e w' => e = .returned (.bool true) ∧ w' = w := by
  have ho := order_self hx
  have ho1 : (FloatKind.f64.format.order x x != some Ordering.eq) = false := by rw [ho]; rfl
  have ho2 : (FloatKind.f64.format.order x x == some Ordering.eq) = true := by rw [ho]; rfl
  clear ho
  cases hz : (FloatKind.f64.format.order x 0 == some Ordering.eq) with
  | true =>
    obtain ⟨q, hq⟩ := one_by hx hz
    have hd := fun w => run_float_arith (P := Tryz.prog) w .quo 57 .f64 4607182418800017408 x q hq
    have hp : ∃ p, (FloatKind.f64.format.order q 0 == some Ordering.gt) = p := ⟨_, rfl⟩
    obtain ⟨p, hp⟩ := hp
    clear hx hq
    go_enter Tryz.func63, Tryz.ntmps63
    go_wp2_with fail
    go_ret
    exact ⟨by first | rfl | simp, rfl⟩
  | false =>
    clear hx
    go_enter Tryz.func63, Tryz.ntmps63
    go_wp2_with fail
    go_ret
    exact ⟨by first | rfl | simp, rfl⟩
set_option maxRecDepth 100000 in
theorem sameComplex_calls (x y : Nat) (hx : num64 x) (hy : num64 y) (w : World) : Calls Tryz.prog 62 #[.complex .f64 x y, .complex .f64 x y] w fun e w' => e = .returned (.bool true) ∧ w' = w := by
  have HC1 := Lib.hid (fun W => sameFloat_calls x hx W)
  have HC2 := Lib.hid (fun W => sameFloat_calls y hy W)
  clear hx hy
  go_enter Tryz.func62, Tryz.ntmps62
  go_wp2_with fail
  refine (HC1.out _).mono ?_
  rintro e w1 ⟨rfl, rfl⟩
  go_wp2_with fail
  refine (HC2.out _).mono ?_
  rintro e w1 ⟨rfl, rfl⟩
  go_wp2
  go_ret
  exact ⟨rfl, rfl⟩
/-- All of a grain's numbers are finite. -/
def G.finite (g : G) : Prop := fin g.a = true ∧ fin g.b = true ∧ fin g.c = true ∧ fin g.d = true ∧ fin g.r = true ∧ fin g.m = true ∧ fin g.t = true ∧ fin g.s = true
theorem G.ok_finite {g : G} (h : g.ok = true) : g.finite := by
  unfold G.ok at h
  simp only [Bool.and_eq_true] at h
  obtain ⟨⟨⟨⟨⟨h1, h2⟩, h3, h4⟩, ⟨⟨h5, h6⟩, h7⟩, h8⟩, _⟩, _⟩ := h
  exact ⟨h1, h2, h3, h4, h5, h6, h7, h8⟩
theorem run_widen (b : Nat) (h : fin b = true) (W : World) : (convert 29 57 (.float .f32 b)).run Tryz.prog W = .ok (.float .f64 (wide b)) W :=
  run_convert_float_float W 29 57 .f32 .f64 b (wide b) (by rw [Tryz.underlying29]; rfl) Tryz.underlying57 (wide_read b h).2
theorem run_widenC (a b : Nat) (h1 : fin a = true) (h2 : fin b = true) (W : World) : (convert 28 56 (.complex .f32 a b)).run Tryz.prog W = .ok (.complex .f64 (wide a) (wide b)) W :=
  run_convert_complex W 28 56 .f32 .f64 a b (wide a) (wide b) (by rw [Tryz.underlying28]; rfl) Tryz.underlying56 (wide_complex a b h1 h2)

set_option maxHeartbeats 2000000 in
set_option maxRecDepth 100000 in
theorem eqGrain_calls (g : G) (hf : g.finite) (w : World) : Calls Tryz.prog 15 #[.agg g.cells, .agg g.cells] w fun e w' => e = .returned (.bool true) ∧ Below w.heap.size w w' := by
  have hb0 : Below w.heap.size w (w.alloc (.cells g.cells 31)) := (Below.refl w.heap.size w).alloc (Nat.le_refl _) _
  have HB : Hid (Below w.heap.size w ((w.alloc (.cells g.cells 31)).alloc (.cells g.cells 31))) := Lib.hid (hb0.alloc hb0.size _)
  have hX1 : Boxed ((w.alloc (.cells g.cells 31)).alloc (.cells g.cells 31)) w.heap.size g := Boxed.more (W := w.alloc (.cells g.cells 31)) (heap_alloc_new w _) ((Below.refl _ _).alloc (Nat.le_refl _) _)
  have hX2 : Boxed ((w.alloc (.cells g.cells 31)).alloc (.cells g.cells 31)) (w.heap.size + 1) g := by
    have e : (w.alloc (.cells g.cells 31)).heap.size = w.heap.size + 1 := by simp
    rw [← e]; exact heap_alloc_new _ _
  obtain ⟨a, b, c, d, r, m, t, s, h⟩ := g
  obtain ⟨h1, h2, h3, h4, h5, h6, h7, h8⟩ := hf
  simp only at h1 h2 h3 h4 h5 h6 h7 h8
  have v1 := run_widenC a b h1 h2
  have v2 := run_widenC c d h3 h4
  have v3 := run_widen r h5
  have v4 := run_widen m h6
  have v5 := run_widen t h7
  have v6 := run_widen s h8
  have C1 := Lib.hid (fun W => sameComplex_calls _ _ (wide_read a h1).1 (wide_read b h2).1 W)
  have C2 := Lib.hid (fun W => sameComplex_calls _ _ (wide_read c h3).1 (wide_read d h4).1 W)
  have C3 := Lib.hid (fun W => sameFloat_calls _ (wide_read r h5).1 W)
  have C4 := Lib.hid (fun W => sameFloat_calls _ (wide_read m h6).1 W)
  have C5 := Lib.hid (fun W => sameFloat_calls _ (wide_read t h7).1 W)
  have C6 := Lib.hid (fun W => sameFloat_calls _ (wide_read s h8).1 W)
  clear h1 h2 h3 h4 h5 h6 h7 h8
  obtain ⟨q0, q1, q2, q3, q4, q5, q6⟩ := hX1.at
  obtain ⟨p0, p1, p2, p3, p4, p5, p6⟩ := hX2.at
  clear hX1 hX2 hb0
  go_enter Tryz.func15, Tryz.ntmps15
  go_wp2_with fail
  refine (C1.out _).mono ?_
  rintro e w1 ⟨rfl, rfl⟩
  go_wp2_with fail
  refine (C2.out _).mono ?_
  rintro e w1 ⟨rfl, rfl⟩
  go_wp2_with fail
  refine (C3.out _).mono ?_
  rintro e w1 ⟨rfl, rfl⟩
  go_wp2_with fail
  refine (C4.out _).mono ?_
  rintro e w1 ⟨rfl, rfl⟩
  go_wp2_with fail
  refine (C5.out _).mono ?_
  rintro e w1 ⟨rfl, rfl⟩
  go_wp2_with fail
  refine (C6.out _).mono ?_
  rintro e w1 ⟨rfl, rfl⟩
  go_wp2
  go_ret
  exact ⟨rfl, HB.out⟩
end Go.Proofs.YticfmlohkfoccaaGreatDoor
