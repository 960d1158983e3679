/- The law FnExactReadGrain, walked: it returns true for every text, and nothing below its own memory turns. -/
import Derived.Test.YticfmlohkfoccaaGreatDoorH14
import Derived.Test.YticfmlohkfoccaaGreatDoorH15
set_option linter.unusedVariables false
set_option linter.unusedSimpArgs false
namespace Go.Proofs.YticfmlohkfoccaaGreatDoor
open Go.RowKit Go.Proofs.YticfmlohkfoccaaGreatDoorW.PrintWords

theorem readG_finite (t : List UInt8) : ((readG t).getD G0).finite := by
  cases h : readG t with
  | none => exact ⟨rfl, rfl, rfl, rfl, rfl, rfl, rfl, rfl⟩
  | some g =>
    refine G.ok_finite ?_
    unfold readG at h
    simp only [Option.getD_some]
    split at h
    · split at h
      · split at h
        · split at h
          · split at h
            · rename_i hok
              injection h with h
              rw [← h]; exact hok
            · cases h
          · cases h
        · cases h
      · cases h
    · cases h
set_option maxHeartbeats 1000000 in
set_option maxRecDepth 100000 in
theorem readLaw_calls (t : ByteArray) (hsz : t.size ≤ 9223372036854775807) (w : World) (hv : Vars w) : Calls Tryz.prog 4 #[.string t] w fun e w' => e = .returned (.bool true) ∧ Below w.heap.size w w' := by
  have HV := Lib.hid hv; clear hv
  by_cases hbig : 1048576 < t.size
  · have hd : decide ((1048576 : Int) < (t.size : Int)) = true := decide_eq_true (by omega)
    clear HV
    go_enter Tryz.func4, Tryz.ntmps4
    go_wp2_with fail
    go_ret
    exact ⟨rfl, Below.refl _ _⟩
  · have hd : decide ((1048576 : Int) < (t.size : Int)) = false := decide_eq_false (by omega)
    have hc1 := fun W => specReadGrain_calls t (by omega) W
    have hc2 := fun W => implReadGrain_calls t (by omega) W
    have hf := readG_finite t.data.toList
    generalize readG t.data.toList = o at *
    have hbn : (o.isSome != o.isSome) = false := by cases o.isSome <;> rfl
    generalize o.isSome = ok at *
    generalize o.getD G0 = g at *
    have HC3 := Lib.hid (fun W => eqGrain_calls g hf W)
    have hcl : g.cells = #[.complex .f32 g.a g.b, .complex .f32 g.c g.d, .float .f32 g.r, .float .f32 g.m, .float .f32 g.t, .float .f32 g.s, .bool g.h] := rfl
    rw [hcl] at hc1 hc2
    have HC1 := Lib.hid hc1
    have HC2 := Lib.hid hc2
    clear hc1 hc2 hf hcl hbig
    go_enter Tryz.func4, Tryz.ntmps4
    go_wp2_with fail
    refine (HC1.out _).mono ?_
    rintro e W1 ⟨rfl, hb⟩
    have HB1 := Lib.hid hb; clear hb
    have r1 := store_cm
    have r2 := store_fm
    have hx : Boxed (W1.alloc (.cells G0.cells 31)) W1.heap.size G0 := heap_alloc_new W1 _
    have HBa : Hid (Below W1.heap.size W1 (W1.alloc (.cells G0.cells 31))) := Lib.hid ((Below.refl W1.heap.size W1).alloc (Nat.le_refl _) _)
    obtain ⟨q0, q1, q2, q3, q4, q5, q6⟩ := hx.at
    have f0 := hx.thaw 0; have f1 := hx.thaw 1; have f2 := hx.thaw 2; have f3 := hx.thaw 3; have f4 := hx.thaw 4; have f5 := hx.thaw 5; have f6 := hx.thaw 6
    have HX := Lib.hid hx; clear hx
    go_wp2_with fail
    change Calls Tryz.prog 14 _ (W1.alloc (.cells g.cells 31)) _
    have HX2 : Hid (Boxed (W1.alloc (.cells g.cells 31)) W1.heap.size g) := Lib.hid (heap_alloc_new W1 _)
    have HB2 : Hid (Below w.heap.size w (W1.alloc (.cells g.cells 31))) := Lib.hid (below_then HB1.out HB1.out.size ((Below.refl W1.heap.size W1).alloc (Nat.le_refl _) _))
    clear q0 q1 q2 q3 q4 q5 q6 f0 f1 f2 f3 f4 f5 f6 HX HBa HC1
    generalize W1.alloc (.cells g.cells 31) = W2 at *
    generalize W1.heap.size = pa at *
    clear HB1
    refine (HC2.out _ (HV.out.step HB2.out)).mono ?_
    rintro e W3 ⟨rfl, hb⟩
    have HX3 := Lib.hid (HX2.out.more hb)
    have HB3 := Lib.hid (below_then HB2.out HB2.out.size hb)
    clear hb HX2 HB2 HC2
    have hx : Boxed (W3.alloc (.cells G0.cells 31)) W3.heap.size G0 := heap_alloc_new W3 _
    have HBa : Hid (Below W3.heap.size W3 (W3.alloc (.cells G0.cells 31))) := Lib.hid ((Below.refl W3.heap.size W3).alloc (Nat.le_refl _) _)
    obtain ⟨q0, q1, q2, q3, q4, q5, q6⟩ := hx.at
    have f0 := hx.thaw 0; have f1 := hx.thaw 1; have f2 := hx.thaw 2; have f3 := hx.thaw 3; have f4 := hx.thaw 4; have f5 := hx.thaw 5; have f6 := hx.thaw 6
    have HX := Lib.hid hx; clear hx
    have hbp : Below W3.heap.size W3 (W3.alloc (.cells g.cells 31)) := (Below.refl W3.heap.size W3).alloc (Nat.le_refl _) _
    have hy : Boxed (W3.alloc (.cells g.cells 31)) W3.heap.size g := heap_alloc_new W3 _
    have hz := HX3.out.more hbp
    have HB4 := Lib.hid (below_then HB3.out HB3.out.size hbp)
    obtain ⟨g0, g1, g2, g3, g4, g5, g6⟩ := hy.at
    obtain ⟨p0, p1, p2, p3, p4, p5, p6⟩ := hz.at
    unfold G.cells at g0 g1 g2 g3 g4 g5 g6 p0 p1 p2 p3 p4 p5 p6
    clear HBa HX hbp hy hz HB3 HX3 
    go_wp2_with fail
    change Calls Tryz.prog 15 #[.agg g.cells, .agg g.cells] _ _
    refine (HC3.out _).mono ?_
    rintro e W5 ⟨rfl, hb⟩
    have HB5 := Lib.hid (below_then HB4.out HB4.out.size hb)
    clear hb HB4 g0 g1 g2 g3 g4 g5 g6 p0 p1 p2 p3 p4 p5 p6 q0 q1 q2 q3 q4 q5 q6 f0 f1 f2 f3 f4 f5 f6
    go_wp2_with fail
    go_ret
    exact ⟨rfl, HB5.out⟩
end Go.Proofs.YticfmlohkfoccaaGreatDoor
