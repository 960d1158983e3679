/- The text of a grain, by the program: walked, where the library's variables hold what they are laid with. -/
import Derived.Test.YticfmlohkfoccaaGreatDoorH11
set_option linter.unusedVariables false
set_option linter.unusedSimpArgs false
namespace Go.Proofs.YticfmlohkfoccaaGreatDoor
open Go.RowKit Go.Proofs.YticfmlohkfoccaaGreatDoorW.PrintWords

def heldT : List UInt8 := [104, 101, 108, 100]
def freeT : List UInt8 := [102, 114, 101, 101]
def G.small (g : G) : Prop := (g.a < 4294967296 ∧ g.b < 4294967296 ∧ g.c < 4294967296 ∧ g.d < 4294967296) ∧ g.r < 4294967296 ∧ g.m < 4294967296 ∧ g.t < 4294967296 ∧ g.s < 4294967296
def G.places (g : G) : List UInt8 := Lib.join [textC (g.a, g.b), textC (g.c, g.d)] [44]
def G.numbers (g : G) : List UInt8 := Lib.join [textF g.r, textF g.m, textF g.t, textF g.s] [44]
def G.text (g : G) : List UInt8 := g.places ++ [58] ++ g.numbers ++ [58] ++ (if g.h then heldT else freeT)
theorem places_calls (g : G) (hs : g.small) (w : World) (hv : Vars w) : Calls Tryz.prog 28 #[.slice (some ⟨w.heap.size, 0, none⟩) 2 2] (w.alloc (.cells #[.complex .f32 g.a g.b, .complex .f32 g.c g.d] 28)) fun e w' => e = .returned (.tuple #[.string (mk g.places), .bool true]) ∧ Below w.heap.size w w' := by
  have hb : Below w.heap.size w (w.alloc (.cells #[.complex .f32 g.a g.b, .complex .f32 g.c g.d] 28)) := (Below.refl w.heap.size w).alloc (Nat.le_refl _) _
  refine (ComplexText_calls w.heap.size [(g.a, g.b), (g.c, g.d)] (by simp) (by simp) ?_ _ (hv.step hb) ?_).mono ?_
  · intro x hx
    simp at hx
    rcases hx with rfl | rfl
    · exact ⟨hs.1.1, hs.1.2.1⟩
    · exact ⟨hs.1.2.2.1, hs.1.2.2.2⟩
  · intro j hj
    rw [Lib.cell_of_heap (heap_alloc_new w _)]
    match j, hj with
    | 0, _ => rfl
    | 1, _ => rfl
  · rintro e w1 ⟨rfl, h⟩
    exact ⟨rfl, below_then hb hb.size h⟩
theorem numbers_calls (g : G) (hs : g.small) (w : World) (hv : Vars w) : Calls Tryz.prog 42 #[.slice (some ⟨w.heap.size, 0, none⟩) 4 4] (w.alloc (.cells #[.float .f32 g.r, .float .f32 g.m, .float .f32 g.t, .float .f32 g.s] 29)) fun e w' => e = .returned (.tuple #[.string (mk g.numbers), .bool true]) ∧ Below w.heap.size w w' := by
  have hb : Below w.heap.size w (w.alloc (.cells #[.float .f32 g.r, .float .f32 g.m, .float .f32 g.t, .float .f32 g.s] 29)) := (Below.refl w.heap.size w).alloc (Nat.le_refl _) _
  refine (NumbersText_calls w.heap.size [g.r, g.m, g.t, g.s] (by simp) (by simp) ?_ _ (hv.step hb) ?_).mono ?_
  · intro x hx
    simp at hx
    rcases hx with rfl | rfl | rfl | rfl
    · exact hs.2.1
    · exact hs.2.2.1
    · exact hs.2.2.2.1
    · exact hs.2.2.2.2
  · intro j hj
    rw [Lib.cell_of_heap (heap_alloc_new w _)]
    match j, hj with
    | 0, _ => rfl
    | 1, _ => rfl
    | 2, _ => rfl
    | 3, _ => rfl
  · rintro e w1 ⟨rfl, h⟩
    exact ⟨rfl, below_then hb hb.size h⟩
theorem places_length (g : G) : g.places.length = 33 := by
  simp [G.places, Lib.join_cons, Lib.joinTail, textC_length]
theorem numbers_length (g : G) : g.numbers.length = 35 := by
  simp [G.numbers, Lib.join_cons, Lib.joinTail, textF_length]

set_option maxHeartbeats 1000000 in
set_option maxRecDepth 100000 in
theorem grainText_calls (g : G) (hs : g.small) (w : World) (hv : Vars w) : Calls Tryz.prog 61 #[.agg g.cells] w fun e w' => e = .returned (.string (mk g.text)) ∧ Below w.heap.size w w' := by
  have HV := Lib.hid hv; clear hv
  have HB0 : Hid (Below w.heap.size w (w.alloc (.cells g.cells 31))) := Lib.hid ((Below.refl w.heap.size w).alloc (Nat.le_refl _) _)
  have HX0 : Hid (Boxed (w.alloc (.cells g.cells 31)) w.heap.size g) := Lib.hid (heap_alloc_new w _)
  have HS := Lib.hid hs; clear hs
  have HC1 := Lib.hid (fun W hW => places_calls g HS.out W hW)
  have HC2 := Lib.hid (fun W hW => numbers_calls g HS.out W hW)
  have s1 : (mk g.places).size = 33 := by rw [mk_size, places_length]
  have s2 : (mk g.numbers).size = 35 := by rw [mk_size, numbers_length]
  have Ht : Hid (∀ b, g.h = b → mk g.places ++ (⟨#[58]⟩ : ByteArray) ++ mk g.numbers ++ (⟨#[58]⟩ : ByteArray) ++ (mk (if b then heldT else freeT)) = mk g.text) := Lib.hid (by
    intro b e
    rw [show (⟨#[58]⟩ : ByteArray) = mk [58] from rfl, mk_append, mk_append, mk_append, mk_append, ← e]; rfl)
  obtain ⟨q0, q1, q2, q3, q4, q5, q6⟩ := HX0.out.at
  go_enter Tryz.func61, Tryz.ntmps61
  go_wp2_with fail
  have HC1a := HC1.out _ (HV.out.step HB0.out)
  rw [show (w.alloc (.cells g.cells 31)).heap.size = w.heap.size + 1 from by simp] at HC1a
  refine HC1a.mono ?_
  rintro e w1 ⟨rfl, hb⟩
  rw [← show (w.alloc (.cells g.cells 31)).heap.size = w.heap.size + 1 from by simp] at hb
  have HB1 := Lib.hid (below_then HB0.out HB0.out.size hb)
  have hX1 := HX0.out.more hb
  clear hb HC1a HB0 HX0 HC1 q0 q1 q2 q3 q4 q5 q6
  obtain ⟨q0, q1, q2, q3, q4, q5, q6⟩ := hX1.at
  have HX1 := Lib.hid hX1; clear hX1
  go_wp2_with fail
  refine (HC2.out _ (HV.out.step HB1.out)).mono ?_
  rintro e w2 ⟨rfl, hb⟩
  have HB2 := Lib.hid (below_then HB1.out HB1.out.size hb)
  have hX2 := HX1.out.more hb
  clear hb HB1 HX1 HC2 q0 q1 q2 q3 q4 q5 q6
  obtain ⟨q0, q1, q2, q3, q4, q5, q6⟩ := hX2.at
  generalize mk g.places = A at *
  generalize mk g.numbers = B at *
  have hle1 := eq_true (show A.size + 1 ≤ 9223372036854775807 from by omega)
  have hle2 := eq_true (show A.size + 1 + B.size ≤ 9223372036854775807 from by omega)
  have hle3 := eq_true (show A.size + 1 + B.size + 1 ≤ 9223372036854775807 from by omega)
  have hle4 := eq_true (show A.size + 1 + B.size + 1 + 4 ≤ 9223372036854775807 from by omega)
  cases hh : g.h with
  | false =>
    rw [hh] at q6
    go_wp2
    go_ret
    exact ⟨by rw [← Ht.out false hh]; rfl, HB2.out⟩
  | true =>
    rw [hh] at q6
    go_wp2
    go_ret
    exact ⟨by rw [← Ht.out true hh]; rfl, HB2.out⟩
end Go.Proofs.YticfmlohkfoccaaGreatDoor
