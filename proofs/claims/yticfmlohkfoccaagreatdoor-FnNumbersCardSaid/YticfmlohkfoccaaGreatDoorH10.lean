/- Whether a grain is valid, in the program and in the reference: walked, for every grain. -/
import Derived.Test.YticfmlohkfoccaaGreatDoorH9
set_option linter.unusedVariables false
set_option linter.unusedSimpArgs false
namespace Go.Proofs.YticfmlohkfoccaaGreatDoor
open Go.RowKit Go.Proofs.YticfmlohkfoccaaGreatDoorW.PrintWords

/-- Numbers in a block of memory, from its beginning. -/
def Nums (w : World) (g : Nat) (l : List Nat) : Prop := g < w.heap.size ∧ ∀ j (h : j < l.length), w.cell? ⟨g, j, none⟩ = some (.float .f32 l[j])
theorem Nums.drawn {w : World} {g : Nat} {l : List Nat} (h : Nums w g l) (n : Nat) : Nums (w.drewN n) g l :=
  ⟨Nat.lt_of_lt_of_le h.1 (pw_below_drewN (Below.refl w.heap.size w) n).size, fun j hj => pw_cell_below (pw_below_drewN (Below.refl _ _) n) (h.2 j hj)⟩
theorem drewN_add (w : World) (a b : Nat) : (w.drewN a).drewN b = w.drewN (a + b) := by
  simp [World.drewN, Nat.add_assoc]

set_option maxHeartbeats 1000000 in
set_option maxRecDepth 100000 in
theorem indexFunc_calls (g : Nat) (l : List Nat) (hl : l.length ≤ 1000) (w : World) (hn : Nums w g l) : Calls Tryz.prog 166 #[.slice (some ⟨g, 0, none⟩) l.length l.length, .func (.func 131) #[] #[]] w fun e w' => ∃ z : Int, e = .returned (.int .i64 z) ∧ (decide (0 ≤ z) = !(l.all fin)) ∧ ∃ n, w' = w.drewN n := by
  have HN := Lib.hid hn; clear hn
  go_enter Tryz.func166, Tryz.ntmps166
  go_wp2_with fail
  go_loopw [8] (fun i wr => ∃ (k : Nat), i = .int .i64 k ∧ k ≤ l.length ∧ Aside0 ((l.take k).all fin = true) ∧ Aside0 (∃ n, wr = w.drewN n)) (fun i _ => l.length - (intOf i).toNat)
  case atStart => exact ⟨0, rfl, by omega, ⟨rfl⟩, ⟨0, rfl⟩⟩
  case round =>
    obtain ⟨k, rfl, hk, HA, HW⟩ := hrel
    by_cases hlt : k < l.length
    · obtain ⟨n, hwn⟩ := HW.out
      have hcell := (HN.out.drawn n).2 k hlt
      rw [← hwn] at hcell
      have Hwn := Lib.hid hwn; clear hwn HW
      have hall : ((l.take (k + 1)).all fin) = fin l[k] := by
        rw [List.take_succ_eq_append_getElem hlt, List.all_append, HA.out]; simp
      have hmem : l[k] ∈ l := List.getElem_mem _
      generalize l[k] = b at *
      have e24 : decide (k < l.length) = true := decide_eq_true hlt
      go_wp2_with fail
      refine (notFinite_calls b wr).mono ?_
      rintro e W1 ⟨rfl, m, rfl⟩
      have HW2 : Aside0 (∃ n, wr.drewN m = w.drewN n) := ⟨⟨n + m, by rw [Hwn.out, drewN_add]⟩⟩
      cases hf : fin b with
      | true =>
        have HA2 := Aside0.mk (hall.trans hf)
        go_wp2
        go_roundw
        case rel => exact ⟨k + 1, by go_num, by omega, HA2, HW2⟩
        case measure => simp [intOf]; omega
      | false =>
        go_wp2
        go_ret
        refine ⟨(k : Int), rfl, ?_, HW2.out⟩
        rw [decide_eq_true (by omega)]
        have : l.all fin = false := by
          rw [List.all_eq_false]
          exact ⟨b, hmem, by rw [hf]; decide⟩
        rw [this]; rfl
    · have hA := HA.out
      rw [List.take_of_length_le (by omega)] at hA
      have HA2 := Lib.hid hA
      go_wp2_with fail
      go_ret
      exact ⟨-1, rfl, by rw [HA2.out]; rfl, HW.out⟩
set_option maxHeartbeats 1000000 in
theorem containsFunc_calls (g : Nat) (l : List Nat) (hl : l.length ≤ 1000) (w : World) (hn : Nums w g l) : Calls Tryz.prog 130 #[.slice (some ⟨g, 0, none⟩) l.length l.length, .func (.func 131) #[] #[]] w fun e w' => e = .returned (.bool (!(l.all fin))) ∧ ∃ n, w' = w.drewN n := by
  have HC := Lib.hid (indexFunc_calls g l hl w hn); clear hn
  go_enter Tryz.func130, Tryz.ntmps130
  go_wp2_with fail
  refine HC.out.mono ?_
  rintro e w1 ⟨z, rfl, hz, hw⟩
  have HW := Lib.hid hw; clear hw
  have HZ := Lib.hid hz; clear hz
  go_wp2
  go_ret
  exact ⟨by rw [← HZ.out]; rfl, HW.out⟩
theorem areFinite_calls (g : Nat) (l : List Nat) (hl : l.length ≤ 1000) (w : World) (hn : Nums w g l) : Calls Tryz.prog 88 #[.slice (some ⟨g, 0, none⟩) l.length l.length] w fun e w' => e = .returned (.bool (l.all fin)) ∧ ∃ n, w' = w.drewN n := by
  have HC := Lib.hid (containsFunc_calls g l hl w hn); clear hn
  go_enter Tryz.func88, Tryz.ntmps88
  go_wp2_with fail
  refine HC.out.mono ?_
  rintro e w1 ⟨rfl, hw⟩
  have HW := Lib.hid hw; clear hw
  go_wp2
  go_ret
  exact ⟨by simp, HW.out⟩
theorem nums_alloc (w : World) (l : List Nat) : Nums (w.alloc (.cells (l.map fun n => Value.float .f32 n).toArray 29)) w.heap.size l := by
  refine ⟨by simp, fun j hj => ?_⟩
  rw [Lib.cell_of_heap (heap_alloc_new w _)]
  simp [hj]
set_option maxHeartbeats 1000000 in
theorem finiteC_calls (a b : Nat) (w : World) : Calls Tryz.prog 37 #[.complex .f32 a b] w fun e w' => e = .returned (.bool (fin a && fin b)) ∧ Below w.heap.size w w' := by
  have HC := Lib.hid (areFinite_calls w.heap.size [a, b] (by simp) _ (nums_alloc w [a, b]))
  go_enter Tryz.func37, Tryz.ntmps37
  go_wp2_with fail
  refine HC.out.mono ?_
  rintro e w1 ⟨rfl, n, rfl⟩
  go_wp2
  go_ret
  exact ⟨by simp, pw_below_drewN ((Below.refl w.heap.size w).alloc (Nat.le_refl _) _) n⟩
theorem l01CFinite_calls (a b : Nat) (w : World) : Calls Tryz.prog 144 #[.complex .f32 a b] w fun e w' => e = .returned (.bool (fin a && fin b)) ∧ ∃ n, w' = w.drewN n := by
  go_enter Tryz.func144, Tryz.ntmps144
  go_wp2_with fail
  refine (l01Finite_calls a w).mono ?_
  rintro e w1 ⟨rfl, n, rfl⟩
  cases hf : fin a with
  | false =>
    go_wp2
    go_ret
    exact ⟨by rw [hf]; rfl, n, rfl⟩
  | true =>
    go_wp2_with fail
    refine (l01Finite_calls b _).mono ?_
    rintro e w1 ⟨rfl, m, rfl⟩
    go_wp2
    go_ret
    exact ⟨by rw [hf]; rfl, n + m, rfl⟩

/-- Whether a number is more than nothing. -/
def pos (b : Nat) : Bool := FloatKind.f32.format.order b 0 == some .gt
theorem l02Above_calls (b : Nat) (w : World) : Calls Tryz.prog 145 #[.float .f32 b] w fun e w' => e = .returned (.bool (fin b && pos b)) ∧ ∃ n, w' = w.drewN n := by
  have hp : (FloatKind.f32.format.order b 0 == some .gt) = pos b := rfl
  go_enter Tryz.func145, Tryz.ntmps145
  go_wp2_with fail
  refine (l01Finite_calls b w).mono ?_
  rintro e w1 ⟨rfl, n, rfl⟩
  cases hf : fin b with
  | false =>
    go_wp2
    go_ret
    exact ⟨by rw [hf]; rfl, n, rfl⟩
  | true =>
    go_wp2
    go_ret
    exact ⟨by rw [hf]; rfl, n, rfl⟩

/-- A grain. -/
structure G where
  a : Nat
  b : Nat
  c : Nat
  d : Nat
  r : Nat
  m : Nat
  t : Nat
  s : Nat
  h : Bool
def G.cells (g : G) : Array Value := #[.complex .f32 g.a g.b, .complex .f32 g.c g.d, .float .f32 g.r, .float .f32 g.m, .float .f32 g.t, .float .f32 g.s, .bool g.h]
def G.ok (g : G) : Bool := fin g.a && fin g.b && (fin g.c && fin g.d) && (fin g.r && fin g.m && fin g.t && fin g.s) && pos g.r && pos g.m

theorem finite4_calls (r m t s : Nat) (w : World) : Calls Tryz.prog 88 #[.slice (some ⟨w.heap.size, 0, none⟩) 4 4] (w.alloc (.cells #[.float .f32 r, .float .f32 m, .float .f32 t, .float .f32 s] 29)) fun e w' => e = .returned (.bool (fin r && fin m && fin t && fin s)) ∧ Below w.heap.size w w' := by
  refine (areFinite_calls w.heap.size [r, m, t, s] (by simp) _ (nums_alloc w [r, m, t, s])).mono ?_
  rintro e w1 ⟨rfl, n, rfl⟩
  exact ⟨by simp [Bool.and_assoc], pw_below_drewN ((Below.refl w.heap.size w).alloc (Nat.le_refl _) _) n⟩
/-- A grain in a block of its own. -/
def Boxed (W : World) (b : Nat) (g : G) : Prop := W.heap[b]? = some (.cells g.cells 31 (0, 0))
theorem Boxed.more {W W2 : World} {b : Nat} {g : G} (h : Boxed W b g) (k : Below W.heap.size W W2) : Boxed W2 b g := by
  obtain ⟨hlt, _⟩ := Array.getElem?_eq_some_iff.1 h
  exact (k.block b hlt).trans h
theorem Boxed.at {W : World} {b : Nat} {g : G} (h : Boxed W b g) : W.cell? ⟨b, 0, none⟩ = some (.complex .f32 g.a g.b) ∧ W.cell? ⟨b, 1, none⟩ = some (.complex .f32 g.c g.d) ∧ W.cell? ⟨b, 2, none⟩ = some (.float .f32 g.r) ∧ W.cell? ⟨b, 3, none⟩ = some (.float .f32 g.m) ∧
    W.cell? ⟨b, 4, none⟩ = some (.float .f32 g.t) ∧ W.cell? ⟨b, 5, none⟩ = some (.float .f32 g.s) ∧ W.cell? ⟨b, 6, none⟩ = some (.bool g.h) :=
  ⟨Lib.cell_of_heap h 0, Lib.cell_of_heap h 1, Lib.cell_of_heap h 2, Lib.cell_of_heap h 3, Lib.cell_of_heap h 4, Lib.cell_of_heap h 5, Lib.cell_of_heap h 6⟩

set_option maxHeartbeats 1000000 in
set_option maxRecDepth 100000 in
theorem validGrain_calls (g : G) (w : World) : Calls Tryz.prog 60 #[.agg g.cells] w fun e w' => e = .returned (.bool g.ok) ∧ Below w.heap.size w w' := by
  have HB0 : Hid (Below w.heap.size w (w.alloc (.cells g.cells 31))) := Lib.hid ((Below.refl w.heap.size w).alloc (Nat.le_refl _) _)
  have HX0 : Hid (Boxed (w.alloc (.cells g.cells 31)) w.heap.size g) := Lib.hid (heap_alloc_new w _)
  obtain ⟨a, b, c, d, r, m, t, s, h⟩ := g
  have hp1 : (FloatKind.f32.format.order r 0 == some .gt) = pos r := rfl
  have hp2 : (FloatKind.f32.format.order m 0 == some .gt) = pos m := rfl
  have hok : (⟨a, b, c, d, r, m, t, s, h⟩ : G).ok = (fin a && fin b && (fin c && fin d) && (fin r && fin m && fin t && fin s) && pos r && pos m) := rfl
  have HOK := Lib.hid hok; clear hok
  obtain ⟨q0, q1, q2, q3, q4, q5, q6⟩ := HX0.out.at
  go_enter Tryz.func60, Tryz.ntmps60
  go_wp2_with fail
  have HC1 := Lib.hid (fun W => finiteC_calls a b W)
  refine (HC1.out _).mono ?_
  rintro e w1 ⟨rfl, hb⟩
  have HB1 := Lib.hid (below_then HB0.out HB0.out.size hb)
  have hX1 := HX0.out.more hb
  clear hb HB0 HX0 HC1 q0 q1 q2 q3 q4 q5 q6
  cases hf1 : (fin a && fin b) with
  | false =>
    go_wp2
    go_ret
    exact ⟨by rw [HOK.out, hf1]; rfl, HB1.out⟩
  | true =>
    obtain ⟨q0, q1, q2, q3, q4, q5, q6⟩ := hX1.at
    have HX1 := Lib.hid hX1; clear hX1
    go_wp2_with fail
    have HC2 := Lib.hid (fun W => finiteC_calls c d W)
    refine (HC2.out _).mono ?_
    rintro e w2 ⟨rfl, hb⟩
    have HB2 := Lib.hid (below_then HB1.out HB1.out.size hb)
    have hX2 := HX1.out.more hb
    clear hb HB1 HX1 HC2 q0 q1 q2 q3 q4 q5 q6
    cases hf2 : (fin c && fin d) with
    | false =>
      go_wp2
      go_ret
      exact ⟨by rw [HOK.out, hf1, hf2]; rfl, HB2.out⟩
    | true =>
      obtain ⟨q0, q1, q2, q3, q4, q5, q6⟩ := hX2.at
      have HX2 := Lib.hid hX2; clear hX2
      have HC3 := Lib.hid (finite4_calls r m t s w2)
      go_wp2_with fail
      refine HC3.out.mono ?_
      rintro e w3 ⟨rfl, hb⟩
      have HB3 := Lib.hid (below_then HB2.out HB2.out.size hb)
      have hX3 := HX2.out.more hb
      clear hb HB2 HX2 HC3 q0 q1 q2 q3 q4 q5 q6
      cases hf3 : (fin r && fin m && fin t && fin s) with
      | false =>
        go_wp2
        go_ret
        exact ⟨by rw [HOK.out, hf1, hf2, hf3]; rfl, HB3.out⟩
      | true =>
        obtain ⟨q0, q1, q2, q3, q4, q5, q6⟩ := hX3.at
        cases hf4 : pos r with
        | false =>
          go_wp2
          go_ret
          exact ⟨by rw [HOK.out, hf1, hf2, hf3, hf4]; rfl, HB3.out⟩
        | true =>
          go_wp2
          go_ret
          exact ⟨by rw [HOK.out, hf1, hf2, hf3, hf4]; simp, HB3.out⟩

set_option maxHeartbeats 2000000 in
set_option maxRecDepth 100000 in
/-- The reference's l02Grain, at a grain in a block of its own. -/
theorem l02Grain_calls (g : G) (p : Nat) (w : World) (hx : Boxed w p g) : Calls Tryz.prog 113 #[.pointer (some ⟨p, 0, none⟩)] w fun e w' => e = .returned (.bool g.ok) ∧ ∃ n, w' = w.drewN n := by
  have HX : Hid (∀ n, Boxed (w.drewN n) p g) := Lib.hid (fun n => hx.more (pw_below_drewN (Below.refl _ _) n))
  have hx0 := HX.out 0
  obtain ⟨a, b, c, d, r, m, t, s, h⟩ := g
  have hok : (⟨a, b, c, d, r, m, t, s, h⟩ : G).ok = (fin a && fin b && (fin c && fin d) && (fin r && pos r) && (fin m && pos m) && fin t && fin s) := by
    show (fin a && fin b && (fin c && fin d) && (fin r && fin m && fin t && fin s) && pos r && pos m) = _
    cases fin a <;> cases fin b <;> cases fin c <;> cases fin d <;> cases fin r <;> cases fin m <;> cases fin t <;> cases fin s <;> simp
  have HOK := Lib.hid hok; clear hok
  have HC1 := Lib.hid (fun W => l01CFinite_calls a b W)
  have HC2 := Lib.hid (fun W => l01CFinite_calls c d W)
  have HC3 := Lib.hid (fun W => l02Above_calls r W)
  have HC4 := Lib.hid (fun W => l02Above_calls m W)
  have HC5 := Lib.hid (fun W => l01Finite_calls t W)
  have HC6 := Lib.hid (fun W => l01Finite_calls s W)
  obtain ⟨q0, q1, q2, q3, q4, q5, q6⟩ := hx.at
  go_enter Tryz.func113, Tryz.ntmps113
  go_wp2_with fail
  refine (HC1.out _).mono ?_
  rintro e w1 ⟨rfl, n1, rfl⟩
  clear q0 q1 q2 q3 q4 q5 q6 hx hx0
  obtain ⟨q0, q1, q2, q3, q4, q5, q6⟩ := (HX.out n1).at
  cases hf1 : (fin a && fin b) with
  | false =>
    go_wp2
    go_ret
    exact ⟨by rw [HOK.out, hf1]; rfl, n1, rfl⟩
  | true =>
    go_wp2_with fail
    refine (HC2.out _).mono ?_
    rintro e w1 ⟨rfl, n2, rfl⟩
    rw [drewN_add]
    clear q0 q1 q2 q3 q4 q5 q6
    generalize n1 + n2 = n1 at *
    obtain ⟨q0, q1, q2, q3, q4, q5, q6⟩ := (HX.out n1).at
    cases hf2 : (fin c && fin d) with
    | false =>
      go_wp2
      go_ret
      exact ⟨by rw [HOK.out, hf1, hf2]; rfl, n1, rfl⟩
    | true =>
      go_wp2_with fail
      refine (HC3.out _).mono ?_
      rintro e w1 ⟨rfl, n2, rfl⟩
      rw [drewN_add]
      clear q0 q1 q2 q3 q4 q5 q6
      generalize n1 + n2 = n1 at *
      obtain ⟨q0, q1, q2, q3, q4, q5, q6⟩ := (HX.out n1).at
      cases hf3 : (fin r && pos r) with
      | false =>
        go_wp2
        go_ret
        exact ⟨by rw [HOK.out, hf1, hf2, hf3]; rfl, n1, rfl⟩
      | true =>
        go_wp2_with fail
        refine (HC4.out _).mono ?_
        rintro e w1 ⟨rfl, n2, rfl⟩
        rw [drewN_add]
        clear q0 q1 q2 q3 q4 q5 q6
        generalize n1 + n2 = n1 at *
        obtain ⟨q0, q1, q2, q3, q4, q5, q6⟩ := (HX.out n1).at
        cases hf4 : (fin m && pos m) with
        | false =>
          go_wp2
          go_ret
          exact ⟨by rw [HOK.out, hf1, hf2, hf3, hf4]; rfl, n1, rfl⟩
        | true =>
          go_wp2_with fail
          refine (HC5.out _).mono ?_
          rintro e w1 ⟨rfl, n2, rfl⟩
          rw [drewN_add]
          clear q0 q1 q2 q3 q4 q5 q6
          generalize n1 + n2 = n1 at *
          obtain ⟨q0, q1, q2, q3, q4, q5, q6⟩ := (HX.out n1).at
          cases hf5 : fin t with
          | false =>
            go_wp2
            go_ret
            exact ⟨by rw [HOK.out, hf1, hf2, hf3, hf4, hf5]; rfl, n1, rfl⟩
          | true =>
            go_wp2_with fail
            refine (HC6.out _).mono ?_
            rintro e w1 ⟨rfl, n2, rfl⟩
            rw [drewN_add]
            clear q0 q1 q2 q3 q4 q5 q6
            generalize n1 + n2 = n1 at *
            go_wp2
            go_ret
            exact ⟨by rw [HOK.out, hf1, hf2, hf3, hf4, hf5]; rfl, n1, rfl⟩
end Go.Proofs.YticfmlohkfoccaaGreatDoor
