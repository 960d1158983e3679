/- Heaps of grains, walked: what the reference and the program make of a row of grains that are valid. -/
import Derived.Test.YticfmlohkfoccaaGreatDoorH18
import Derived.Test.YticfmlohkfoccaaGreatDoorH14
set_option linter.unusedVariables false
set_option linter.unusedSimpArgs false
namespace Go.Proofs.YticfmlohkfoccaaGreatDoor
open Go.RowKit Go.Proofs.YticfmlohkfoccaaGreatDoorW.PrintWords

/-- A grain at a place of memory. -/
def GAt (W : World) (p o : Nat) (g : G) : Prop := W.cell? ⟨p, o, none⟩ = some (.complex .f32 g.a g.b) ∧ W.cell? ⟨p, o + 1, none⟩ = some (.complex .f32 g.c g.d) ∧ W.cell? ⟨p, o + 2, none⟩ = some (.float .f32 g.r) ∧ W.cell? ⟨p, o + 3, none⟩ = some (.float .f32 g.m) ∧
    W.cell? ⟨p, o + 4, none⟩ = some (.float .f32 g.t) ∧ W.cell? ⟨p, o + 5, none⟩ = some (.float .f32 g.s) ∧ W.cell? ⟨p, o + 6, none⟩ = some (.bool g.h)
theorem GAt.more {W W2 : World} {p o : Nat} {g : G} (h : GAt W p o g) (k : Below W.heap.size W W2) : GAt W2 p o g := by
  obtain ⟨q0, q1, q2, q3, q4, q5, q6⟩ := h
  exact ⟨pw_cell_below k q0, pw_cell_below k q1, pw_cell_below k q2, pw_cell_below k q3, pw_cell_below k q4, pw_cell_below k q5, pw_cell_below k q6⟩
theorem kG_at {W : World} {g n : Nat} {xs : List G} (h : Kd.C kG W (some ⟨g, 0, none⟩) n xs) (j : Nat) (hj : j < n) (x : G) (hx : xs[j]? = some x) : GAt W g (j * 7) x := by
  obtain ⟨ad, cs, e, hcl, hK, hc⟩ := Kd.C_get h G0 (j : Int) (by omega) (by omega)
  injection e with e
  subst e
  have hk : cs = x.cells.toList := by
    have : xs.getD (j : Int).toNat G0 = x := by rw [Int.toNat_natCast, List.getD_eq_getElem?_getD, hx]; rfl
    rw [this] at hK
    exact hK
  subst hk
  have hc' : ∀ i v, x.cells.toList[i]? = some v → W.cell? ⟨g, j * 7 + i, none⟩ = some v := fun i v hv => by
    have := hc i v hv
    rw [Lib.add_plain, show kG.sz = 7 from rfl, Int.toNat_natCast] at this
    simpa using this
  exact ⟨hc' 0 _ rfl, hc' 1 _ rfl, hc' 2 _ rfl, hc' 3 _ rfl, hc' 4 _ rfl, hc' 5 _ rfl, hc' 6 _ rfl⟩
/-- A row of grains that can be read. -/
structure GRow (W : World) (A : Option Addr) (l : List G) : Prop where
  row : Kd.C kG W A l.length l
  at0 : l ≠ [] → ∃ g, A = some ⟨g, 0, none⟩
theorem GRow.more {W W2 : World} {A : Option Addr} {l : List G} (h : GRow W A l) (k : Below W.heap.size W W2) : GRow W2 A l := ⟨Kd.C_below h.row k, h.at0⟩
theorem GRow.get {W : World} {A : Option Addr} {l : List G} (h : GRow W A l) (j : Nat) (hj : j < l.length) : ∃ g, A = some ⟨g, 0, none⟩ ∧ GAt W g (j * 7) l[j] := by
  obtain ⟨g, rfl⟩ := h.at0 (by intro e; subst e; simp at hj)
  exact ⟨g, rfl, kG_at h.row j hj _ (List.getElem?_eq_getElem hj)⟩
theorem rowG {e base : Nat} {W : World} {ok : Nat → Prop} {v : Value} {l : List G} (h : Kd.R kG e W base ok v l) : ∃ A c, v = .slice A l.length c ∧ l.length ≤ c ∧ GRow W A l := by
  obtain ⟨A, c, rfl, hc, hC⟩ := Kd.R_reads h
  refine ⟨A, c, rfl, hc, hC, fun hne => ?_⟩
  obtain ⟨g, cap, e1, _⟩ := Kd.R_form h (List.length_pos_iff.2 hne)
  injection e1 with e1
  exact ⟨g, e1⟩

set_option maxHeartbeats 2000000 in
set_option maxRecDepth 100000 in
/-- The reference's l02Grain, at a grain within a row. -/
theorem l02GrainAt_calls (g : G) (p o : Nat) (w : World) (hx : GAt w p o g) : Calls Tryz.prog 113 #[.pointer (some ⟨p, o, none⟩)] w fun e w' => e = .returned (.bool g.ok) ∧ ∃ n, w' = w.drewN n := by
  have HX : Hid (∀ n, GAt (w.drewN n) p o g) := Lib.hid (fun n => hx.more (pw_below_drewN (Below.refl _ _) n))
  obtain ⟨a, b, c, d, r, m, t, s, h⟩ := g
  unfold GAt at HX
  have hok : (⟨a, b, c, d, r, m, t, s, h⟩ : G).ok = (fin a && fin b && (fin c && fin d) && (fin r && pos r) && (fin m && pos m) && fin t && fin s) := by
    show (fin a && fin b && (fin c && fin d) && (fin r && fin m && fin t && fin s) && pos r && pos m) = _
    cases fin a <;> cases fin b <;> cases fin c <;> cases fin d <;> cases fin r <;> cases fin m <;> cases fin t <;> cases fin s <;> simp
  have HOK := Lib.hid hok; clear hok
  have HC1 := Lib.hid (fun W => l01CFinite_calls a b W)
  have HC2 := Lib.hid (fun W => l01CFinite_calls c d W)
  have HC3 := Lib.hid (fun W => l02Above_calls r W)
  have HC4 := Lib.hid (fun W => l02Above_calls m W)
  have HC5 := Lib.hid (fun W => l01Finite_calls t W)
  have HC6 := Lib.hid (fun W => l01Finite_calls s W)
  obtain ⟨q0, q1, q2, q3, q4, q5, q6⟩ := hx
  go_enter Tryz.func113, Tryz.ntmps113
  go_wp2_with fail
  refine (HC1.out _).mono ?_
  rintro e w1 ⟨rfl, n1, rfl⟩
  clear q0 q1 q2 q3 q4 q5 q6
  obtain ⟨q0, q1, q2, q3, q4, q5, q6⟩ := HX.out n1
  cases hf1 : (fin a && fin b) with
  | false =>
    go_wp2
    go_ret
    exact ⟨by rw [HOK.out, hf1]; rfl, n1, rfl⟩
  | true =>
    go_wp2_with fail
    refine (HC2.out _).mono ?_
    rintro e w1 ⟨rfl, n2, rfl⟩
    rw [drewN_add]
    clear q0 q1 q2 q3 q4 q5 q6
    generalize n1 + n2 = n1 at *
    obtain ⟨q0, q1, q2, q3, q4, q5, q6⟩ := HX.out n1
    cases hf2 : (fin c && fin d) with
    | false =>
      go_wp2
      go_ret
      exact ⟨by rw [HOK.out, hf1, hf2]; rfl, n1, rfl⟩
    | true =>
      go_wp2_with fail
      refine (HC3.out _).mono ?_
      rintro e w1 ⟨rfl, n2, rfl⟩
      rw [drewN_add]
      clear q0 q1 q2 q3 q4 q5 q6
      generalize n1 + n2 = n1 at *
      obtain ⟨q0, q1, q2, q3, q4, q5, q6⟩ := HX.out n1
      cases hf3 : (fin r && pos r) with
      | false =>
        go_wp2
        go_ret
        exact ⟨by rw [HOK.out, hf1, hf2, hf3]; rfl, n1, rfl⟩
      | true =>
        go_wp2_with fail
        refine (HC4.out _).mono ?_
        rintro e w1 ⟨rfl, n2, rfl⟩
        rw [drewN_add]
        clear q0 q1 q2 q3 q4 q5 q6
        generalize n1 + n2 = n1 at *
        obtain ⟨q0, q1, q2, q3, q4, q5, q6⟩ := HX.out n1
        cases hf4 : (fin m && pos m) with
        | false =>
          go_wp2
          go_ret
          exact ⟨by rw [HOK.out, hf1, hf2, hf3, hf4]; rfl, n1, rfl⟩
        | true =>
          go_wp2_with fail
          refine (HC5.out _).mono ?_
          rintro e w1 ⟨rfl, n2, rfl⟩
          rw [drewN_add]
          clear q0 q1 q2 q3 q4 q5 q6
          generalize n1 + n2 = n1 at *
          obtain ⟨q0, q1, q2, q3, q4, q5, q6⟩ := HX.out n1
          cases hf5 : fin t with
          | false =>
            go_wp2
            go_ret
            exact ⟨by rw [HOK.out, hf1, hf2, hf3, hf4, hf5]; rfl, n1, rfl⟩
          | true =>
            go_wp2_with fail
            refine (HC6.out _).mono ?_
            rintro e w1 ⟨rfl, n2, rfl⟩
            rw [drewN_add]
            clear q0 q1 q2 q3 q4 q5 q6
            generalize n1 + n2 = n1 at *
            go_wp2
            go_ret
            exact ⟨by rw [HOK.out, hf1, hf2, hf3, hf4, hf5]; rfl, n1, rfl⟩

/-- A heap in a block of its own. -/
def BoxH (W : World) (p : Nat) (v : Value) : Prop := W.heap[p]? = some (.cells #[v] 73 (0, 0))
theorem BoxH.more {W W2 : World} {p : Nat} {v : Value} (h : BoxH W p v) (k : Below W.heap.size W W2) : BoxH W2 p v := by
  obtain ⟨hlt, _⟩ := Array.getElem?_eq_some_iff.1 h
  exact (k.block p hlt).trans h
theorem BoxH.at {W : World} {p : Nat} {v : Value} (h : BoxH W p v) : W.cell? ⟨p, 0, none⟩ = some v := Lib.cell_of_heap h 0
theorem BoxH.thaw {W : World} {p : Nat} {v : Value} (h : BoxH W p v) : W.frozen? ⟨p, 0, none⟩ = false := Lib.frozen_of_heap h 0
theorem BoxH.new (W : World) (v : Value) : BoxH (W.alloc (.cells #[v] 73)) W.heap.size v := heap_alloc_new W _

set_option maxHeartbeats 1000000 in
set_option maxRecDepth 100000 in
theorem l02Is_calls (A : Option Addr) (c : Nat) (l : List G) (p : Nat) (w : World) (hb : BoxH w p (.slice A l.length c)) (hr : GRow w A l) (hl : l.length ≤ 2000000) (hok : ∀ x ∈ l, x.ok = true) :
    Calls Tryz.prog 171 #[.pointer (some ⟨p, 0, none⟩)] w fun e w' => e = .returned (.bool (decide (l.length ≤ 24))) ∧ ∃ n, w' = w.drewN n := by
  have HB : Hid (∀ n, BoxH (w.drewN n) p (.slice A l.length c)) := Lib.hid (fun n => hb.more (pw_below_drewN (Below.refl _ _) n))
  have HR : Hid (∀ n, GRow (w.drewN n) A l) := Lib.hid (fun n => hr.more (pw_below_drewN (Below.refl _ _) n))
  have HK := Lib.hid hok
  clear hb hr hok
  go_enter Tryz.func171, Tryz.ntmps171
  go_wp2_with fail
  go_loopw [3] (fun i wr => ∃ (k : Nat), i = .int .i64 k ∧ k ≤ l.length ∧ Aside0 (∃ n, wr = w.drewN n)) (fun i _ => l.length - (intOf i).toNat)
  case atStart => exact ⟨0, rfl, by omega, ⟨0, rfl⟩⟩
  case round =>
    obtain ⟨k, rfl, hk, HW⟩ := hrel
    obtain ⟨n, hwn⟩ := HW.out
    have q0 := (HB.out n).at
    rw [← hwn] at q0
    have Hwn := Lib.hid hwn; clear hwn HW
    by_cases hlt : k < l.length
    · have d1 : decide ((k : Int) < (l.length : Int)) = true := decide_eq_true (by omega)
      have d1' : decide (k < l.length) = true := decide_eq_true hlt
      by_cases h24 : l.length ≤ 24
      · have d2 : decide ((l.length : Int) ≤ 24) = true := decide_eq_true (by omega)
        have d2' : decide (l.length ≤ 24) = true := decide_eq_true (by omega)
        obtain ⟨g, rfl, hat⟩ := (HR.out n).get k hlt
        have HC := Lib.hid (l02GrainAt_calls l[k] g (k * 7) _ hat)
        rw [← Hwn.out, HK.out _ (List.getElem_mem hlt)] at HC
        clear hat
        go_wp2_with fail
        refine HC.out.mono ?_
        rintro e W1 ⟨rfl, m, rfl⟩
        have HW2 : Aside0 (∃ n, wr.drewN m = w.drewN n) := ⟨⟨n + m, by rw [Hwn.out, drewN_add]⟩⟩
        go_wp2
        go_roundw
        case rel => exact ⟨k + 1, by go_num, by omega, HW2⟩
        case measure => simp [intOf]; omega
      · have d2 : decide ((l.length : Int) ≤ 24) = false := decide_eq_false (by omega)
        have d2' : decide (l.length ≤ 24) = false := decide_eq_false (by omega)
        go_wp2_with fail
        go_ret
        exact ⟨by rw [d2']; rfl, n, Hwn.out⟩
    · have d1 : decide ((k : Int) < (l.length : Int)) = false := decide_eq_false (by omega)
      have d1' : decide (k < l.length) = false := decide_eq_false hlt
      by_cases h24 : l.length ≤ 24
      · have d2 : decide ((l.length : Int) ≤ 24) = true := decide_eq_true (by omega)
        have d2' : decide (l.length ≤ 24) = true := decide_eq_true (by omega)
        go_wp2_with fail
        go_ret
        exact ⟨by rw [d2']; rfl, n, Hwn.out⟩
      · have d2 : decide ((l.length : Int) ≤ 24) = false := decide_eq_false (by omega)
        have d2' : decide (l.length ≤ 24) = false := decide_eq_false (by omega)
        go_wp2_with fail
        go_ret
        exact ⟨by rw [d2']; rfl, n, Hwn.out⟩
end Go.Proofs.YticfmlohkfoccaaGreatDoor
