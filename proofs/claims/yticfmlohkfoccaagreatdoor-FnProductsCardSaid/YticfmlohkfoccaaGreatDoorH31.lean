/- What is drawn from a source of choices, walked: numbers within their bounds, floats of any bits. -/
import Derived.Test.YticfmlohkfoccaaGreatDoorH30
set_option linter.unusedVariables false
set_option linter.unusedSimpArgs false
namespace Go.Proofs.YticfmlohkfoccaaGreatDoor
open Go.RowKit Go.Proofs.YticfmlohkfoccaaGreatDoorW.PrintWords

theorem Src.le {W : World} {p m m' : Nat} (h : Src W p m) (hm : m ≤ m') : Src W p m' := by
  obtain ⟨A, n, c, a, z, h1, h2, h3, h4, h5⟩ := h.box
  exact ⟨A, n, c, a, z, h1, by omega, h3, h4, h5⟩
theorem src_lt {W : World} {p m : Nat} (h : Src W p m) : p < W.heap.size := by
  obtain ⟨A, n, c, a, z, h1, _⟩ := h.box
  exact (Array.getElem?_eq_some_iff.1 h1).1
theorem Src.more {W W2 : World} {p m : Nat} (h : Src W p m) (k : Below W.heap.size W W2) : Src W2 p m := by
  have hlt := src_lt h
  obtain ⟨A, n, c, a, z, h1, h2, h3, h4, h5⟩ := h.box
  refine ⟨A, n, c, a, z, (k.block p hlt).trans h1, h2, h3, h4, fun i hi => ?_⟩
  obtain ⟨ad, b, e1, e2, e3, e4⟩ := h5 i hi
  exact ⟨ad, b, e1, e2, pw_cell_below k e3, e4⟩
theorem Turned.more {p : Nat} {w W : World} (h : Below w.heap.size w W) (hp : p < w.heap.size) : Turned p w W :=
  ⟨h.size, fun k _ hk => h.block k hk, fun B w0 hb hB => below_then hb (by omega) h⟩

/-- What the functions over a source do. -/
def Draws (p m : Nat) (w : World) (ok : Ending → Prop) (e : Ending) (w' : World) : Prop := ok e ∧ Src w' p m ∧ Turned p w w'
set_option maxHeartbeats 1000000 in
set_option maxRecDepth 100000 in
theorem pick_calls (p m k : Nat) (hk : 1 < k) (hk2 : k ≤ 65536) (hm : m < 1000000000) (w : World) (hs : Src w p m) : Calls Tryz.prog 65 #[.pointer (some ⟨p, 0, none⟩), .int .i64 k] w (Draws p (m + 2) w fun e => ∃ r : Nat, e = .returned (.int .i64 r) ∧ r < k) := by
  have HC := Lib.hid (fun m W (hm : m < 4611686018427387904) hs => next_calls p m hm W hs)
  have HS := Lib.hid hs
  clear hs
  have d1 : decide ((k : Int) ≤ 1) = false := decide_eq_false (by omega)
  by_cases h2 : 200 < k
  · have d2 : decide (200 < (k : Int)) = true := decide_eq_true (by omega)
    go_enter Tryz.func65, Tryz.ntmps65
    go_wp2_with fail
    refine (HC.out m _ (by omega) HS.out).mono ?_
    rintro e w1 ⟨⟨r, rfl, hr⟩, hs1, ht1⟩
    have HS1 := Lib.hid hs1
    have HT1 := Lib.hid ht1
    clear hs1 ht1 HS
    go_wp2_with fail
    refine (HC.out (m + 1) _ (by omega) HS1.out).mono ?_
    rintro e w2 ⟨⟨r2, rfl, hr2⟩, hs2, ht2⟩
    have HS2 := Lib.hid hs2
    have HT2 := Lib.hid (HT1.out.trans ht2)
    clear hs2 ht2 HS1 HT1 HC
    go_wp2_with fail
    go_ret
    exact ⟨⟨(r * 256 + r2) % k, congrArg (fun x => Ending.returned (Value.int IntKind.i64 x)) (by push_cast; rfl), Nat.mod_lt _ (by omega)⟩, HS2.out, HT2.out⟩
  · have d2 : decide (200 < (k : Int)) = false := decide_eq_false (by omega)
    go_enter Tryz.func65, Tryz.ntmps65
    go_wp2_with fail
    refine (HC.out m _ (by omega) HS.out).mono ?_
    rintro e w1 ⟨⟨r, rfl, hr⟩, hs1, ht1⟩
    have HS1 := Lib.hid hs1
    have HT1 := Lib.hid ht1
    clear hs1 ht1 HS HC
    go_wp2_with fail
    go_ret
    exact ⟨⟨r % k, congrArg (fun x => Ending.returned (Value.int IntKind.i64 x)) (by push_cast; rfl), Nat.mod_lt _ (by omega)⟩, HS1.out.le (by omega), HT1.out⟩
set_option maxHeartbeats 1000000 in
set_option maxRecDepth 100000 in
theorem one_calls (p m k : Nat) (hk : 1 < k) (hk2 : k ≤ 65536) (hm : m < 1000000000) (w : World) (hs : Src w p m) : Calls Tryz.prog 78 #[.pointer (some ⟨p, 0, none⟩), .int .i64 k] w (Draws p (m + 2) w fun e => ∃ b, e = .returned (.bool b)) := by
  have HC := Lib.hid (pick_calls p m k hk hk2 hm w hs)
  clear hs
  go_enter Tryz.func78, Tryz.ntmps78
  go_wp2_with fail
  refine HC.out.mono ?_
  rintro e w1 ⟨⟨r, rfl, hr⟩, hs1, ht1⟩
  have HS1 := Lib.hid hs1
  have HT1 := Lib.hid ht1
  clear hs1 ht1 HC
  go_wp2_with fail
  go_ret
  exact ⟨⟨_, rfl⟩, HS1.out, HT1.out⟩
/-- A row of integers in a block of its own. -/
def Ints (W : World) (g : Nat) (l : List Nat) : Prop := W.heap[g]? = some (.cells (l.map fun n => Value.int .i64 ((n : Nat) : Int)).toArray 2 (0, 0))
set_option maxHeartbeats 1000000 in
set_option maxRecDepth 100000 in
theorem among_calls (p m g : Nat) (l : List Nat) (hl : 1 < l.length) (hl2 : l.length ≤ 200) (hm : m < 1000000000) (hg : g ≠ p) (w : World) (hs : Src w p m) (hi : Ints w g l) : Calls Tryz.prog 128 #[.pointer (some ⟨p, 0, none⟩), .slice (some ⟨g, 0, none⟩) l.length l.length] w (Draws p (m + 2) w fun e => ∃ x ∈ l, e = .returned (.int .i64 ((x : Nat) : Int))) := by
  have HC := Lib.hid (pick_calls p m l.length hl (by omega) hm w hs)
  have HI := Lib.hid hi
  have hglt : g < w.heap.size := (Array.getElem?_eq_some_iff.1 hi).1
  clear hs hi
  go_enter Tryz.func128, Tryz.ntmps128
  go_wp2_with fail
  refine HC.out.mono ?_
  rintro e w1 ⟨⟨r, rfl, hr⟩, hs1, ht1⟩
  have HS1 := Lib.hid hs1
  have HT1 := Lib.hid ht1
  have hcell : w1.cell? ⟨g, r, none⟩ = some (.int .i64 ((l[r] : Nat) : Int)) := by
    rw [Lib.cell_of_heap ((ht1.oth g hg hglt).trans HI.out)]
    simp [hr]
  have hmem : l[r] ∈ l := List.getElem_mem _
  clear hs1 ht1 HC HI
  generalize l[r] = x at *
  have e24 : decide (r < l.length) = true := decide_eq_true hr
  go_wp2_with fail
  go_ret
  exact ⟨⟨x, hmem, rfl⟩, HS1.out, HT1.out⟩

/-! ### Floats -/
/-- What an operation on floats gives; the tape tells a NaN's bits. -/
def fop (op : BinOp) (k : FloatKind) (x y : Nat) (W : World) : Nat := (floatBits op k x y).getD (Question.cut (.nanBits k x y) (W.tape W.drawn (.nanBits k x y)))
def fow (op : BinOp) (k : FloatKind) (x y : Nat) (W : World) : World := if (floatBits op k x y).isSome then W else W.drew
theorem run_fop (P : Program) (op : BinOp) (hop : op = .add ∨ op = .sub ∨ op = .mul ∨ op = .quo) (t : TypeId) (k : FloatKind) (x y : Nat) (W : World) : (binOp op t (.float k x) (.float k y)).run P W = .ok (.float k (fop op k x y W)) (fow op k x y W) := by
  unfold fop fow
  cases h : floatBits op k x y with
  | some r => rw [run_float_arith W op t k x y r h]; rfl
  | none =>
    unfold floatBits at h
    rcases hop with rfl | rfl | rfl | rfl <;> simp only at h <;> simp [binOp, Op.floatArith, h, choose, Sem.run, Question.forced]
theorem fow_drawn (op : BinOp) (k : FloatKind) (x y : Nat) (W : World) : ∃ n, fow op k x y W = W.drewN n := by
  unfold fow
  split
  · exact ⟨0, rfl⟩
  · exact ⟨1, rfl⟩
theorem wf_lt {b : Nat} (h : (Lit.float .f32 b).wf = true) : b < 4294967296 := by
  have : decide (b < 2 ^ 32) = true := h
  simpa using this
theorem fop_lt (op : BinOp) (x y : Nat) (W : World) : fop op .f32 x y W < 4294967296 := by
  unfold fop
  cases h : floatBits op .f32 x y with
  | some r => exact wf_lt (floatBits_wf h)
  | none =>
    simp only [Option.getD_none, Question.cut]
    have h1 := Nat.mod_lt (W.tape W.drawn (.nanBits .f32 x y)) (show 0 < 2 by decide)
    have h2 := Nat.mod_lt (W.tape W.drawn (.nanBits .f32 x y) / 2) (show 0 < 2 ^ 23 - 1 by decide)
    generalize W.tape W.drawn (.nanBits .f32 x y) % 2 = a at *
    generalize W.tape W.drawn (.nanBits .f32 x y) / 2 % (2 ^ 23 - 1) = c at *
    omega
/-- Some float of 32 bits. -/
def AnyF (e : Ending) : Prop := ∃ b : Nat, e = .returned (.float .f32 b) ∧ b < 4294967296
set_option maxHeartbeats 1000000 in
set_option maxRecDepth 100000 in
theorem plain_calls (p m : Nat) (hm : m < 100000000) (w : World) (hs : Src w p m) : Calls Tryz.prog 127 #[.pointer (some ⟨p, 0, none⟩)] w (Draws p (m + 4) w AnyF) := by
  have HC1 := Lib.hid (pick_calls p m 129 (by decide) (by decide) (by omega) w hs)
  have HC2 := Lib.hid (fun W hs => one_calls p (m + 2) 4 (by decide) (by decide) (by omega) W hs)
  clear hs
  go_enter Tryz.func127, Tryz.ntmps127
  go_wp2_with fail
  refine HC1.out.mono ?_
  rintro e w1 ⟨⟨r, rfl, hr⟩, hs1, ht1⟩
  have HS1 := Lib.hid hs1
  have HT1 := Lib.hid ht1
  clear hs1 ht1 HC1
  go_wp2_with fail
  refine (HC2.out _ HS1.out).mono ?_
  rintro e w2 ⟨⟨b, rfl⟩, hs2, ht2⟩
  have HS2 := Lib.hid hs2
  have HT2 := Lib.hid (HT1.out.trans ht2)
  clear hs2 ht2 HC2 HS1 HT1
  have hq := fun c W => run_fop Tryz.prog .quo (by simp) 29 .f32 (floatOfInt .f32 ((r : Int) - 64)) c W
  cases b with
  | true =>
    go_wp2_with fail
    go_ret
    obtain ⟨n, hn⟩ := fow_drawn .quo .f32 (floatOfInt .f32 ((r : Int) - 64)) 1088421888 w2
    rw [hn]
    exact ⟨⟨_, rfl, fop_lt _ _ _ _⟩, HS2.out.more (pw_below_drewN (Below.refl _ _) n), HT2.out.trans (Turned.drawn p w2 n)⟩
  | false =>
    go_wp2_with fail
    go_ret
    obtain ⟨n, hn⟩ := fow_drawn .quo .f32 (floatOfInt .f32 ((r : Int) - 64)) 1098907648 w2
    rw [hn]
    exact ⟨⟨_, rfl, fop_lt _ _ _ _⟩, HS2.out.more (pw_below_drewN (Below.refl _ _) n), HT2.out.trans (Turned.drawn p w2 n)⟩
end Go.Proofs.YticfmlohkfoccaaGreatDoor
