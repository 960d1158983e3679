/- What the laws draw out of bytes, walked: any bits; whole numbers within their bounds. -/
import Derived.Test.YticfmlohkfoccaaGreatDoorH34
set_option linter.unusedVariables false
set_option linter.unusedSimpArgs false
namespace Go.Proofs.YticfmlohkfoccaaGreatDoor
open Go.RowKit Go.Proofs.YticfmlohkfoccaaGreatDoorW.PrintWords

/-- Bytes that can be read. -/
structure Code (W : World) (A : Option Addr) (n : Nat) : Prop where
  few : n ≤ 1048576
  cells : ∀ i, i < n → ∃ (ad : Addr) (b : Nat), A = some ad ∧ W.cell? (ad.add i) = some (.int .u8 ((b : Nat) : Int)) ∧ b < 256
theorem Code.more {W W2 : World} {A : Option Addr} {n : Nat} (h : Code W A n) (k : Below W.heap.size W W2) : Code W2 A n :=
  ⟨h.few, fun i hi => by
    obtain ⟨ad, b, h1, h2, h3⟩ := h.cells i hi
    exact ⟨ad, b, h1, pw_cell_below k h2, h3⟩⟩
def srcCells (A : Option Addr) (n c : Nat) : Obj := .cells #[.slice A n c, .int .i64 0, .int .u64 0] 135
theorem Code.src {W : World} {A : Option Addr} {n : Nat} (h : Code W A n) (c : Nat) : Src (W.alloc (srcCells A n c)) W.heap.size 0 := by
  refine ⟨A, n, c, 0, 0, heap_alloc_new W _, Nat.le_refl _, h.few, by decide, fun i hi => ?_⟩
  obtain ⟨ad, b, h1, h2, h3⟩ := h.cells i hi
  have hlt : ad.block < W.heap.size := by
    have := World.block_lt_of_cell? _ _ h2
    rwa [add_block] at this
  exact ⟨ad, b, h1, hlt, pw_cell_below ((Below.refl _ _).alloc (Nat.le_refl _) _) h2, h3⟩
set_option maxRecDepth 100000 in
theorem from_calls (A : Option Addr) (n c : Nat) (w : World) : Calls Tryz.prog 64 #[.slice A n c] w fun e w' => e = .returned (.pointer (some ⟨w.heap.size, 0, none⟩)) ∧ w' = w.alloc (srcCells A n c) := by
  go_enter Tryz.func64, Tryz.ntmps64
  go_wp2_with fail
  go_ret
  exact ⟨rfl, rfl⟩
theorem fresh_below (w : World) (o : Obj) {W : World} (h : Turned w.heap.size (w.alloc o) W) : Below w.heap.size w W :=
  h.bel _ _ ((Below.refl _ _).alloc (Nat.le_refl _) o) (Nat.le_refl _)
set_option maxHeartbeats 1000000 in
set_option maxRecDepth 100000 in
theorem number_calls (A : Option Addr) (n c : Nat) (w : World) (hc : Code w A n) : Calls Tryz.prog 30 #[.slice A n c] w fun e w' => AnyF e ∧ Below w.heap.size w w' := by
  have HC0 := Lib.hid (from_calls A n c w)
  have HS := Lib.hid (hc.src c)
  have HC1 := Lib.hid (fun p m k W (hk : 1 < k) (hk2 : k ≤ 65536) (hm : m < 1000000000) hs => pick_calls p m k hk hk2 hm W hs)
  have HC2 := Lib.hid (fun p m k W (hk : 1 < k) (hk2 : k ≤ 65536) (hm : m < 1000000000) hs => one_calls p m k hk hk2 hm W hs)
  have HC3 := Lib.hid (fun p m W (hm : m < 10000000) hs => float_calls p m hm W hs)
  clear hc
  go_enter Tryz.func30, Tryz.ntmps30
  go_wp2_with fail
  refine HC0.out.mono ?_
  rintro e w1 ⟨rfl, rfl⟩
  generalize hp : w.heap.size = p at *
  have HP := Lib.hid hp; clear hp HC0
  have HT : Hid (∀ W, Turned p (w.alloc (srcCells A n c)) W → Below p w W) := Lib.hid (fun W h => by
    have e := HP.out; subst e; exact fresh_below w _ h)
  generalize w.alloc (srcCells A n c) = w1 at *
  go_wp2_with fail
  refine (HC2.out _ _ 2 _ (by decide) (by decide) (by decide) HS.out).mono ?_
  rintro e w2 ⟨⟨b, rfl⟩, hs2, ht2⟩
  have HS2 := Lib.hid hs2
  have HT2 := Lib.hid ht2
  clear hs2 ht2 HS
  cases b with
  | false =>
    go_wp2_with fail
    refine (HC3.out _ _ _ (by decide) HS2.out).mono ?_
    rintro e w3 ⟨⟨x, rfl, hx⟩, hs3, ht3⟩
    have HB := Lib.hid (HT.out _ (HT2.out.trans ht3))
    clear hs3 ht3 HS2 HT2 HC1 HC2 HC3
    go_wp2_with fail
    go_ret
    exact ⟨⟨x, rfl, hx⟩, by rw [HP.out]; exact HB.out⟩
  | true =>
    go_wp2_with fail
    refine (HC1.out _ _ 65536 _ (by decide) (by decide) (by decide) HS2.out).mono ?_
    rintro e w3 ⟨⟨x, rfl, hx⟩, hs3, ht3⟩
    have HS3 := Lib.hid hs3
    have HT3 := Lib.hid (HT2.out.trans ht3)
    clear hs3 ht3 HS2 HT2
    have Hx := Lib.hid hx; clear hx
    go_wp2_with fail
    refine (HC1.out _ _ 65536 _ (by decide) (by decide) (by decide) HS3.out).mono ?_
    rintro e w4 ⟨⟨y, rfl, hy⟩, hs4, ht4⟩
    have HB4 := Lib.hid (HT.out _ (HT3.out.trans ht4))
    clear hs4 ht4 HS3 HT3
    have hf := l01From_calls (x * 65536 + y) (by have := Hx.out; omega) w4
    have e2 : ((x * 65536 + y : Nat) : Int) = wrap64 (wrap64 ((x : Int) * 65536) + (y : Int)) := by
      have := Hx.out
      rw [w64' (a := (x : Int) * 65536) (by omega) (by omega), w64' (by omega) (by omega)]; omega
    rw [e2] at hf
    clear e2
    have Hy := Lib.hid hy; clear hy
    have HF := Lib.hid hf
    clear hf HC1 HC2 HC3
    go_wp2_with fail
    refine HF.out.mono ?_
    rintro e w5 ⟨rfl, rfl⟩
    go_wp2_with fail
    go_ret
    exact ⟨⟨x * 65536 + y, rfl, by have := Hx.out; have := Hy.out; omega⟩, by rw [HP.out]; exact HB4.out⟩
set_option maxHeartbeats 1000000 in
set_option maxRecDepth 100000 in
theorem complexOf_calls (A : Option Addr) (n c : Nat) (w : World) (hc : Code w A n) : Calls Tryz.prog 33 #[.slice A n c] w fun e w' => AnyC e ∧ Below w.heap.size w w' := by
  have HC0 := Lib.hid (from_calls A n c w)
  have HS := Lib.hid (hc.src c)
  have HC2 := Lib.hid (fun p m k W (hk : 1 < k) (hk2 : k ≤ 65536) (hm : m < 1000000000) hs => one_calls p m k hk hk2 hm W hs)
  have HC3 := Lib.hid (fun p m W (hm : m < 1000000) hs => complex_calls p m hm W hs)
  have HC4 := Lib.hid (fun p m W (hm : m < 1000000) hs => fine_calls p m hm W hs)
  clear hc
  go_enter Tryz.func33, Tryz.ntmps33
  go_wp2_with fail
  refine HC0.out.mono ?_
  rintro e w1 ⟨rfl, rfl⟩
  generalize hp : w.heap.size = p at *
  have HP := Lib.hid hp; clear hp HC0
  have HT : Hid (∀ W, Turned p (w.alloc (srcCells A n c)) W → Below p w W) := Lib.hid (fun W h => by
    have e := HP.out; subst e; exact fresh_below w _ h)
  generalize w.alloc (srcCells A n c) = w1 at *
  go_wp2_with fail
  refine (HC2.out _ _ 4 _ (by decide) (by decide) (by decide) HS.out).mono ?_
  rintro e w2 ⟨⟨b, rfl⟩, hs2, ht2⟩
  have HS2 := Lib.hid hs2
  have HT2 := Lib.hid ht2
  clear hs2 ht2 HS
  cases b with
  | false =>
    go_wp2_with fail
    refine (HC4.out _ _ _ (by decide) HS2.out).mono ?_
    rintro e w3 ⟨⟨x, y, rfl, hx, hy⟩, hs3, ht3⟩
    have HB := Lib.hid (HT.out _ (HT2.out.trans ht3))
    clear hs3 ht3 HS2 HT2 HC2 HC3 HC4
    go_wp2_with fail
    go_ret
    exact ⟨⟨x, y, rfl, hx, hy⟩, by rw [HP.out]; exact HB.out⟩
  | true =>
    go_wp2_with fail
    refine (HC3.out _ _ _ (by decide) HS2.out).mono ?_
    rintro e w3 ⟨⟨x, y, rfl, hx, hy⟩, hs3, ht3⟩
    have HB := Lib.hid (HT.out _ (HT2.out.trans ht3))
    clear hs3 ht3 HS2 HT2 HC2 HC3 HC4
    go_wp2_with fail
    go_ret
    exact ⟨⟨x, y, rfl, hx, hy⟩, by rw [HP.out]; exact HB.out⟩

set_option maxHeartbeats 1000000 in
set_option maxRecDepth 100000 in
theorem drawnNumbers_calls (A : Option Addr) (n c k : Nat) (hk : k ≤ 100) (w : World) (hc : Code w A n) : Calls Tryz.prog 40 #[.slice A n c, .int .i64 k] w fun e w' => ∃ v o, e = .returned v ∧ o.length = k ∧ (∀ x ∈ o, goodF x) ∧ Out kF 29 w v o w' := by
  have HC0 := Lib.hid (from_calls A n c w)
  have HS := Lib.hid (hc.src c)
  have HC2 := Lib.hid (fun p W hs => floats_calls p k hk W hs)
  clear hc
  go_enter Tryz.func40, Tryz.ntmps40
  go_wp2_with fail
  refine HC0.out.mono ?_
  rintro e w1 ⟨rfl, rfl⟩
  have hsz : w.heap.size ≤ (w.alloc (srcCells A n c)).heap.size := by simp
  have HO : Hid (∀ v o W, Kd.R kF 29 W (w.alloc (srcCells A n c)).heap.size (fun _ => True) v o → Turned w.heap.size (w.alloc (srcCells A n c)) W → Out kF 29 w v o W) := Lib.hid (fun v o W h ht => ⟨Kd.R_lower h hsz, fresh_below w _ ht⟩)
  generalize hp : w.heap.size = p at HS
  have HP := Lib.hid hp; clear hp HC0 hsz
  have HO2 := HO
  rw [HP.out] at HO2
  clear HO
  generalize w.alloc (srcCells A n c) = w1 at *
  go_wp2_with fail
  refine (HC2.out _ _ HS.out).mono ?_
  rintro e w2 ⟨v, o, rfl, hol, hoa, hr, ht⟩
  have Hol := Lib.hid hol
  have Hoa := Lib.hid hoa
  have HOut := Lib.hid (HO2.out v o w2 hr ht)
  clear hol hoa hr ht HO2 HC2
  go_wp2_with fail
  go_ret
  exact ⟨v, o, rfl, Hol.out, Hoa.out, HOut.out⟩

set_option maxHeartbeats 1000000 in
set_option maxRecDepth 100000 in
theorem drawnAny_calls (A : Option Addr) (n c k : Nat) (hk : k ≤ 100) (w : World) (hc : Code w A n) : Calls Tryz.prog 26 #[.slice A n c, .int .i64 k] w fun e w' => ∃ v o, e = .returned v ∧ o.length = k ∧ (∀ x ∈ o, goodC x) ∧ Out kC 28 w v o w' := by
  have HC0 := Lib.hid (from_calls A n c w)
  have HS := Lib.hid (hc.src c)
  have HC2 := Lib.hid (fun p W hs => complexes_calls p k hk W hs)
  clear hc
  go_enter Tryz.func26, Tryz.ntmps26
  go_wp2_with fail
  refine HC0.out.mono ?_
  rintro e w1 ⟨rfl, rfl⟩
  have hsz : w.heap.size ≤ (w.alloc (srcCells A n c)).heap.size := by simp
  have HO : Hid (∀ v o W, Kd.R kC 28 W (w.alloc (srcCells A n c)).heap.size (fun _ => True) v o → Turned w.heap.size (w.alloc (srcCells A n c)) W → Out kC 28 w v o W) := Lib.hid (fun v o W h ht => ⟨Kd.R_lower h hsz, fresh_below w _ ht⟩)
  generalize hp : w.heap.size = p at HS
  have HP := Lib.hid hp; clear hp HC0 hsz
  have HO2 := HO
  rw [HP.out] at HO2
  clear HO
  generalize w.alloc (srcCells A n c) = w1 at *
  go_wp2_with fail
  refine (HC2.out _ _ HS.out).mono ?_
  rintro e w2 ⟨v, o, rfl, hol, hoa, hr, ht⟩
  have Hol := Lib.hid hol
  have Hoa := Lib.hid hoa
  have HOut := Lib.hid (HO2.out v o w2 hr ht)
  clear hol hoa hr ht HO2 HC2
  go_wp2_with fail
  go_ret
  exact ⟨v, o, rfl, Hol.out, Hoa.out, HOut.out⟩
end Go.Proofs.YticfmlohkfoccaaGreatDoor
