/- Floats and complex numbers drawn from a source of choices, walked: any bits. -/
import Derived.Test.YticfmlohkfoccaaGreatDoorH31
set_option linter.unusedVariables false
set_option linter.unusedSimpArgs false
namespace Go.Proofs.YticfmlohkfoccaaGreatDoor
open Go.RowKit Go.Proofs.YticfmlohkfoccaaGreatDoorW.PrintWords

theorem Src.alloc {W : World} {p m : Nat} (h : Src W p m) (o : Obj) : Src (W.alloc o) p m := h.more ((Below.refl _ _).alloc (Nat.le_refl _) o)
theorem run_mul64 (x k : Nat) (h : x * k < 9223372036854775808) (W : World) : (binOp .mul 2 (.int .i64 (x : Int)) (.int .i64 (k : Int))).run Tryz.prog W = .ok (.int .i64 ((x * k : Nat) : Int)) W := by
  have h1 : (binOp .mul 2 (.int .i64 (x : Int)) (.int .i64 (k : Int))).run Tryz.prog W = .ok (.int .i64 (IntKind.i64.wrap ((x : Int) * (k : Int)))) W := rfl
  rw [h1, show (x : Int) * (k : Int) = ((x * k : Nat) : Int) from by push_cast; rfl, IntWalk.i64_in _ (by omega)]
def strange : List Nat := [0, 2147483648, 2139095040, 4286578688, 2143289344, 1, 2139095039, 8388608, 8388607, 2147483649]
def powers : List Nat := [8388608, 2130706432, 1610612736, 536870912]
theorem strange_lt : ∀ x ∈ strange, x < 4294967296 := by decide
theorem powers_lt : ∀ x ∈ powers, x < 4294967296 := by decide
set_option maxHeartbeats 2000000 in
set_option maxRecDepth 100000 in
theorem float_calls (p m : Nat) (hm : m < 10000000) (w : World) (hs : Src w p m) : Calls Tryz.prog 80 #[.pointer (some ⟨p, 0, none⟩)] w (Draws p (m + 10) w AnyF) := by
  have HC1 := Lib.hid (one_calls p m 12 (by decide) (by decide) (by omega) w hs)
  have HC2 := Lib.hid (fun m W (hm : m < 100000000) hs => plain_calls p m hm W hs)
  have HC3 := Lib.hid (fun m k W (hk : 1 < k) (hk2 : k ≤ 65536) (hm : m < 1000000000) hs => pick_calls p m k hk hk2 hm W hs)
  have HC4 := Lib.hid (fun m W g l hl hl2 (hm : m < 1000000000) hg hs hi => among_calls p m g l hl hl2 hm hg W hs hi)
  clear hs
  go_enter Tryz.func80, Tryz.ntmps80
  go_wp2_with fail
  refine HC1.out.mono ?_
  rintro e w1 ⟨⟨b, rfl⟩, hs1, ht1⟩
  have HS1 := Lib.hid hs1
  have HT1 := Lib.hid ht1
  clear hs1 ht1 HC1
  cases b with
  | false =>
    go_wp2_with fail
    refine (HC2.out _ _ (by omega) HS1.out).mono ?_
    rintro e w2 ⟨⟨x, rfl, hx⟩, hs2, ht2⟩
    have HS2 := Lib.hid hs2
    have HT2 := Lib.hid (HT1.out.trans ht2)
    clear hs2 ht2 HS1 HT1 HC2 HC3 HC4
    go_wp2_with fail
    go_ret
    exact ⟨⟨x, rfl, hx⟩, HS2.out.le (by omega), HT2.out⟩
  | true =>
    go_wp2_with fail
    refine (HC3.out _ 4 _ (by decide) (by decide) (by omega) HS1.out).mono ?_
    rintro e w2 ⟨⟨r, rfl, hr⟩, hs2, ht2⟩
    have HS2 := Lib.hid hs2
    have HT2 := Lib.hid (HT1.out.trans ht2)
    clear hs2 ht2 HS1 HT1
    obtain rfl | rfl | rfl | rfl : r = 0 ∨ r = 1 ∨ r = 2 ∨ r = 3 := by omega
    · have hi : Ints (w2.alloc (.cells (strange.map fun n => Value.int .i64 ((n : Nat) : Int)).toArray 2)) w2.heap.size strange := heap_alloc_new w2 _
      have hpl := src_lt HS2.out
      have HCc := Lib.hid (HC4.out (m + 2 + 2) _ w2.heap.size strange (by decide) (by decide) (by omega) (by omega) (HS2.out.alloc _) hi)
      have HTa := Lib.hid (HT2.out.trans (Turned.alloc p w2 (.cells (strange.map fun n => Value.int .i64 ((n : Nat) : Int)).toArray 2) hpl))
      clear hi hpl HC2 HC3 HC4
      go_wp2_with fail
      change Calls Tryz.prog 128 _ (w2.alloc (.cells (strange.map fun n => Value.int .i64 ((n : Nat) : Int)).toArray 2)) _
      refine HCc.out.mono ?_
      rintro e w3 ⟨⟨x, hx, rfl⟩, hs3, ht3⟩
      have HS3 := Lib.hid hs3
      have HT3 := Lib.hid (HTa.out.trans ht3)
      have hxl := strange_lt x hx
      clear hs3 ht3 hx HCc HTa HS2 HT2
      have HF := Lib.hid (l01From_calls x hxl w3)
      go_wp2_with fail
      refine HF.out.mono ?_
      rintro e w4 ⟨rfl, rfl⟩
      go_wp2_with fail
      go_ret
      exact ⟨⟨x, rfl, hxl⟩, HS3.out.le (by omega), HT3.out⟩
    · go_wp2_with fail
      refine (HC3.out _ 65536 _ (by decide) (by decide) (by omega) HS2.out).mono ?_
      rintro e w3 ⟨⟨x, rfl, hx⟩, hs3, ht3⟩
      have HS3 := Lib.hid hs3
      have HT3 := Lib.hid (HT2.out.trans ht3)
      clear hs3 ht3 HS2 HT2
      have Hx := Lib.hid hx; clear hx
      go_wp2_with fail
      refine (HC3.out _ 65536 _ (by decide) (by decide) (by omega) HS3.out).mono ?_
      rintro e w4 ⟨⟨y, rfl, hy⟩, hs4, ht4⟩
      have HS4 := Lib.hid hs4
      have HT4 := Lib.hid (HT3.out.trans ht4)
      clear hs4 ht4 HS3 HT3
      have hf := l01From_calls (x * 65536 + y) (by have := Hx.out; omega) w4
      have e2 : ((x * 65536 + y : Nat) : Int) = wrap64 (wrap64 ((x : Int) * 65536) + (y : Int)) := by
        have := Hx.out
        rw [w64' (a := (x : Int) * 65536) (by omega) (by omega), w64' (by omega) (by omega)]; omega
      rw [e2] at hf
      clear e2
      have Hy := Lib.hid hy; clear hy
      have HF := Lib.hid hf
      clear hf HC2 HC3 HC4
      go_wp2_with fail
      refine HF.out.mono ?_
      rintro e w5 ⟨rfl, rfl⟩
      go_wp2_with fail
      go_ret
      exact ⟨⟨x * 65536 + y, rfl, by have := Hx.out; have := Hy.out; omega⟩, HS4.out.le (by omega), HT4.out⟩
    · go_wp2_with fail
      refine (HC3.out _ 65536 _ (by decide) (by decide) (by omega) HS2.out).mono ?_
      rintro e w3 ⟨⟨x, rfl, hx⟩, hs3, ht3⟩
      have HS3 := Lib.hid hs3
      have HT3 := Lib.hid (HT2.out.trans ht3)
      clear hs3 ht3 HS2 HT2
      have hf := l01From_calls (x * 65536) (by omega) w3
      have e2 : ((x * 65536 : Nat) : Int) = wrap64 ((x : Int) * 65536) := by
        rw [w64' (by omega) (by omega)]; omega
      rw [e2] at hf
      clear e2
      have Hx := Lib.hid hx; clear hx
      have HF := Lib.hid hf
      clear hf HC2 HC3 HC4
      go_wp2_with fail
      refine HF.out.mono ?_
      rintro e w5 ⟨rfl, rfl⟩
      go_wp2_with fail
      go_ret
      exact ⟨⟨x * 65536, rfl, by have := Hx.out; omega⟩, HS3.out.le (by omega), HT3.out⟩
    · go_wp2_with fail
      refine (HC2.out _ _ (by omega) HS2.out).mono ?_
      rintro e w3 ⟨⟨a, rfl, ha⟩, hs3, ht3⟩
      have HS3 := Lib.hid hs3
      have HT3 := Lib.hid (HT2.out.trans ht3)
      clear hs3 ht3 HS2 HT2
      have hi : Ints (w3.alloc (.cells (powers.map fun n => Value.int .i64 ((n : Nat) : Int)).toArray 2)) w3.heap.size powers := heap_alloc_new w3 _
      have hpl := src_lt HS3.out
      have HCc := Lib.hid (HC4.out (m + 2 + 2 + 4) _ w3.heap.size powers (by decide) (by decide) (by omega) (by omega) (HS3.out.alloc _) hi)
      have HTa := Lib.hid (HT3.out.trans (Turned.alloc p w3 (.cells (powers.map fun n => Value.int .i64 ((n : Nat) : Int)).toArray 2) hpl))
      clear hi hpl HC2 HC3 HC4
      go_wp2_with fail
      change Calls Tryz.prog 128 _ (w3.alloc (.cells (powers.map fun n => Value.int .i64 ((n : Nat) : Int)).toArray 2)) _
      refine HCc.out.mono ?_
      rintro e w4 ⟨⟨x, hx, rfl⟩, hs4, ht4⟩
      have HS4 := Lib.hid hs4
      have HT4 := Lib.hid (HTa.out.trans ht4)
      have hxl := powers_lt x hx
      clear hs4 ht4 hx HCc HTa HS3 HT3
      have HF := Lib.hid (l01From_calls x hxl w4)
      have hq := fun W => run_fop Tryz.prog .mul (by simp) 29 .f32 a x W
      go_wp2_with fail
      refine HF.out.mono ?_
      rintro e w5 ⟨rfl, rfl⟩
      go_wp2_with fail
      go_ret
      obtain ⟨n, hn⟩ := fow_drawn .mul .f32 a x w5
      rw [hn]
      exact ⟨⟨_, rfl, fop_lt _ _ _ _⟩, (HS4.out.more (pw_below_drewN (Below.refl _ _) n)).le (by omega), HT4.out.trans (Turned.drawn p w5 n)⟩
end Go.Proofs.YticfmlohkfoccaaGreatDoor
