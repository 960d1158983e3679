/- Sameness of numbers, bits there and back, bytes' picks and conversions, walked. -/
import Derived.Test.YticfmlohkfoccaaGreatDoorH46
import Derived.Test.YticfmlohkfoccaaGreatDoorH45
import Derived.Test.YticfmlohkfoccaaGreatDoorH35
import Derived.StillTailTactics
set_option linter.unusedVariables false
set_option linter.unusedSimpArgs false
namespace Go.Proofs.YticfmlohkfoccaaGreatDoor
open Go.RowKit Go.Proofs.YticfmlohkfoccaaGreatDoorW.PrintWords

theorem beq_cast (a b : Nat) : ((a : Int) == (b : Int)) = decide (a = b) := by
  rw [Bool.eq_iff_iff, beq_iff_eq, decide_eq_true_iff]; omega
set_option maxRecDepth 100000 in
theorem same68_calls (a b : Nat) (ha : a < 4294967296) (hb : b < 4294967296) : Pure 68 #[.float .f32 a, .float .f32 b] (.bool (decide (bits a = bits b))) := by
  intro w
  have H1 := Lib.hid (fun w => l01Bits_calls a ha w)
  have H2 := Lib.hid (fun w => l01Bits_calls b hb w)
  have hq := beq_cast (bits a) (bits b)
  generalize bits a = x at *
  generalize bits b = y at *
  go_enter Tryz.func68, Tryz.ntmps68
  go_wp2_with fail
  refine (H1.out _).mono ?_
  rintro e w1 ⟨rfl, rfl⟩
  go_wp2_with fail
  refine (H2.out _).mono ?_
  rintro e w1 ⟨rfl, rfl⟩
  go_wp2_with fail
  go_ret
  exact ⟨by first | rfl | rw [← hq]; rfl, rfl⟩
set_option maxRecDepth 100000 in
theorem same21_calls (a b : Nat) (ha : a < 4294967296) (hb : b < 4294967296) : Pure 21 #[.float .f32 a, .float .f32 b] (.bool (decide (bits a = bits b))) := by
  intro w
  have H1 := Lib.hid (same68_calls a b ha hb)
  go_enter Tryz.func21, Tryz.ntmps21
  go_wp2_with fail
  refine (H1.out _).mono ?_
  rintro e w1 ⟨rfl, rfl⟩
  go_wp2_with fail
  go_ret
  exact ⟨rfl, rfl⟩
set_option maxRecDepth 100000 in
theorem same87_calls (a b : Nat) (ha : a < 4294967296) (hb : b < 4294967296) : Pure 87 #[.float .f32 a, .float .f32 b] (.bool (decide (bits a = bits b))) := by
  intro w
  have H1 := Lib.hid (fun w => bitsOf_calls a ha w)
  have H2 := Lib.hid (fun w => bitsOf_calls b hb w)
  have hq := beq_cast (bits a) (bits b)
  generalize bits a = x at *
  generalize bits b = y at *
  go_enter Tryz.func87, Tryz.ntmps87
  go_wp2_with fail
  refine (H1.out _).mono ?_
  rintro e w1 ⟨rfl, rfl⟩
  go_wp2_with fail
  refine (H2.out _).mono ?_
  rintro e w1 ⟨rfl, rfl⟩
  go_wp2_with fail
  go_ret
  exact ⟨by first | rfl | rw [← hq]; rfl, rfl⟩
set_option maxRecDepth 100000 in
theorem sameC129_calls (a b c d : Nat) (ha : a < 4294967296) (hb : b < 4294967296) (hc : c < 4294967296) (hd : d < 4294967296) (h1 : bits a = bits c) (h2 : bits b = bits d) : Pure 129 #[.complex .f32 a b, .complex .f32 c d] (.bool true) := by
  intro w
  have q1 := same68_calls a c ha hc
  have q2 := same68_calls b d hb hd
  rw [decide_eq_true h1] at q1
  rw [decide_eq_true h2] at q2
  have H1 := Lib.hid q1
  have H2 := Lib.hid q2
  clear q1 q2 h1 h2
  go_enter Tryz.func129, Tryz.ntmps129
  go_wp2_with fail
  refine (H1.out _).mono ?_
  rintro e w1 ⟨rfl, rfl⟩
  go_wp2_with fail
  refine (H2.out _).mono ?_
  rintro e w1 ⟨rfl, rfl⟩
  go_wp2_with fail
  go_ret
  exact ⟨rfl, rfl⟩
set_option maxRecDepth 100000 in
theorem sameC86_calls (a b c d : Nat) (ha : a < 4294967296) (hb : b < 4294967296) (hc : c < 4294967296) (hd : d < 4294967296) (h1 : bits a = bits c) (h2 : bits b = bits d) : Pure 86 #[.complex .f32 a b, .complex .f32 c d] (.bool true) := by
  intro w
  have H1 := Lib.hid (sameC129_calls a b c d ha hb hc hd h1 h2)
  clear h1 h2
  go_enter Tryz.func86, Tryz.ntmps86
  go_wp2_with fail
  refine (H1.out _).mono ?_
  rintro e w1 ⟨rfl, rfl⟩
  go_wp2_with fail
  go_ret
  exact ⟨rfl, rfl⟩
set_option maxRecDepth 100000 in
theorem sameC35_calls (a b c d : Nat) (ha : a < 4294967296) (hb : b < 4294967296) (hc : c < 4294967296) (hd : d < 4294967296) (h1 : bits a = bits c) (h2 : bits b = bits d) : Pure 35 #[.complex .f32 a b, .complex .f32 c d] (.bool true) := by
  intro w
  have q1 := same87_calls a c ha hc
  have q2 := same87_calls b d hb hd
  rw [decide_eq_true h1] at q1
  rw [decide_eq_true h2] at q2
  have H1 := Lib.hid q1
  have H2 := Lib.hid q2
  clear q1 q2 h1 h2
  go_enter Tryz.func35, Tryz.ntmps35
  go_wp2_with fail
  refine (H1.out _).mono ?_
  rintro e w1 ⟨rfl, rfl⟩
  go_wp2_with fail
  refine (H2.out _).mono ?_
  rintro e w1 ⟨rfl, rfl⟩
  go_wp2_with fail
  go_ret
  exact ⟨rfl, rfl⟩
set_option maxRecDepth 100000 in
theorem fromBits_calls (n : Nat) (hn : n < 4294967296) : Pure 31 #[.int .i64 n] (.tuple #[.float .f32 n, .bool true]) := by
  intro w
  have d1 : decide ((0 : Int) ≤ (n : Int)) = true := decide_eq_true (by omega)
  have d2 : decide ((n : Int) ≤ 4294967295) = true := decide_eq_true (by omega)
  have hw : IntKind.u32.wrap (n : Int) = (n : Int) := by show (n : Int) % 4294967296 = n; omega
  have hx := f32from n
  have HW : Hid (Pure 81 #[.int .i64 n, .int .i64 0, .int .i64 4294967295] (.bool true)) := Lib.hid (by
    intro w
    clear hw hx hn
    go_enter Tryz.func81, Tryz.ntmps81
    go_wp2_with fail
    go_ret
    exact ⟨rfl, rfl⟩)
  clear hn d1 d2
  go_enter Tryz.func31, Tryz.ntmps31
  go_wp2_with fail
  refine (HW.out _).mono ?_
  rintro e w1 ⟨rfl, rfl⟩
  go_wp2_with fail
  go_ret2
  exact ⟨rfl, rfl⟩
set_option maxRecDepth 100000 in
theorem finite38_calls (b : Nat) (w : World) : Calls Tryz.prog 38 #[.float .f32 b] w fun e w' => e = .returned (.bool (fin b)) ∧ Below w.heap.size w w' := by
  have H := Lib.hid (l01Finite_calls b w)
  go_enter Tryz.func38, Tryz.ntmps38
  go_wp2_with fail
  refine H.out.mono ?_
  rintro e w1 ⟨rfl, n, rfl⟩
  go_wp2_with fail
  go_ret
  exact ⟨rfl, pw_below_drewN (Below.refl _ _) n⟩
set_option maxRecDepth 100000 in
theorem long_calls (A B : Option Addr) (n m c d : Nat) : Pure 16 #[.slice A n c, .slice B m d] (.bool (decide (1048576 < n) || decide (1048576 < m))) := by
  intro w
  by_cases h1 : 1048576 < n
  · have d1 : decide ((1048576 : Int) < (n : Int)) = true := decide_eq_true (by omega)
    rw [decide_eq_true h1]
    clear h1
    go_enter Tryz.func16, Tryz.ntmps16
    go_wp2_with fail
    go_ret
    exact ⟨rfl, rfl⟩
  · have d1 : decide ((1048576 : Int) < (n : Int)) = false := decide_eq_false (by omega)
    rw [decide_eq_false h1]
    clear h1
    by_cases h2 : 1048576 < m
    · have d2 : decide ((1048576 : Int) < (m : Int)) = true := decide_eq_true (by omega)
      rw [decide_eq_true h2]
      clear h2
      go_enter Tryz.func16, Tryz.ntmps16
      go_wp2_with fail
      go_ret
      exact ⟨rfl, rfl⟩
    · have d2 : decide ((1048576 : Int) < (m : Int)) = false := decide_eq_false (by omega)
      rw [decide_eq_false h2]
      clear h2
      go_enter Tryz.func16, Tryz.ntmps16
      go_wp2_with fail
      go_ret
      exact ⟨rfl, rfl⟩
set_option maxRecDepth 100000 in
theorem at_calls (A : Option Addr) (n c k : Nat) (hk : 1 < k) (hk2 : k ≤ 1000) (w : World) (hc : Code w A n) : Calls Tryz.prog 27 #[.slice A n c, .int .i64 0, .int .i64 k] w fun e w' => (∃ r : Nat, e = .returned (.int .i64 r) ∧ r < k) ∧ w' = w := by
  have d1 : decide ((k : Int) ≤ 1) = false := decide_eq_false (by omega)
  by_cases hn : 0 < n
  · obtain ⟨ad, b, rfl, hcell, hb⟩ := hc.cells 0 hn
    have e0 : ad.add 0 = ad := by
      obtain ⟨p, o, s⟩ := ad
      cases s <;> simp [Addr.add]
    rw [e0] at hcell
    clear e0
    have d2 : decide ((0 : Int) < (n : Int)) = true := decide_eq_true (by omega)
    have d3 : decide (0 < n) = true := decide_eq_true hn
    clear hc
    go_enter Tryz.func27, Tryz.ntmps27
    go_wp2_with fail
    go_ret
    exact ⟨⟨b % k, congrArg (fun x => Ending.returned (Value.int IntKind.i64 x)) (by push_cast; rfl), Nat.mod_lt _ (by omega)⟩, rfl⟩
  · have hn0 : n = 0 := by omega
    subst hn0
    clear hc
    go_enter Tryz.func27, Tryz.ntmps27
    go_wp2_with fail
    go_ret
    exact ⟨⟨11 % k, congrArg (fun x => Ending.returned (Value.int IntKind.i64 x)) (by push_cast; rfl), Nat.mod_lt _ (by omega)⟩, rfl⟩
end Go.Proofs.YticfmlohkfoccaaGreatDoor
