/- What IsFinite, BitsOf and their like in both the program and the reference return of a 32-bit number given by its bits: walked, for every bits. -/
import Derived.Test.YticfmlohkfoccaaGreatDoorShelf
import Derived.WalkKit
import Derived.WalkSpells
import Derived.WalkLawsBesides
import Derived.WalkSmall
import Derived.Laws.FloatArith
import Derived.IntWalk
set_option linter.unusedVariables false
set_option linter.unusedSimpArgs false
namespace Go.Proofs.YticfmlohkfoccaaGreatDoor
open Go.RowKit

/-- Bits of a finite number. -/
def fin (b : Nat) : Bool := match Ieee.single.read b with | .number .. => true | _ => false
theorem fin_sub (b : Nat) : floatBits .sub .f32 b b = if fin b then some 0 else none := by
  unfold floatBits fin
  simp only [Ieee.Format.sub, FloatKind.format]
  cases h : Ieee.single.read b with
  | number s m e =>
    simp only [Ieee.Datum.opposite, Ieee.Datum.sum]
    have hs : Ieee.signed s m (e - min e e).toNat + Ieee.signed (!s) m (e - min e e).toNat = 0 := by
      cases s <;> simp [Ieee.signed] <;> omega
    rw [hs]
    cases s <;> simp [Ieee.Format.write, Ieee.Format.nearest, Ieee.Format.word]
  | infinity s => cases s <;> simp [Ieee.Datum.opposite, Ieee.Datum.sum]
  | nan s f => simp [Ieee.Datum.opposite, Ieee.Datum.sum]
/-- The NaN that the tape hands out. -/
def nanAt (b : Nat) (w : World) : Nat := Question.cut (.nanBits .f32 b b) (w.tape w.drawn (.nanBits .f32 b b))
theorem sw32 : Ieee.single.signWeight = 2147483648 := by rfl
theorem bn32 : Ieee.single.binade = 8388608 := by rfl
theorem if32 : Ieee.single.infRung = 2139095040 := by rfl
theorem read_nan (x : Nat) (h : 2139095040 < x % 2147483648) : ∃ s f, Ieee.single.read x = .nan s f := by
  unfold Ieee.Format.read
  dsimp only
  rw [if_neg (by rw [sw32, bn32]; omega), if_neg (by rw [sw32, if32]; omega), if_neg (by rw [sw32, if32]; omega)]
  exact ⟨_, _, rfl⟩
theorem read_inf (x : Nat) (h : 2139095040 = x % 2147483648) : ∃ s, Ieee.single.read x = .infinity s := by
  unfold Ieee.Format.read
  dsimp only
  rw [if_neg (by rw [sw32, bn32]; omega), if_neg (by rw [sw32, if32]; omega), if_pos (by rw [sw32, if32]; omega)]
  exact ⟨_, rfl⟩
theorem read_num (x : Nat) (h : x % 2147483648 < 2139095040) : ∃ s m e, Ieee.single.read x = .number s m e := by
  unfold Ieee.Format.read
  dsimp only
  by_cases h1 : x % 2147483648 < 8388608
  · rw [if_pos (by rw [sw32, bn32]; omega)]; exact ⟨_, _, _, rfl⟩
  · rw [if_neg (by rw [sw32, bn32]; omega), if_pos (by rw [sw32, if32]; omega)]; exact ⟨_, _, _, rfl⟩
theorem fin_iff (b : Nat) : fin b = decide (b % 2147483648 < 2139095040) := by
  unfold fin
  rcases Nat.lt_trichotomy (b % 2147483648) 2139095040 with h | h | h
  · obtain ⟨s, m, e, r⟩ := read_num b h; rw [r]; simp [h]
  · obtain ⟨s, r⟩ := read_inf b h.symm; rw [r]; simp [h]
  · obtain ⟨s, f, r⟩ := read_nan b h; rw [r]; simp; omega
theorem nan_read (t : Nat) : ∃ s f, Ieee.single.read ((t % 2) * 2 ^ 31 + 0x7f800000 + 1 + (t / 2) % (2 ^ 23 - 1)) = .nan s f := by
  apply read_nan
  have h1 : t % 2 < 2 := Nat.mod_lt _ (by decide)
  have h2 : (t / 2) % (2 ^ 23 - 1) < 2 ^ 23 - 1 := Nat.mod_lt _ (by decide)
  generalize t % 2 = a at *
  generalize (t / 2) % (2 ^ 23 - 1) = c at *
  omega
theorem nan_order (b : Nat) (w : World) : (Ieee.single.order (nanAt b w) 0) = none := by
  obtain ⟨s, f, h⟩ := nan_read (w.tape w.drawn (.nanBits .f32 b b))
  unfold Ieee.Format.order nanAt Question.cut
  simp only
  rw [h]
  rfl
theorem run_sub_nan (P : Program) (t : TypeId) (b : Nat) (w : World) (h : fin b = false) : (binOp .sub t (.float .f32 b) (.float .f32 b)).run P w = .ok (.float .f32 (nanAt b w)) w.drew := by
  have hs : floatBits .sub .f32 b b = none := by rw [fin_sub, h]; rfl
  unfold floatBits at hs
  simp only at hs
  simp [binOp, Op.floatArith, hs, choose, Sem.run, Question.forced, nanAt]

theorem eq_pos_of {b : Nat} {w : World} : (FloatKind.f32.format.order (nanAt b w) 0 == some Ordering.eq) = false := by
  rw [show FloatKind.f32.format = Ieee.single from rfl, nan_order]; rfl
theorem zero_eq : (FloatKind.f32.format.order 0 0 == some Ordering.eq) = true := by rfl

theorem isFinite_calls (b : Nat) (w : World) : Calls Tryz.prog 98 #[.float .f32 b] w fun e w' => e = .returned (.bool (fin b)) ∧ ∃ n, w' = w.drewN n := by
  cases hf : fin b with
  | true =>
    have hs := fun w => run_float_arith (P := Tryz.prog) w .sub 29 .f32 b b 0 (by rw [fin_sub, hf]; rfl)
    go_enter Tryz.func98, Tryz.ntmps98
    go_wp2
    go_ret
    exact ⟨by first | rfl | (rw [zero_eq]; rfl), 0, rfl⟩
  | false =>
    have hs := fun w => run_sub_nan Tryz.prog 29 b w hf
    go_enter Tryz.func98, Tryz.ntmps98
    go_wp2
    go_ret
    exact ⟨by rw [eq_pos_of]; rfl, 1, rfl⟩
theorem l01Finite_calls (b : Nat) (w : World) : Calls Tryz.prog 89 #[.float .f32 b] w fun e w' => e = .returned (.bool (fin b)) ∧ ∃ n, w' = w.drewN n := by
  cases hf : fin b with
  | true =>
    have hs := fun w => run_float_arith (P := Tryz.prog) w .sub 29 .f32 b b 0 (by rw [fin_sub, hf]; rfl)
    go_enter Tryz.func89, Tryz.ntmps89
    go_wp2
    go_ret
    exact ⟨by first | rfl | (rw [zero_eq]; rfl), 0, rfl⟩
  | false =>
    have hs := fun w => run_sub_nan Tryz.prog 29 b w hf
    go_enter Tryz.func89, Tryz.ntmps89
    go_wp2
    go_ret
    exact ⟨by rw [eq_pos_of]; rfl, 1, rfl⟩
theorem notFinite_calls (b : Nat) (w : World) : Calls Tryz.prog 131 #[.float .f32 b] w fun e w' => e = .returned (.bool (!fin b)) ∧ ∃ n, w' = w.drewN n := by
  go_enter Tryz.func131, Tryz.ntmps131
  go_wp2_with fail
  refine (isFinite_calls b w).mono ?_
  rintro e w1 ⟨rfl, n, rfl⟩
  go_wp2
  go_ret
  exact ⟨rfl, n, rfl⟩

/-- A number's bits, one word for all NaNs. -/
def nan32 (b : Nat) : Bool := decide (2139095040 < b % 2147483648)
def bits (b : Nat) : Nat := if nan32 b then 2143289344 else b
theorem ne_self (b : Nat) : (FloatKind.f32.format.order b b != some Ordering.eq) = nan32 b := by
  rw [show FloatKind.f32.format = Ieee.single from rfl]
  unfold Ieee.Format.order nan32
  rcases Nat.lt_trichotomy (b % 2147483648) 2139095040 with h | h | h
  · obtain ⟨s, m, e, r⟩ := read_num b h; rw [r]; simp [Ieee.Datum.order]; omega
  · obtain ⟨s, r⟩ := read_inf b h.symm; rw [r]; cases s <;> simp [Ieee.Datum.order] <;> omega
  · obtain ⟨s, f, r⟩ := read_nan b h; rw [r, decide_eq_true h]; rfl
theorem f32bits (b : Nat) (w : World) : (callFunc 83 #[.float .f32 b]).run Tryz.prog w = .ok (.value (.int .u32 b)) w := by
  rw [run_callFunc_extern Tryz.func83 (by kernel_rfl) (by kernel_rfl) (by kernel_rfl) (e := Extern.MathFloatBits.float32bits) (by kernel_rfl)]; rfl
theorem f32from (b : Nat) (w : World) : (callFunc 82 #[.int .u32 b]).run Tryz.prog w = .ok (.value (.float .f32 b)) w := by
  rw [run_callFunc_extern Tryz.func82 (by kernel_rfl) (by kernel_rfl) (by kernel_rfl) (e := Extern.MathFloatBits.float32frombits) (by kernel_rfl)]; rfl
set_option maxRecDepth 100000 in
theorem bitsOf_calls (b : Nat) (hb : b < 4294967296) (w : World) : Calls Tryz.prog 32 #[.float .f32 b] w fun e w' => e = .returned (.int .i64 (bits b)) ∧ w' = w := by
  have hn := ne_self b
  have hw : IntKind.i64.wrap (b : Int) = (b : Int) := IntWalk.i64_in _ (by omega)
  have hx := f32bits b
  cases h : nan32 b with
  | true =>
    rw [h] at hn
    go_enter Tryz.func32, Tryz.ntmps32
    go_wp2
    go_ret
    exact ⟨by simp [bits, h], rfl⟩
  | false =>
    rw [h] at hn
    go_enter Tryz.func32, Tryz.ntmps32
    go_wp2
    go_ret
    exact ⟨by simp [bits, h], rfl⟩
set_option maxRecDepth 100000 in
theorem l01Bits_calls (b : Nat) (hb : b < 4294967296) (w : World) : Calls Tryz.prog 117 #[.float .f32 b] w fun e w' => e = .returned (.int .i64 (bits b)) ∧ w' = w := by
  have hn := ne_self b
  have hw : IntKind.i64.wrap (b : Int) = (b : Int) := IntWalk.i64_in _ (by omega)
  have hx := f32bits b
  cases h : nan32 b with
  | true =>
    rw [h] at hn
    go_enter Tryz.func117, Tryz.ntmps117
    go_wp2
    go_ret
    exact ⟨by simp [bits, h], rfl⟩
  | false =>
    rw [h] at hn
    go_enter Tryz.func117, Tryz.ntmps117
    go_wp2
    go_ret
    exact ⟨by simp [bits, h], rfl⟩
theorem l01From_calls (b : Nat) (hb : b < 4294967296) (w : World) : Calls Tryz.prog 79 #[.int .i64 b] w fun e w' => e = .returned (.float .f32 b) ∧ w' = w := by
  have hw : IntKind.u32.wrap (b : Int) = (b : Int) := by show (b : Int) % 4294967296 = b; omega
  have hx := f32from b
  go_enter Tryz.func79, Tryz.ntmps79
  go_wp2
  go_ret
  exact ⟨rfl, rfl⟩
end Go.Proofs.YticfmlohkfoccaaGreatDoor
