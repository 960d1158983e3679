/- The program's products, powers, quotients of complex numbers whose parts are small whole numbers, walked: exact. -/
import Derived.Test.YticfmlohkfoccaaGreatDoorH44
set_option linter.unusedVariables false
set_option linter.unusedSimpArgs false
namespace Go.Proofs.YticfmlohkfoccaaGreatDoor
open Go.RowKit Go.Proofs.YticfmlohkfoccaaGreatDoorW.PrintWords

theorem run_wide {b r : Nat} (h : floatToFloatBits .f32 b .f64 = some r) (W : World) : (convert 29 57 (.float .f32 b)).run Tryz.prog W = .ok (.float .f64 r) W :=
  run_convert_float_float W 29 57 .f32 .f64 b r (by rw [Tryz.underlying29]; rfl) Tryz.underlying57 h
theorem run_narrow {b r : Nat} (h : floatToFloatBits .f64 b .f32 = some r) (W : World) : (convert 57 29 (.float .f64 b)).run Tryz.prog W = .ok (.float .f32 r) W :=
  run_convert_float_float W 57 29 .f64 .f32 b r (by rw [Tryz.underlying57]; rfl) Tryz.underlying29 h
theorem run64 {op : BinOp} {x y r : Nat} (h : floatBits op .f64 x y = some r) (W : World) : (binOp op 57 (.float .f64 x) (.float .f64 y)).run Tryz.prog W = .ok (.float .f64 r) W := run_float_arith W op 57 .f64 x y r h
theorem run32 {op : BinOp} {x y r : Nat} (h : floatBits op .f32 x y = some r) (W : World) : (binOp op 29 (.float .f32 x) (.float .f32 y)).run Tryz.prog W = .ok (.float .f32 r) W := run_float_arith W op 29 .f32 x y r h
/-- A call that gives a value and leaves the world. -/
def Pure (f : Nat) (args : Array Value) (v : Value) : Prop := ∀ w, Calls Tryz.prog f args w fun e w' => e = .returned v ∧ w' = w
set_option maxRecDepth 100000 in
theorem wideParts_calls {x y : Nat} {a b : Int} (hx : J32 x a) (hy : J32 y b) : ∃ u v, J64 u a ∧ J64 v b ∧ Pure 116 #[.complex .f32 x y] (.tuple #[.float .f64 u, .float .f64 v]) := by
  obtain ⟨u, hu, ju⟩ := hx.wide
  obtain ⟨v, hv, jv⟩ := hy.wide
  refine ⟨u, v, ju, jv, fun w => ?_⟩
  have c1 := run_wide hu
  have c2 := run_wide hv
  clear hu hv ju jv hx hy
  go_enter Tryz.func116, Tryz.ntmps116
  go_wp2_with fail
  go_ret2
  exact ⟨rfl, rfl⟩
theorem mul_bound {a b : Int} {A B : Nat} (ha : a.natAbs ≤ A) (hb : b.natAbs ≤ B) : (a * b).natAbs ≤ A * B := by
  rw [Int.natAbs_mul]; exact Nat.mul_le_mul ha hb
set_option maxRecDepth 100000 in
theorem wideProduct_calls {x y z t : Nat} {a b c d : Int} (hx : J32 x a) (hy : J32 y b) (hz : J32 z c) (ht : J32 t d) (ha : a.natAbs ≤ 100000) (hb : b.natAbs ≤ 100000) (hc : c.natAbs ≤ 100000) (hd : d.natAbs ≤ 100000) :
    ∃ u v, J64 u (a * c - b * d) ∧ J64 v (a * d + b * c) ∧ Pure 66 #[.complex .f32 x y, .complex .f32 z t] (.tuple #[.float .f64 u, .float .f64 v]) := by
  obtain ⟨x', y', jx, jy, hp1⟩ := wideParts_calls hx hy
  obtain ⟨z', t', jz, jt, hp2⟩ := wideParts_calls hz ht
  have b1 := mul_bound ha hc
  have b2 := mul_bound hb hd
  have b3 := mul_bound ha hd
  have b4 := mul_bound hb hc
  obtain ⟨m1, h1, j1⟩ := jx.mul jz (by omega)
  obtain ⟨m2, h2, j2⟩ := jy.mul jt (by omega)
  obtain ⟨m3, h3, j3⟩ := jx.mul jt (by omega)
  obtain ⟨m4, h4, j4⟩ := jy.mul jz (by omega)
  obtain ⟨u, h5, j5⟩ := j1.sub j2 (by omega)
  obtain ⟨v, h6, j6⟩ := j3.add j4 (by omega)
  refine ⟨u, v, j5, j6, fun w => ?_⟩
  have r1 := run64 h1
  have r2 := run64 h2
  have r3 := run64 h3
  have r4 := run64 h4
  have r5 := run64 h5
  have r6 := run64 h6
  have HP1 := Lib.hid hp1
  have HP2 := Lib.hid hp2
  clear h1 h2 h3 h4 h5 h6 j1 j2 j3 j4 j5 j6 b1 b2 b3 b4 hp1 hp2 jx jy jz jt hx hy hz ht ha hb hc hd
  go_enter Tryz.func66, Tryz.ntmps66
  go_wp2_with fail
  refine (HP1.out _).mono ?_
  rintro e w1 ⟨rfl, rfl⟩
  go_wp2_with fail
  refine (HP2.out _).mono ?_
  rintro e w1 ⟨rfl, rfl⟩
  go_wp2_with fail
  go_ret2
  exact ⟨rfl, rfl⟩
set_option maxRecDepth 100000 in
theorem mul_calls {x y z t : Nat} {a b c d : Int} (hx : J32 x a) (hy : J32 y b) (hz : J32 z c) (ht : J32 t d) (ha : a.natAbs ≤ 200) (hb : b.natAbs ≤ 200) (hc : c.natAbs ≤ 200) (hd : d.natAbs ≤ 200) :
    ∃ u v, J32 u (a * c - b * d) ∧ J32 v (a * d + b * c) ∧ Pure 18 #[.complex .f32 x y, .complex .f32 z t] (.complex .f32 u v) := by
  obtain ⟨u', v', ju, jv, hp⟩ := wideProduct_calls hx hy hz ht (by omega) (by omega) (by omega) (by omega)
  have b1 := mul_bound ha hc
  have b2 := mul_bound hb hd
  have b3 := mul_bound ha hd
  have b4 := mul_bound hb hc
  obtain ⟨u, h1, j1⟩ := ju.narrow (by omega)
  obtain ⟨v, h2, j2⟩ := jv.narrow (by omega)
  refine ⟨u, v, j1, j2, fun w => ?_⟩
  have r1 := run_narrow h1
  have r2 := run_narrow h2
  have HP := Lib.hid hp
  clear h1 h2 j1 j2 b1 b2 b3 b4 hp ju jv hx hy hz ht ha hb hc hd
  go_enter Tryz.func18, Tryz.ntmps18
  go_wp2_with fail
  refine (HP.out _).mono ?_
  rintro e w1 ⟨rfl, rfl⟩
  go_wp2_with fail
  go_ret
  exact ⟨rfl, rfl⟩
/-- The power of a number. -/
def pw (a b : Int) : Nat := a.natAbs * a.natAbs + b.natAbs * b.natAbs
theorem J64.sq {u : Nat} {a : Int} (h : J64 u a) (hb : a.natAbs ≤ 100000) : floatBits .mul .f64 u u = some (cI Ieee.double false (a.natAbs * a.natAbs)) := by
  obtain ⟨s, M, rfl, hM, rfl⟩ := h
  rw [sval_abs] at hb ⊢
  have hm : M * M ≤ 100000 * 100000 := Nat.mul_le_mul hb hb
  have := cI_mul good64 s s M M hM hM (by show M * M < 9007199254740992; omega)
  rw [show (s ^^ s) = false from by cases s <;> rfl] at this
  exact this
theorem add_nonneg (A B : Nat) (h : A + B < 9007199254740992) : floatBits .add .f64 (cI Ieee.double false A) (cI Ieee.double false B) = some (cI Ieee.double false (A + B)) := by
  have e : sval false A + sval false B = ((A + B : Nat) : Int) := by simp [sval]
  have := cI_add good64 false false A B (by show A < 9007199254740992; omega) (by show B < 9007199254740992; omega) (by rw [e]; show A + B < 9007199254740992; omega)
  rw [e] at this
  refine this.trans ?_
  congr 2
  by_cases hz : ((A + B : Nat) : Int) = 0
  · rw [if_pos hz]; rfl
  · rw [if_neg hz]; exact decide_eq_false (by omega)
set_option maxRecDepth 100000 in
theorem widePower_calls {x y : Nat} {a b : Int} (hx : J32 x a) (hy : J32 y b) (ha : a.natAbs ≤ 200) (hb : b.natAbs ≤ 200) : Pure 67 #[.complex .f32 x y] (.float .f64 (cI Ieee.double false (pw a b))) := by
  obtain ⟨x', y', jx, jy, hp⟩ := wideParts_calls hx hy
  intro w
  have h1 := jx.sq (by omega)
  have h2 := jy.sq (by omega)
  have m1 : a.natAbs * a.natAbs ≤ 200 * 200 := Nat.mul_le_mul ha ha
  have m2 : b.natAbs * b.natAbs ≤ 200 * 200 := Nat.mul_le_mul hb hb
  have h3 := add_nonneg (a.natAbs * a.natAbs) (b.natAbs * b.natAbs) (by omega)
  have r1 := run64 h1
  have r2 := run64 h2
  have r3 := run64 h3
  have HP := Lib.hid hp
  unfold pw
  clear h1 h2 h3 m1 m2 hp jx jy hx hy ha hb
  generalize cI Ieee.double false (a.natAbs * a.natAbs + b.natAbs * b.natAbs) = p at *
  generalize cI Ieee.double false (a.natAbs * a.natAbs) = p1 at *
  generalize cI Ieee.double false (b.natAbs * b.natAbs) = p2 at *
  go_enter Tryz.func67, Tryz.ntmps67
  go_wp2_with fail
  refine (HP.out _).mono ?_
  rintro e w1 ⟨rfl, rfl⟩
  go_wp2_with fail
  go_ret
  exact ⟨rfl, rfl⟩
theorem pw_lt {a b : Int} (ha : a.natAbs ≤ 200) (hb : b.natAbs ≤ 200) : pw a b ≤ 80000 := by
  have m1 : a.natAbs * a.natAbs ≤ 200 * 200 := Nat.mul_le_mul ha ha
  have m2 : b.natAbs * b.natAbs ≤ 200 * 200 := Nat.mul_le_mul hb hb
  unfold pw; omega
set_option maxRecDepth 100000 in
theorem power_calls {x y : Nat} {a b : Int} (hx : J32 x a) (hy : J32 y b) (ha : a.natAbs ≤ 200) (hb : b.natAbs ≤ 200) : Pure 19 #[.complex .f32 x y] (.float .f32 (cI Ieee.single false (pw a b))) := by
  intro w
  have HP := Lib.hid (widePower_calls hx hy ha hb)
  have hl := pw_lt ha hb
  have r1 := run_narrow (narrow_cI false (pw a b) (by omega))
  clear hx hy ha hb hl
  generalize cI Ieee.double false (pw a b) = p at *
  generalize cI Ieee.single false (pw a b) = q at *
  go_enter Tryz.func19, Tryz.ntmps19
  go_wp2_with fail
  refine (HP.out _).mono ?_
  rintro e w1 ⟨rfl, rfl⟩
  go_wp2_with fail
  go_ret
  exact ⟨rfl, rfl⟩
set_option maxRecDepth 100000 in
theorem conj_calls (x y : Nat) : Pure 20 #[.complex .f32 x y] (.complex .f32 x (Op.negFloat .f32 y)) := by
  intro w
  have hneg : Op.unary .neg (.float .f32 y) = pure (.float .f32 (Op.negFloat .f32 y)) := rfl
  go_enter Tryz.func20, Tryz.ntmps20
  go_wp2_with fail
  go_ret
  exact ⟨rfl, rfl⟩

/-! ### Square roots -/
theorem run_sqrt {x r : Nat} (h : FloatKind.f64.format.sqrt x = some r) (w : World) : (callFunc 118 #[.float .f64 x]).run Tryz.prog w = .ok (.value (.float .f64 r)) w := by
  have e : Extern.MathSqrt.sqrt #[.float .f64 x] = pure (.float .f64 r) := by
    show (match FloatKind.f64.format.sqrt x with
      | some r => pure (.float .f64 r)
      | none => do pure (.float .f64 (← choose (.nanBits .f64 x x)))) = (pure (.float .f64 r) : Sem Value)
    rw [h]
  rw [run_callFunc_extern Tryz.func118 (by kernel_rfl) (by kernel_rfl) (by kernel_rfl) (e := Extern.MathSqrt.sqrt) (by kernel_rfl), e]
  rfl
set_option maxRecDepth 100000 in
theorem sqrt_calls {x r : Nat} (h : FloatKind.f64.format.sqrt x = some r) : Pure 69 #[.float .f64 x] (.float .f64 r) := by
  intro w
  have hs := run_sqrt h
  clear h
  go_enter Tryz.func69, Tryz.ntmps69
  go_wp2_with fail
  go_ret
  exact ⟨rfl, rfl⟩
/-- Both sides' root of a power. -/
theorem roots_calls {x y : Nat} {a b : Int} (hx : J32 x a) (hy : J32 y b) (ha : a.natAbs ≤ 200) (hb : b.natAbs ≤ 200) : ∃ q, q < 4294967296 ∧ Pure 22 #[.complex .f32 x y] (.float .f32 q) ∧ Pure 23 #[.float .f32 (cI Ieee.single false (pw a b))] (.float .f32 q) := by
  have hl := pw_lt ha hb
  obtain ⟨r, q, h1, h2, h3⟩ := root_small (pw a b) (by omega)
  have hp := widePower_calls hx hy ha hb
  have hs := sqrt_calls h1
  have hn := run_narrow h2
  have hw : floatToFloatBits .f32 (cI Ieee.single false (pw a b)) .f64 = some (cI Ieee.double false (pw a b)) := by
    obtain ⟨m, i, hr, hi⟩ := read_cI good32 false (pw a b) (by show pw a b < 16777216; omega)
    unfold floatToFloatBits
    rw [if_neg (by decide), show FloatKind.f32.decode (cI Ieee.single false (pw a b)) = Ieee.single.read (cI Ieee.single false (pw a b)) from rfl, hr]
    dsimp only
    have e : FloatKind.f64.encode (.number false m i) = cI Ieee.double false (pw a b) := cI_nearest good64 false m i _ (by show pw a b < 9007199254740992; omega) hi
    rw [e, show FloatKind.f64.decode (cI Ieee.double false (pw a b)) = Ieee.double.read (cI Ieee.double false (pw a b)) from rfl, cI_num good64 false _ (by show pw a b < 9007199254740992; omega)]
    rfl
  have hv := run_wide hw
  have HP := Lib.hid hp
  have HS := Lib.hid hs
  clear hp hs h1 h2 hw hx hy ha hb hl
  generalize cI Ieee.double false (pw a b) = p at *
  generalize cI Ieee.single false (pw a b) = ps at *
  have hN : Pure 119 #[.float .f64 r] (.float .f32 q) := by
    intro w
    clear HP HS hv
    go_enter Tryz.func119, Tryz.ntmps119
    go_wp2_with fail
    go_ret
    exact ⟨rfl, rfl⟩
  have HN := Lib.hid hN
  clear hN
  have h70 : Pure 70 #[.float .f32 ps] (.float .f32 q) := by
    intro w
    go_enter Tryz.func70, Tryz.ntmps70
    go_wp2_with fail
    refine (HS.out _).mono ?_
    rintro e w1 ⟨rfl, rfl⟩
    go_wp2_with fail
    refine (HN.out _).mono ?_
    rintro e w1 ⟨rfl, rfl⟩
    go_wp2_with fail
    go_ret
    exact ⟨rfl, rfl⟩
  have H70 := Lib.hid h70
  clear h70
  refine ⟨q, h3, fun w => ?_, fun w => ?_⟩
  · go_enter Tryz.func22, Tryz.ntmps22
    go_wp2_with fail
    refine (HP.out _).mono ?_
    rintro e w1 ⟨rfl, rfl⟩
    go_wp2_with fail
    refine (HS.out _).mono ?_
    rintro e w1 ⟨rfl, rfl⟩
    go_wp2_with fail
    go_ret
    exact ⟨rfl, rfl⟩
  · go_enter Tryz.func23, Tryz.ntmps23
    go_wp2_with fail
    refine (H70.out _).mono ?_
    rintro e w1 ⟨rfl, rfl⟩
    go_wp2_with fail
    go_ret
    exact ⟨rfl, rfl⟩
/-! ### Quotients and multiples -/
theorem pw_int (c d : Int) : (pw c d : Int) = c * c + d * d := by
  unfold pw
  have h : ∀ x : Int, ((x.natAbs * x.natAbs : Nat) : Int) = x * x := fun x => Int.natAbs_mul_self
  rw [Int.natCast_add, h, h]
set_option maxRecDepth 100000 in
theorem quotient_calls {p1 p2 z t : Nat} {a b c d : Int} (hp1 : J32 p1 (a * c - b * d)) (hp2 : J32 p2 (a * d + b * c)) (hz : J32 z c) (ht : J32 t d) (ha : a.natAbs ≤ 200) (hb : b.natAbs ≤ 200) (hc : c.natAbs ≤ 200) (hd : d.natAbs ≤ 200) (h0 : pw c d ≠ 0) :
    ∃ u v, J32 u a ∧ J32 v b ∧ Pure 24 #[.complex .f32 p1 p2, .complex .f32 z t] (.complex .f32 u v) := by
  have b1 := mul_bound ha hc
  have b2 := mul_bound hb hd
  have b3 := mul_bound ha hd
  have b4 := mul_bound hb hc
  have hN := ht.neg
  obtain ⟨n1, n2, j1, j2, hw⟩ := wideProduct_calls hp1 hp2 hz hN (by omega) (by omega) (by omega) (by omega)
  have hl := pw_lt hc hd
  have e1 : (a * c - b * d) * c - (a * d + b * c) * -d = a * (pw c d : Int) := by rw [pw_int]; simp only [Int.sub_mul, Int.add_mul, Int.mul_add, Int.mul_neg]; have := Int.mul_assoc a c c; have := Int.mul_assoc a d d; have := Int.mul_right_comm b d c; omega
  have e2 : (a * c - b * d) * -d + (a * d + b * c) * c = b * (pw c d : Int) := by rw [pw_int]; simp only [Int.sub_mul, Int.add_mul, Int.mul_add, Int.mul_neg]; have := Int.mul_assoc b c c; have := Int.mul_assoc b d d; have := Int.mul_right_comm a d c; omega
  rw [e1] at j1
  rw [e2] at j2
  have jp : J64 (cI Ieee.double false (pw c d)) (pw c d : Int) := ⟨false, pw c d, rfl, by omega, rfl⟩
  obtain ⟨u', hu, ju⟩ := j1.quo jp (by omega) (by omega)
  obtain ⟨v', hv, jv⟩ := j2.quo jp (by omega) (by omega)
  obtain ⟨u, hu2, ju2⟩ := ju.narrow (by omega)
  obtain ⟨v, hv2, jv2⟩ := jv.narrow (by omega)
  refine ⟨u, v, ju2, jv2, fun w => ?_⟩
  have r1 := run64 hu
  have r2 := run64 hv
  have r3 := run_narrow hu2
  have r4 := run_narrow hv2
  have HW := Lib.hid hw
  have HC := Lib.hid (conj_calls z t)
  have HP := Lib.hid (widePower_calls hz ht hc hd)
  clear hu hv hu2 hv2 ju jv ju2 jv2 jp j1 j2 hw hN b1 b2 b3 b4 hp1 hp2 hz ht ha hb hc hd h0 hl e1 e2
  generalize cI Ieee.double false (pw c d) = pp at *
  go_enter Tryz.func24, Tryz.ntmps24
  go_wp2_with fail
  refine (HC.out _).mono ?_
  rintro e w1 ⟨rfl, rfl⟩
  go_wp2_with fail
  refine (HW.out _).mono ?_
  rintro e w1 ⟨rfl, rfl⟩
  go_wp2_with fail
  refine (HP.out _).mono ?_
  rintro e w1 ⟨rfl, rfl⟩
  go_wp2_with fail
  go_ret
  exact ⟨rfl, rfl⟩
theorem two_J32 : J32 1073741824 2 := ⟨false, 2, by decide +kernel, by decide, rfl⟩
set_option maxRecDepth 100000 in
theorem scale_calls {x y : Nat} {a b : Int} (hx : J32 x a) (hy : J32 y b) (ha : a.natAbs ≤ 200) (hb : b.natAbs ≤ 200) : ∃ u v, J32 u (a * 2) ∧ J32 v (b * 2) ∧ Pure 25 #[.complex .f32 x y, .float .f32 1073741824] (.complex .f32 u v) := by
  obtain ⟨u, hu, ju⟩ := hx.mul two_J32 (by omega)
  obtain ⟨v, hv, jv⟩ := hy.mul two_J32 (by omega)
  refine ⟨u, v, ju, jv, fun w => ?_⟩
  have r1 := run32 hu
  have r2 := run32 hv
  clear hu hv ju jv hx hy ha hb
  go_enter Tryz.func25, Tryz.ntmps25
  go_wp2_with fail
  go_ret
  exact ⟨rfl, rfl⟩
end Go.Proofs.YticfmlohkfoccaaGreatDoor
