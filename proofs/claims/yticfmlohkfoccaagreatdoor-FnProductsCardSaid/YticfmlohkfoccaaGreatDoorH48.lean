/- Conversions of any floats, rows of complex numbers compared, whole complex numbers drawn: walked. -/
import Derived.Test.YticfmlohkfoccaaGreatDoorH47
set_option linter.unusedVariables false
set_option linter.unusedSimpArgs false
namespace Go.Proofs.YticfmlohkfoccaaGreatDoor
open Go.RowKit Go.Proofs.YticfmlohkfoccaaGreatDoorW.PrintWords

/-- u is a 64-bit float out of the 32-bit one b. -/
def Back (u b : Nat) : Prop := ((∃ s f, Ieee.double.read u = .nan s f) ∧ nan32 b = true) ∨ floatToFloatBits .f64 u .f32 = some b
theorem nan64_read (t : Nat) : ∃ s f, Ieee.double.read ((t % 2) * 2 ^ 63 + 0x7ff0000000000000 + 1 + (t / 2) % (2 ^ 52 - 1)) = .nan s f := by
  have h1 : t % 2 < 2 := Nat.mod_lt _ (by decide)
  have h2 : (t / 2) % (2 ^ 52 - 1) < 2 ^ 52 - 1 := Nat.mod_lt _ (by decide)
  generalize t % 2 = a at *
  generalize (t / 2) % (2 ^ 52 - 1) = c at *
  unfold Ieee.Format.read
  dsimp only
  rw [if_neg (by rw [sw64, bn64]; omega), if_neg (by rw [sw64, if64]; omega), if_neg (by rw [sw64, if64]; omega)]
  exact ⟨_, _, rfl⟩
theorem nan32_cut (t : Nat) : nan32 ((t % 2) * 2 ^ 31 + 0x7f800000 + 1 + (t / 2) % (2 ^ 23 - 1)) = true ∧ (t % 2) * 2 ^ 31 + 0x7f800000 + 1 + (t / 2) % (2 ^ 23 - 1) < 4294967296 := by
  have h1 : t % 2 < 2 := Nat.mod_lt _ (by decide)
  have h2 : (t / 2) % (2 ^ 23 - 1) < 2 ^ 23 - 1 := Nat.mod_lt _ (by decide)
  generalize t % 2 = a at *
  generalize (t / 2) % (2 ^ 23 - 1) = c at *
  unfold nan32
  rw [decide_eq_true_iff]
  omega
theorem run_conv_nan (src dst : TypeId) (s k : FloatKind) (b : Nat) (hs : (Tryz.prog.underlying src).isSome = true) (hd : Tryz.prog.underlying dst = some (.float k)) (hne : s ≠ k) (sg : Bool) (fr : Nat) (hr : s.decode b = .nan sg fr) (w : World) :
    (convert src dst (.float s b)).run Tryz.prog w = .ok (.float k (Question.cut (.nanConv k b) (w.tape w.drawn (.nanConv k b)))) w.drew := by
  obtain ⟨u, hs'⟩ := Option.isSome_iff_exists.1 hs
  cases u <;> simp [convert, run_underlying hs', run_underlying hd, Conv.floatToFloat, hne, hr, choose, Sem.run, Question.forced]
theorem widen_any (b : Nat) (hb : b < 4294967296) : ∃ (V : World → Nat) (D : Nat), (∀ W, (convert 29 57 (.float .f32 b)).run Tryz.prog W = .ok (.float .f64 (V W)) (W.drewN D)) ∧ ∀ W, Back (V W) b := by
  cases hn : nan32 b with
  | false =>
    obtain ⟨u, h1, h2⟩ := narrow_wide b hb hn
    exact ⟨fun _ => u, 0, run_wide h1, fun _ => Or.inr h2⟩
  | true =>
    have hx : 2139095040 < b % 2147483648 := by unfold nan32 at hn; exact of_decide_eq_true hn
    obtain ⟨s, f, hr⟩ := read_nan b hx
    exact ⟨_, 1, run_conv_nan 29 57 .f32 .f64 b (by rw [Tryz.underlying29]; rfl) Tryz.underlying57 (by decide) s f hr, fun W => Or.inl ⟨nan64_read _, hn⟩⟩
theorem narrow_any (u b : Nat) (hb : b < 4294967296) (h : Back u b) : ∃ (V : World → Nat) (D : Nat), (∀ W, (convert 57 29 (.float .f64 u)).run Tryz.prog W = .ok (.float .f32 (V W)) (W.drewN D)) ∧ ∀ W, V W < 4294967296 ∧ bits (V W) = bits b := by
  rcases h with ⟨⟨s, f, hr⟩, hn⟩ | h
  · refine ⟨_, 1, run_conv_nan 57 29 .f64 .f32 u (by rw [Tryz.underlying57]; rfl) Tryz.underlying29 (by decide) s f hr, fun W => ?_⟩
    obtain ⟨h1, h2⟩ := nan32_cut (W.tape W.drawn (.nanConv .f32 u))
    refine ⟨h2, ?_⟩
    unfold bits
    rw [hn]
    show (if nan32 ((W.tape W.drawn (.nanConv .f32 u) % 2) * 2 ^ 31 + 0x7f800000 + 1 + (W.tape W.drawn (.nanConv .f32 u) / 2) % (2 ^ 23 - 1)) = true then 2143289344 else _) = _
    rw [h1]
    rfl
  · exact ⟨fun _ => b, 0, run_narrow h, fun _ => ⟨hb, rfl⟩⟩
set_option maxRecDepth 100000 in
theorem narrowC_calls (u v a b : Nat) (ha : a < 4294967296) (hb : b < 4294967296) (h1 : Back u a) (h2 : Back v b) (w : World) : Calls Tryz.prog 36 #[.complex .f64 u v] w fun e w' => (∃ x y : Nat, e = .returned (.complex .f32 x y) ∧ x < 4294967296 ∧ y < 4294967296 ∧ bits x = bits a ∧ bits y = bits b) ∧ Below w.heap.size w w' := by
  obtain ⟨V1, D1, r1, k1⟩ := narrow_any u a ha h1
  obtain ⟨V2, D2, r2, k2⟩ := narrow_any v b hb h2
  have K1 := Lib.hid k1
  have K2 := Lib.hid k2
  clear h1 h2 k1 k2 ha hb
  go_enter Tryz.func36, Tryz.ntmps36
  go_wp2_with fail
  go_ret
  refine ⟨⟨_, _, rfl, (K1.out _).1, (K2.out _).1, (K1.out _).2, (K2.out _).2⟩, ?_⟩
  first | exact pw_below_drewN (pw_below_drewN (Below.refl _ _) D1) D2 | exact pw_below_drewN (Below.refl _ _) _
theorem kC_at {W : World} {g n : Nat} {xs : List (Nat × Nat)} (h : Kd.C kC W (some ⟨g, 0, none⟩) n xs) (j : Nat) (hj : j < n) (x : Nat × Nat) (hx : xs[j]? = some x) : W.cell? ⟨g, j, none⟩ = some (.complex .f32 x.1 x.2) := by
  obtain ⟨ad, cs, e, hcl, hK, hc⟩ := Kd.C_get h (0, 0) (j : Int) (by omega) (by omega)
  injection e with e
  subst e
  have hk : cs = [.complex .f32 x.1 x.2] := by
    have : xs.getD (j : Int).toNat (0, 0) = x := by rw [Int.toNat_natCast, List.getD_eq_getElem?_getD, hx]; rfl
    rw [this] at hK
    exact hK
  have := hc 0 (.complex .f32 x.1 x.2) (by rw [hk]; rfl)
  rw [Lib.add_plain, show kC.sz = 1 from rfl, Int.toNat_natCast] at this
  simpa using this
/-- A row of complex numbers that can be read. -/
structure CRow (W : World) (A : Option Addr) (l : List (Nat × Nat)) : Prop where
  row : Kd.C kC W A l.length l
  at0 : l ≠ [] → ∃ g, A = some ⟨g, 0, none⟩
theorem CRow.more {W W2 : World} {A : Option Addr} {l : List (Nat × Nat)} (h : CRow W A l) (k : Below W.heap.size W W2) : CRow W2 A l := ⟨Kd.C_below h.row k, h.at0⟩
theorem CRow.get {W : World} {A : Option Addr} {l : List (Nat × Nat)} (h : CRow W A l) (j : Nat) (hj : j < l.length) : ∃ g, A = some ⟨g, 0, none⟩ ∧ W.cell? ⟨g, j, none⟩ = some (.complex .f32 l[j].1 l[j].2) := by
  obtain ⟨g, rfl⟩ := h.at0 (by intro e; subst e; simp at hj)
  exact ⟨g, rfl, kC_at h.row j hj _ (List.getElem?_eq_getElem hj)⟩
theorem rowC {e base : Nat} {W : World} {ok : Nat → Prop} {v : Value} {l : List (Nat × Nat)} (h : Kd.R kC e W base ok v l) : ∃ A c, v = .slice A l.length c ∧ l.length ≤ c ∧ CRow W A l := by
  obtain ⟨A, c, rfl, hc, hC⟩ := Kd.R_reads h
  refine ⟨A, c, rfl, hc, hC, fun hne => ?_⟩
  obtain ⟨g, cap, e1, _⟩ := Kd.R_form h (List.length_pos_iff.2 hne)
  injection e1 with e1
  exact ⟨g, e1⟩
def bitsC (x : Nat × Nat) : Nat × Nat := (bits x.1, bits x.2)
set_option maxHeartbeats 1000000 in
set_option maxRecDepth 100000 in
theorem sameRows_calls (A B : Option Addr) (c d : Nat) (l : List (Nat × Nat)) (hl : l.length ≤ 100) (hg : ∀ x ∈ l, goodC x) (w : World) (ha : CRow w A (l.map bitsC)) (hb : CRow w B l) :
    Calls Tryz.prog 34 #[.slice A l.length c, .slice B l.length d] w fun e w' => e = .returned (.bool true) ∧ ∃ n, w' = w.drewN n := by
  have HA : Hid (∀ n, CRow (w.drewN n) A (l.map bitsC)) := Lib.hid (fun n => ha.more (pw_below_drewN (Below.refl _ _) n))
  have HB : Hid (∀ n, CRow (w.drewN n) B l) := Lib.hid (fun n => hb.more (pw_below_drewN (Below.refl _ _) n))
  have HK := Lib.hid hg
  clear ha hb hg
  have hnn : ((l.length : Int) != (l.length : Int)) = false := by simp
  go_enter Tryz.func34, Tryz.ntmps34
  go_wp2_with fail
  go_loopw [13] (fun i wr => ∃ (k : Nat), i = .int .i64 k ∧ k ≤ l.length ∧ Aside0 (∃ n, wr = w.drewN n)) (fun i _ => l.length - (intOf i).toNat)
  case atStart => exact ⟨0, rfl, by omega, ⟨0, rfl⟩⟩
  case round =>
    obtain ⟨k, rfl, hk, HW⟩ := hrel
    obtain ⟨n, hwn⟩ := HW.out
    by_cases hlt : k < l.length
    · have d1 : decide ((k : Int) < (l.length : Int)) = true := decide_eq_true (by omega)
      have d1' : decide (k < l.length) = true := decide_eq_true hlt
      obtain ⟨g, rfl, hat⟩ := (HA.out n).get k (by simpa using hlt)
      obtain ⟨g', rfl, hat'⟩ := (HB.out n).get k hlt
      rw [List.getElem_map] at hat
      rw [← hwn] at hat hat'
      have hgd := HK.out _ (List.getElem_mem hlt)
      have HC := Lib.hid (sameC86_calls (bits l[k].1) (bits l[k].2) l[k].1 l[k].2 (bits_lt' hgd.1) (bits_lt' hgd.2) hgd.1 hgd.2 (bits_bits _) (bits_bits _))
      unfold bitsC at hat
      clear hgd
      have HWn := Lib.hid hwn
      clear hwn HW
      generalize l[k] = x at *
      generalize bits x.1 = b1 at *
      generalize bits x.2 = b2 at *
      go_wp2_with fail
      go_still_tail 8, (by kernel_rfl)
      change wpList _ _ _ _ _ wr.drew
      have HW1 : Aside0 (∃ n, wr.drew = w.drewN n) := ⟨⟨n + 1, by rw [HWn.out]; rfl⟩⟩
      generalize wr.drew = w2 at *
      clear hat hat' HWn
      go_wp2_with fail
      refine (HC.out _).mono ?_
      rintro e W1 ⟨rfl, rfl⟩
      go_wp2
      go_roundw
      case rel => exact ⟨k + 1, by go_num, by omega, HW1⟩
      case measure => simp [intOf]; omega
    · have d1 : decide ((k : Int) < (l.length : Int)) = false := decide_eq_false (by omega)
      have d1' : decide (k < l.length) = false := decide_eq_false hlt
      go_wp2_with fail
      go_ret
      first | exact ⟨rfl, HW.out⟩ | exact ⟨rfl, n, rfl⟩
/-- A complex number of small whole parts. -/
def goodW (x : Nat × Nat) : Prop := ∃ a b : Int, J32 x.1 a ∧ J32 x.2 b ∧ a.natAbs ≤ 200 ∧ b.natAbs ≤ 200
set_option maxHeartbeats 2000000 in
set_option maxRecDepth 100000 in
theorem whole_calls (A : Option Addr) (n c : Nat) (w : World) (hc : Code w A n) : Calls Tryz.prog 17 #[.slice A n c, .int .i64 1, .int .i64 200] w fun e w' => (∃ v x, e = .returned v ∧ goodW x ∧ Out kC 28 w v [x] w') := by
  have HC0 := Lib.hid (from_calls A n c w)
  have HS := Lib.hid (hc.src c)
  have HC1 := Lib.hid (fun p m W (hm : m < 1000000000) hs => pick_calls p m 401 (by decide) (by decide) hm W hs)
  clear hc
  go_enter Tryz.func17, Tryz.ntmps17
  go_wp2_with fail
  refine HC0.out.mono ?_
  rintro e w1 ⟨rfl, rfl⟩
  have hsz : w.heap.size ≤ (w.alloc (srcCells A n c)).heap.size := by simp
  have HO : Hid (∀ v o W, Kd.R kC 28 W (w.alloc (srcCells A n c)).heap.size (fun _ => True) v o → Turned w.heap.size (w.alloc (srcCells A n c)) W → Out kC 28 w v o W) := Lib.hid (fun v o W h ht => ⟨Kd.R_lower h hsz, fresh_below w _ ht⟩)
  generalize hp : w.heap.size = p at HS
  have HP := Lib.hid hp; clear hp HC0 hsz
  have HO2 := HO
  rw [HP.out] at HO2
  clear HO
  generalize w.alloc (srcCells A n c) = w1 at *
  have hpl := src_lt HS.out
  go_wp2_with (first | ((with_reducible refine gate_dst (N := 12) rfl ?_); refine Kd.R_lit kC w1.heap.size 28 ?hg (N := 12) ?hd (xs := ([] : List (Nat × Nat))) (inner := []) (ok := fun _ => True) (okp := fun _ => True) ?hr ?hp (fun _ hk => hk) trivial (Below.refl w1.heap.size w1) (Nat.le_refl _) (by simp) ?_; (case hd => rfl); (case hg => rfl); (case hr => first | (go_simp; done) | (go_simp; rfl)); (case hp => exact (Reps.none _ _)); intro v2 w2 ho2 hb2 hg2 hnew2; clear hg2 hnew2))
  have HF : Aside0 (FWalk kC 28 w1 p 0 v2 [] w2) := ⟨⟨Kd.R_mono (Kd.R_bound ho2) (fun k hk => by have := hk.2.1; omega), HS.out.grow hb2 hpl, (Turned.refl p w1).grow hb2 hpl, hpl⟩⟩
  clear ho2 hb2 HS
  go_loopw [1, 8] (fun cc v wr => ∃ (k : Nat) (o : List (Nat × Nat)), cc = .int .i64 ((1 : Int) - (k : Int)) ∧ k ≤ 1 ∧ o.length = k ∧ Aside0 (∀ x ∈ o, goodW x) ∧ Aside0 (FWalk kC 28 w1 p (20 * k) v o wr)) (fun cc _ _ => (intOf cc).toNat)
  case atStart => exact ⟨0, [], by simp, by omega, rfl, ⟨by simp⟩, ⟨⟨HF.out.row, HF.out.src.le (by omega), HF.out.tur, HF.out.lt⟩⟩⟩
  case round =>
    clear HF
    obtain ⟨k, o, rfl, hk, hol, HA, HW⟩ := hrel
    by_cases hlt : k < 1
    · obtain rfl : k = 0 := by omega
      go_wp2_with fail
      refine (HC1.out p _ _ (by omega) HW.out.src).mono ?_
      rintro e w4 ⟨⟨r, rfl, hr⟩, hs4, ht4⟩
      have HW4 := Aside0.mk (HW.out.more hs4 ht4)
      clear hs4 ht4 HW
      have j1 : J32 (floatOfInt .f32 ((r : Int) - 200)) ((r : Int) - 200) := J32.of _ (by omega)
      go_wp2_with fail
      refine (HC1.out p _ _ (by omega) HW4.out.src).mono ?_
      rintro e w5 ⟨⟨r', rfl, hr'⟩, hs5, ht5⟩
      have HW5 := Aside0.mk (HW4.out.more hs5 ht5)
      clear hs5 ht5 HW4
      have j2 : J32 (floatOfInt .f32 ((r' : Int) - 200)) ((r' : Int) - 200) := J32.of _ (by omega)
      have HA5 : Aside0 (∀ z ∈ o ++ [(floatOfInt .f32 ((r : Int) - 200), floatOfInt .f32 ((r' : Int) - 200))], goodW z) := ⟨fun z hz => by
        rcases List.mem_append.1 hz with hz | hz
        · exact HA.out z hz
        · rw [List.mem_singleton.1 hz]; exact ⟨_, _, j1, j2, by omega, by omega⟩⟩
      clear HA j1 j2
      generalize hx1 : floatOfInt .f32 ((r : Int) - 200) = x1 at *
      generalize hx2 : floatOfInt .f32 ((r' : Int) - 200) = x2 at *
      go_wp2_with (first | ((with_reducible refine gate_builtin (b := .append) (xs := #[.tmp 25, .tmp 36]) rfl ?_); at_builtin; refine Kd.R_append kC (w0 := w5) w1.heap.size rfl (.tmp 25) (.tmp 36) 37 28 (.complex .f32 0 0) 8 rfl Tryz.underlying37 info28 rfl (by decide) (by omega) u8 o (x1, x2) [.complex .f32 x1 x2] (fun k => k ≠ p) (fun _ => False) rfl rfl ?aP (fun _ hk => hk.elim) ?aF ?aO ?aB ?aS ?aL ?_; (case aP => exact rfl); (case aB => exact Below.refl _ _); (case aF => exact HW5.out.fresh); (case aO => exact HW5.out.row); (case aS => exact HW5.out.tur.siz); (case aL => omega); intro v6 w6 ho6 hb6 hg6 hat6; have HW6 := Aside0.mk (HW5.out.next ho6 hb6); clear ho6 hb6 hg6 hat6))
      go_roundw
      case rel => exact ⟨0 + 1, o ++ [(x1, x2)], congrArg (Value.int IntKind.i64) (by omega), by omega, by rw [List.length_append, hol]; rfl, HA5, ⟨⟨HW6.out.row, HW6.out.src.le (by omega), HW6.out.tur, HW6.out.lt⟩⟩⟩
      case measure => simp [intOf]
    · obtain rfl : k = 1 := by omega
      match o, hol with
      | [x], _ =>
        have HX : Hid (goodW x) := Lib.hid (HA.out x (by simp))
        have HOut := Lib.hid (HO2.out _ [x] wr (Kd.R_mono HW.out.row (fun _ _ => trivial)) HW.out.tur)
        clear HA HW HO2
        go_wp2_with fail
        go_ret
        exact ⟨_, x, rfl, HX.out, HOut.out⟩
end Go.Proofs.YticfmlohkfoccaaGreatDoor
