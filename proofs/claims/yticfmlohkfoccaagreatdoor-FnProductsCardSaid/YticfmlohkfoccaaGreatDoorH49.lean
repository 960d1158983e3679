/- The law FnProducts, walked: it returns true for all bytes, and nothing below its own memory turns. -/
import Derived.Test.YticfmlohkfoccaaGreatDoorH48
set_option linter.unusedVariables false
set_option linter.unusedSimpArgs false
namespace Go.Proofs.YticfmlohkfoccaaGreatDoor
open Go.RowKit Go.Proofs.YticfmlohkfoccaaGreatDoorW.PrintWords

theorem oeq {x y : Nat} {a b : Int} (hx : J32 x a) (hy : J32 y b) (h : a = b) : (FloatKind.f32.format.order x y == some Ordering.eq) = true := by
  rw [hx.order hy, h, Int.compare_eq_eq.2 rfl]; rfl
theorem onz {x : Nat} {a : Int} (hx : J32 x a) (h : a ≠ 0) : (FloatKind.f32.format.order x 0 == some Ordering.eq) = false := by
  have h0 : J32 0 0 := ⟨false, 0, by decide +kernel, by decide, rfl⟩
  rw [hx.order h0]
  rcases Int.lt_trichotomy a 0 with h1 | h1 | h1
  · rw [Int.compare_eq_lt.2 h1]; rfl
  · exact absurd h1 h
  · rw [Int.compare_eq_gt.2 h1]; rfl
theorem J0 : J32 0 0 := ⟨false, 0, by decide +kernel, by decide, rfl⟩
theorem run_toInt {x : Nat} {a : Int} (h : J32 x a) (W : World) : (convert 29 2 (.float .f32 x)).run Tryz.prog W = .ok (.int .i64 a) W :=
  run_convert_float_int W 29 2 .f32 .i64 x a (by rw [Tryz.underlying29]; rfl) Tryz.underlying2 h.int
theorem single_get {W w : World} {v : Value} {x : Nat × Nat} (h : Out kC 28 w v [x] W) : ∃ g c, v = .slice (some ⟨g, 0, none⟩) 1 c ∧ W.cell? ⟨g, 0, none⟩ = some (.complex .f32 x.1 x.2) := by
  obtain ⟨A, c, rfl, hc, hr⟩ := rowC h.row
  obtain ⟨g, rfl, hg⟩ := hr.get 0 (by simp)
  exact ⟨g, c, rfl, hg⟩
/-- The text of any row of complex numbers, and what is read of it. -/
theorem text_any {w W : World} {v : Value} {l : List (Nat × Nat)} (ho : Out kC 28 w v l W) (hg : ∀ x ∈ l, goodC x) (hl : l.length ≤ 100) (hv : Vars W) :
    ∃ T : ByteArray, T.size ≤ 1048576 ∧ Plain.readList readC T.data.toList = some (l.map bitsC) ∧ Calls Tryz.prog 28 #[v] W fun e w' => e = .returned (.tuple #[.string T, .bool true]) ∧ Below W.heap.size W w' := by
  obtain ⟨A, c, rfl, hc, hr⟩ := rowC ho.row
  by_cases hn : l = []
  · subst hn
    exact ⟨mk Plain.none4, by rw [mk_size]; decide, by rw [mk_data]; rfl, ComplexText_empty A c W⟩
  · obtain ⟨g, rfl⟩ := hr.at0 hn
    refine ⟨mk (Lib.join (l.map textC) [44]), ?_, ?_, ComplexText2_calls g c l hn (by omega) hg W hv (fun j hj => kC_at hr.row j hj _ (List.getElem?_eq_getElem hj))⟩
    · rw [mk_size]
      have := join_bound 44 (l.map textC) 16 (by
        intro p hp
        obtain ⟨x, _, rfl⟩ := List.mem_map.1 hp
        rw [textC_length]; omega)
      simp at this
      omega
    · rw [mk_data]
      exact readList_map readC textC bitsC l hn (by omega) (fun x hx => readC_back x (hg x hx)) (fun x _ => textC_no x) (fun x _ => by rw [textC_length]; omega)
theorem of_nat (P : Nat) : floatOfInt .f32 (P : Int) = cI Ieee.single false P := by
  show Ieee.single.nearest (decide ((P : Int) < 0)) (P : Int).natAbs 0 = Ieee.single.nearest false P 0
  rw [decide_eq_false (by omega), Int.natAbs_natCast]
theorem abs_le {a : Int} (h : a.natAbs ≤ 200) : -200 ≤ a ∧ a ≤ 200 := by omega
theorem mul_le {a b : Int} (ha : a.natAbs ≤ 200) (hb : b.natAbs ≤ 200) : -40000 ≤ a * b ∧ a * b ≤ 40000 := by
  have := mul_bound ha hb
  omega
set_option maxHeartbeats 4000000 in
set_option maxRecDepth 100000 in
theorem productsLaw_calls (A B : Option Addr) (n m c d : Nat) (w : World) (hv : Vars w) (hA : n ≤ 1048576 → Code w A n) (hB : m ≤ 1048576 → Code w B m) : Calls Tryz.prog 5 #[.slice A n c, .slice B m d] w fun e w' => e = .returned (.bool true) ∧ Below w.heap.size w w' := by
  have HL := Lib.hid (long_calls A B n m c d)
  by_cases hbig : 1048576 < n ∨ 1048576 < m
  · have hd : (decide (1048576 < n) || decide (1048576 < m)) = true := by
      rw [Bool.or_eq_true, decide_eq_true_iff, decide_eq_true_iff]; exact hbig
    rw [hd] at HL
    clear hd hbig hA hB hv
    go_enter Tryz.func5, Tryz.ntmps5
    go_wp2_with fail
    refine (HL.out _).mono ?_
    rintro e w1 ⟨rfl, rfl⟩
    go_wp2_with fail
    go_ret
    exact ⟨rfl, Below.refl _ _⟩
  · have hd : (decide (1048576 < n) || decide (1048576 < m)) = false := by
      rw [Bool.or_eq_false_iff, decide_eq_false_iff_not, decide_eq_false_iff_not]; omega
    rw [hd] at HL
    have HA := Lib.hid (hA (by omega))
    have HBc := Lib.hid (hB (by omega))
    have HV := Lib.hid hv
    clear hd hbig hA hB hv
    go_enter Tryz.func5, Tryz.ntmps5
    go_wp2_with fail
    refine (HL.out _).mono ?_
    rintro e w1 ⟨rfl, rfl⟩
    clear HL
    go_wp2_with fail
    refine (whole_calls A n c w1 HA.out).mono ?_
    rintro e w2 ⟨v1, x, rfl, ⟨a, b, ja, jb, ha, hb⟩, ho⟩
    obtain ⟨g, c1, rfl, hcell⟩ := single_get ho
    have HB2 := Lib.hid ho.bel
    clear ho
    obtain ⟨x1, x2⟩ := x
    dsimp only at ja jb hcell
    have Ja := Lib.hid ja
    have Jb := Lib.hid jb
    have Ha := Lib.hid ha
    have Hb := Lib.hid hb
    clear ja jb ha hb
    go_wp2_with fail
    refine (whole_calls B m d w2 (HBc.out.more HB2.out)).mono ?_
    rintro e w3 ⟨v2, y, rfl, ⟨cc, dd, jc, jd, hc, hd⟩, ho⟩
    obtain ⟨g2, c2, rfl, hcell2⟩ := single_get ho
    have HB3 := Lib.hid (below_then HB2.out HB2.out.size ho.bel)
    clear ho hcell HB2
    obtain ⟨y1, y2⟩ := y
    dsimp only at jc jd hcell2
    have Jc := Lib.hid jc
    have Jd := Lib.hid jd
    have Hc := Lib.hid hc
    have Hd := Lib.hid hd
    clear jc jd hc hd
    obtain ⟨p1, p2, jp1, jp2, hm1⟩ := mul_calls Ja.out Jb.out Jc.out Jd.out Ha.out Hb.out Hc.out Hd.out
    have HM1 := Lib.hid hm1
    have Jp1 := Lib.hid jp1
    have Jp2 := Lib.hid jp2
    clear hm1 jp1 jp2
    go_wp2_with fail
    refine (HM1.out _).mono ?_
    rintro e w4 ⟨rfl, rfl⟩
    clear hcell2 HM1
    have i1 := run_toInt Ja.out
    have i2 := run_toInt Jb.out
    have i3 := run_toInt Jc.out
    have i4 := run_toInt Jd.out
    have b1 := mul_le Ha.out Hc.out
    have b2 := mul_le Hb.out Hd.out
    have b3 := mul_le Ha.out Hd.out
    have b4 := mul_le Hb.out Hc.out
    have b5 := mul_le Ha.out Ha.out
    have b6 := mul_le Hb.out Hb.out
    have e8 : wrap64 (wrap64 (a * cc) - wrap64 (b * dd)) = a * cc - b * dd := by
      rw [w64' (a := a * cc) (by omega) (by omega), w64' (a := b * dd) (by omega) (by omega), w64' (by omega) (by omega)]
    have e9 : wrap64 (wrap64 (a * dd) + wrap64 (b * cc)) = a * dd + b * cc := by
      rw [w64' (a := a * dd) (by omega) (by omega), w64' (a := b * cc) (by omega) (by omega), w64' (by omega) (by omega)]
    have hpl := pw_lt Ha.out Hb.out
    have hpi := pw_int a b
    have e10 : wrap64 (wrap64 (a * a) + wrap64 (b * b)) = (pw a b : Int) := by
      rw [w64' (a := a * a) (by omega) (by omega), w64' (a := b * b) (by omega) (by omega), w64' (by omega) (by omega), hpi]
    have J8 : J32 (floatOfInt .f32 (wrap64 (wrap64 (a * cc) - wrap64 (b * dd)))) (a * cc - b * dd) := by rw [e8]; exact J32.of _ (by omega)
    have J9 : J32 (floatOfInt .f32 (wrap64 (wrap64 (a * dd) + wrap64 (b * cc)))) (a * dd + b * cc) := by rw [e9]; exact J32.of _ (by omega)
    have J10 : J32 (floatOfInt .f32 (wrap64 (wrap64 (a * a) + wrap64 (b * b)))) (pw a b : Int) := by rw [e10]; exact J32.of _ (by omega)
    have JP : J32 (cI Ieee.single false (pw a b)) (pw a b : Int) := ⟨false, pw a b, rfl, by omega, rfl⟩
    have o1 := oeq Jp1.out J8 rfl
    have o2 := oeq Jp2.out J9 rfl
    obtain ⟨q1, q2, jq1, jq2, hm2⟩ := mul_calls Jc.out Jd.out Ja.out Jb.out Hc.out Hd.out Ha.out Hb.out
    have o3 := oeq jq1 Jp1.out (by rw [Int.mul_comm cc a, Int.mul_comm dd b])
    have o4 := oeq jq2 Jp2.out (by rw [Int.mul_comm cc b, Int.mul_comm dd a, Int.add_comm])
    have o5 := oeq JP J10 rfl
    have o5' : (FloatKind.f32.format.order (cI Ieee.single false (pw a b)) (floatOfInt .f32 (wrap64 (wrap64 (a * a) + wrap64 (b * b)))) != some Ordering.eq) = false := by rw [bne, o5]; rfl
    obtain ⟨r1, r2, jr1, jr2, hm3⟩ := mul_calls Ja.out Jb.out Ja.out Jb.out.neg Ha.out Hb.out Ha.out (by have := Hb.out; omega)
    have o6 := oeq jr1 J10 (by rw [hpi, Int.mul_neg]; omega)
    have o7 := oeq jr2 J0 (by rw [Int.mul_neg, Int.mul_comm b a]; omega)
    obtain ⟨qq, hqq, hl1, hl2⟩ := roots_calls Ja.out Jb.out Ha.out Hb.out
    have e23 : floatOfInt .f32 (wrap64 (wrap64 (a * a) + wrap64 (b * b))) = cI Ieee.single false (pw a b) := by rw [e10, of_nat]
    rw [← e23] at hl2
    have hs := same21_calls qq qq hqq hqq
    rw [decide_eq_true rfl] at hs
    have HM2 := Lib.hid hm2
    have HM3 := Lib.hid hm3
    have HPw := Lib.hid (power_calls Ja.out Jb.out Ha.out Hb.out)
    have HCj := Lib.hid (conj_calls x1 x2)
    have HL1 := Lib.hid hl1
    have HL2 := Lib.hid hl2
    have HS := Lib.hid hs
    clear hm2 hm3 hl1 hl2 hs hqq jq1 jq2 jr1 jr2 J8 J9 J10 JP e8 e9 e10 e23 b1 b2 b3 b4 b5 b6 hpl hpi
    generalize cI Ieee.single false (pw a b) = pf at *
    go_wp2_with fail
    refine (HM2.out _).mono ?_
    rintro e w5 ⟨rfl, rfl⟩
    go_wp2_with fail
    refine (HPw.out _).mono ?_
    rintro e w5 ⟨rfl, rfl⟩
    go_wp2_with fail
    refine (HCj.out _).mono ?_
    rintro e w5 ⟨rfl, rfl⟩
    go_wp2_with fail
    refine (HM3.out _).mono ?_
    rintro e w5 ⟨rfl, rfl⟩
    go_wp2_with fail
    refine (HL1.out _).mono ?_
    rintro e w5 ⟨rfl, rfl⟩
    go_wp2_with fail
    refine (HL2.out _).mono ?_
    rintro e w5 ⟨rfl, rfl⟩
    go_wp2_with fail
    refine (HS.out _).mono ?_
    rintro e w5 ⟨rfl, rfl⟩
    clear o1 o2 o3 o4 o5 o5' o6 o7 HM2 HM3 HPw HCj HL1 HL2 HS i1 i2 i3 i4
    obtain ⟨s1, s2, js1, js2, hsc⟩ := scale_calls Ja.out Jb.out Ha.out Hb.out
    obtain ⟨t1, ht1, jt1⟩ := Ja.out.add Ja.out (by have := Ha.out; omega)
    obtain ⟨t2, ht2, jt2⟩ := Jb.out.add Jb.out (by have := Hb.out; omega)
    have hadd : ∀ W, (binOp .add 28 (.complex .f32 x1 x2) (.complex .f32 x1 x2)).run Tryz.prog W = .ok (.complex .f32 t1 t2) W := fun W => run_complex_sum W .add (Or.inl rfl) 28 .f32 x1 x2 x1 x2 t1 t2 (by unfold cSumBits; rw [ht1, ht2]; rfl)
    have o8 := oeq js1 jt1 (by omega)
    have o9 := oeq js2 jt2 (by omega)
    have HSc := Lib.hid hsc
    clear hsc js1 js2 ht1 ht2 jt1 jt2
    by_cases hz : pw cc dd = 0
    · have hz1 : cc = 0 := by
        unfold pw at hz
        have : cc.natAbs * cc.natAbs = 0 := by omega
        have := Nat.mul_eq_zero.1 this
        omega
      have hz2 : dd = 0 := by
        unfold pw at hz
        have : dd.natAbs * dd.natAbs = 0 := by omega
        have := Nat.mul_eq_zero.1 this
        omega
      have z1 := oeq Jc.out J0 hz1
      have z2 := oeq Jd.out J0 hz2
      clear hz hz1 hz2
      go_wp2_with fail
      refine (HSc.out _).mono ?_
      rintro e w5 ⟨rfl, rfl⟩
      go_wp2_with fail
      refine (at_calls A n c 9 (by decide) (by decide) _ (HA.out.more HB3.out)).mono ?_
      rintro e w6 ⟨⟨k, rfl, hk⟩, rfl⟩
      clear o8 o9 hadd HSc
      go_wp2_with fail
      refine (drawnAny_calls B m d k (by omega) _ (HBc.out.more HB3.out)).mono ?_
      rintro e w7 ⟨v, l, rfl, hll, hlg, ho⟩
      have HB7 := Lib.hid (below_then HB3.out HB3.out.size ho.bel)
      obtain ⟨T, hT1, hT2, hT3⟩ := text_any ho hlg (by omega) (HV.out.step HB7.out)
      obtain ⟨A3, c3, rfl, hc3, hr3⟩ := rowC ho.row
      have HT3 := Lib.hid hT3
      have HG := Lib.hid hlg
      have HR3 := Lib.hid hr3
      have HLl : Hid (l.length ≤ 100) := Lib.hid (by omega)
      clear hT3 hlg hr3 ho hll hk hc3
      go_wp2_with fail
      refine HT3.out.mono ?_
      rintro e w8 ⟨rfl, hb⟩
      have HB8 := Lib.hid (below_then HB7.out HB7.out.size hb)
      have HR3a := Lib.hid (HR3.out.more hb)
      have hRd := ReadComplex_calls T hT1 w8 (HV.out.step HB8.out)
      rw [hT2] at hRd
      have HRd := Lib.hid hRd
      clear hRd hb HT3 HR3 hT1 hT2 HB7
      go_wp2_with fail
      refine HRd.out.mono ?_
      rintro e w9 ⟨v9, rfl, ho9⟩
      have hr9 := ho9.row
      rw [Option.getD_some] at hr9
      obtain ⟨A9, c9, rfl, hc9, hrw9⟩ := rowC hr9
      rw [List.length_map]
      have HB9 := Lib.hid (below_then HB8.out HB8.out.size ho9.bel)
      have HRows : Hid (∀ W, Below w9.heap.size w9 W → Calls Tryz.prog 34 #[.slice A9 l.length c9, .slice A3 l.length c3] W fun e w' => e = .returned (.bool true) ∧ ∃ n, w' = W.drewN n) := Lib.hid (fun W hW => sameRows_calls A9 A3 c9 c3 l HLl.out HG.out W (hrw9.more hW) (HR3a.out.more (below_then ho9.bel ho9.bel.size hW)))
      clear ho9 hr9 hrw9 hc9 HR3a HG HLl HRd HB8
      go_wp2_with fail
      refine (number_calls A n c w9 (HA.out.more HB9.out)).mono ?_
      rintro e w10 ⟨⟨z, rfl, hz⟩, hb⟩
      have HB10 := Lib.hid (below_then HB9.out HB9.out.size hb)
      have HB910 := Lib.hid hb
      have hsz := same21_calls (bits z) z (bits_lt' hz) hz
      rw [decide_eq_true (bits_bits z)] at hsz
      have HZ1 := Lib.hid (fun w => bitsOf_calls z hz w)
      have HZ2 := Lib.hid (fromBits_calls (bits z) (bits_lt' hz))
      have HZ3 := Lib.hid hsz
      clear hb hsz hz HB9
      generalize bits z = zb at *
      go_wp2_with fail
      refine (HZ1.out _).mono ?_
      rintro e w11 ⟨rfl, rfl⟩
      go_wp2_with fail
      refine (HZ2.out _).mono ?_
      rintro e w12 ⟨rfl, rfl⟩
      clear HZ1 HZ2
      go_wp2_with fail
      refine (complexOf_calls A n c _ (HA.out.more HB10.out)).mono ?_
      rintro e w13 ⟨⟨x5, y5, rfl, hx5, hy5⟩, hb⟩
      have HB13 := Lib.hid (below_then HB10.out HB10.out.size hb)
      have HB913 := Lib.hid (below_then HB910.out HB910.out.size hb)
      clear hb HB10 HB910
      obtain ⟨V1, D1, k1, n1⟩ := widen_any x5 hx5
      obtain ⟨V2, D2, k2, n2⟩ := widen_any y5 hy5
      have N1 := Lib.hid n1
      have N2 := Lib.hid n2
      have Hx5 := Lib.hid hx5
      have Hy5 := Lib.hid hy5
      clear n1 n2 hx5 hy5
      go_wp2_with fail
      refine (HRows.out _ (by first | exact pw_below_drewN (pw_below_drewN HB913.out D1) D2 | exact pw_below_drewN HB913.out _)).mono ?_
      rintro e w14 ⟨rfl, hw14⟩
      have HB14 : Hid (Below w1.heap.size w1 w14) := Lib.hid (by
        obtain ⟨nn, rfl⟩ := hw14
        first | exact pw_below_drewN (pw_below_drewN (pw_below_drewN HB13.out D1) D2) nn | exact pw_below_drewN (pw_below_drewN HB13.out _) nn)
      clear hw14 HRows HB913 k1 k2 HB13
      go_wp2_with fail
      refine (HZ3.out _).mono ?_
      rintro e w15 ⟨rfl, rfl⟩
      clear HZ3
      go_wp2_with fail
      refine (narrowC_calls _ _ x5 y5 Hx5.out Hy5.out (N1.out _) (N2.out _) _).mono ?_
      rintro e w16 ⟨⟨x6, y6, rfl, hx6, hy6, hb6, hb7⟩, hb⟩
      have HB16 := Lib.hid (below_then HB14.out HB14.out.size hb)
      have HS1 := Lib.hid (sameC35_calls x6 y6 x5 y5 hx6 hy6 Hx5.out Hy5.out hb6 hb7)
      have HS2 := Lib.hid (sameC35_calls x5 y5 x5 y5 Hx5.out Hy5.out Hx5.out Hy5.out rfl rfl)
      have HC1 := Lib.hid (conj_calls x5 y5)
      have hc2 := conj_calls x5 (Op.negFloat .f32 y5)
      rw [neg_neg] at hc2
      have HC2 := Lib.hid hc2
      clear hb hc2 hx6 hy6 hb6 hb7 HB14 N1 N2
      go_wp2_with fail
      refine (HS1.out _).mono ?_
      rintro e w17 ⟨rfl, rfl⟩
      go_wp2_with fail
      refine (HC1.out _).mono ?_
      rintro e w17 ⟨rfl, rfl⟩
      go_wp2_with fail
      refine (HC2.out _).mono ?_
      rintro e w17 ⟨rfl, rfl⟩
      go_wp2_with fail
      refine (HS2.out _).mono ?_
      rintro e w17 ⟨rfl, rfl⟩
      clear HS1 HS2 HC1 HC2
      have hfc := fun W => finiteC_calls x5 y5 W
      have hf1 := fun W => finite38_calls x5 W
      have hf2 := fun W => finite38_calls y5 W
      generalize fin x5 = f1 at *
      generalize fin y5 = f2 at *
      have HF := Lib.hid hfc
      have HF1 := Lib.hid hf1
      have HF2 := Lib.hid hf2
      clear hfc hf1 hf2
      go_wp2_with fail
      refine (HF.out _).mono ?_
      rintro e w18 ⟨rfl, hb⟩
      have HB18 := Lib.hid (below_then HB16.out HB16.out.size hb)
      clear hb HF HB16
      cases f1 with
      | false =>
        go_wp2_with fail
        refine (HF1.out _).mono ?_
        rintro e w19 ⟨rfl, hb⟩
        have HB19 := Lib.hid (below_then HB18.out HB18.out.size hb)
        clear hb HF1 HF2 HB18
        go_wp2_with fail
        go_ret
        exact ⟨rfl, HB19.out⟩
      | true =>
        go_wp2_with fail
        refine (HF1.out _).mono ?_
        rintro e w19 ⟨rfl, hb⟩
        have HB19 := Lib.hid (below_then HB18.out HB18.out.size hb)
        clear hb HF1 HB18
        go_wp2_with fail
        refine (HF2.out _).mono ?_
        rintro e w20 ⟨rfl, hb⟩
        have HB20 := Lib.hid (below_then HB19.out HB19.out.size hb)
        clear hb HF2 HB19
        cases f2 with
        | false =>
          go_wp2_with fail
          go_ret
          exact ⟨rfl, HB20.out⟩
        | true =>
          go_wp2_with fail
          go_ret
          exact ⟨rfl, HB20.out⟩
    · obtain ⟨u1, u2, ju1, ju2, hq⟩ := quotient_calls Jp1.out Jp2.out Jc.out Jd.out Ha.out Hb.out Hc.out Hd.out hz
      have o10 := oeq ju1 Ja.out rfl
      have o11 := oeq ju2 Jb.out rfl
      have HQ := Lib.hid hq
      have hnz : ∀ W, (binOp .neq 28 (.complex .f32 y1 y2) (.complex .f32 0 0)).run Tryz.prog W = .ok (.bool true) W := fun W => by
        have hz' : cc ≠ 0 ∨ dd ≠ 0 := by
          by_cases h1 : cc = 0
          · right
            intro h2
            apply hz
            rw [h1, h2]; rfl
          · exact Or.inl h1
        have hab : ∀ b W, (asBool (.bool b)).run Tryz.prog W = .ok b W := fun _ _ => rfl
        rcases hz' with h1 | h1
        · simp [binOp, Op.complexOp, Op.Complex.cmp, Op.floatCmp, onz Jc.out h1, hab, Result.andThen]
        · simp [binOp, Op.complexOp, Op.Complex.cmp, Op.floatCmp, onz Jd.out h1, hab, Result.andThen]
      clear hz hq ju1 ju2
      go_wp2_with fail
      refine (HQ.out _).mono ?_
      rintro e w5 ⟨rfl, rfl⟩
      go_wp2_with fail
      refine (HSc.out _).mono ?_
      rintro e w5 ⟨rfl, rfl⟩
      clear HQ o10 o11 hnz
      go_wp2_with fail
      refine (at_calls A n c 9 (by decide) (by decide) _ (HA.out.more HB3.out)).mono ?_
      rintro e w6 ⟨⟨k, rfl, hk⟩, rfl⟩
      clear o8 o9 hadd HSc
      go_wp2_with fail
      refine (drawnAny_calls B m d k (by omega) _ (HBc.out.more HB3.out)).mono ?_
      rintro e w7 ⟨v, l, rfl, hll, hlg, ho⟩
      have HB7 := Lib.hid (below_then HB3.out HB3.out.size ho.bel)
      obtain ⟨T, hT1, hT2, hT3⟩ := text_any ho hlg (by omega) (HV.out.step HB7.out)
      obtain ⟨A3, c3, rfl, hc3, hr3⟩ := rowC ho.row
      have HT3 := Lib.hid hT3
      have HG := Lib.hid hlg
      have HR3 := Lib.hid hr3
      have HLl : Hid (l.length ≤ 100) := Lib.hid (by omega)
      clear hT3 hlg hr3 ho hll hk hc3
      go_wp2_with fail
      refine HT3.out.mono ?_
      rintro e w8 ⟨rfl, hb⟩
      have HB8 := Lib.hid (below_then HB7.out HB7.out.size hb)
      have HR3a := Lib.hid (HR3.out.more hb)
      have hRd := ReadComplex_calls T hT1 w8 (HV.out.step HB8.out)
      rw [hT2] at hRd
      have HRd := Lib.hid hRd
      clear hRd hb HT3 HR3 hT1 hT2 HB7
      go_wp2_with fail
      refine HRd.out.mono ?_
      rintro e w9 ⟨v9, rfl, ho9⟩
      have hr9 := ho9.row
      rw [Option.getD_some] at hr9
      obtain ⟨A9, c9, rfl, hc9, hrw9⟩ := rowC hr9
      rw [List.length_map]
      have HB9 := Lib.hid (below_then HB8.out HB8.out.size ho9.bel)
      have HRows : Hid (∀ W, Below w9.heap.size w9 W → Calls Tryz.prog 34 #[.slice A9 l.length c9, .slice A3 l.length c3] W fun e w' => e = .returned (.bool true) ∧ ∃ n, w' = W.drewN n) := Lib.hid (fun W hW => sameRows_calls A9 A3 c9 c3 l HLl.out HG.out W (hrw9.more hW) (HR3a.out.more (below_then ho9.bel ho9.bel.size hW)))
      clear ho9 hr9 hrw9 hc9 HR3a HG HLl HRd HB8
      go_wp2_with fail
      refine (number_calls A n c w9 (HA.out.more HB9.out)).mono ?_
      rintro e w10 ⟨⟨z, rfl, hz⟩, hb⟩
      have HB10 := Lib.hid (below_then HB9.out HB9.out.size hb)
      have HB910 := Lib.hid hb
      have hsz := same21_calls (bits z) z (bits_lt' hz) hz
      rw [decide_eq_true (bits_bits z)] at hsz
      have HZ1 := Lib.hid (fun w => bitsOf_calls z hz w)
      have HZ2 := Lib.hid (fromBits_calls (bits z) (bits_lt' hz))
      have HZ3 := Lib.hid hsz
      clear hb hsz hz HB9
      generalize bits z = zb at *
      go_wp2_with fail
      refine (HZ1.out _).mono ?_
      rintro e w11 ⟨rfl, rfl⟩
      go_wp2_with fail
      refine (HZ2.out _).mono ?_
      rintro e w12 ⟨rfl, rfl⟩
      clear HZ1 HZ2
      go_wp2_with fail
      refine (complexOf_calls A n c _ (HA.out.more HB10.out)).mono ?_
      rintro e w13 ⟨⟨x5, y5, rfl, hx5, hy5⟩, hb⟩
      have HB13 := Lib.hid (below_then HB10.out HB10.out.size hb)
      have HB913 := Lib.hid (below_then HB910.out HB910.out.size hb)
      clear hb HB10 HB910
      obtain ⟨V1, D1, k1, n1⟩ := widen_any x5 hx5
      obtain ⟨V2, D2, k2, n2⟩ := widen_any y5 hy5
      have N1 := Lib.hid n1
      have N2 := Lib.hid n2
      have Hx5 := Lib.hid hx5
      have Hy5 := Lib.hid hy5
      clear n1 n2 hx5 hy5
      go_wp2_with fail
      refine (HRows.out _ (by first | exact pw_below_drewN (pw_below_drewN HB913.out D1) D2 | exact pw_below_drewN HB913.out _)).mono ?_
      rintro e w14 ⟨rfl, hw14⟩
      have HB14 : Hid (Below w1.heap.size w1 w14) := Lib.hid (by
        obtain ⟨nn, rfl⟩ := hw14
        first | exact pw_below_drewN (pw_below_drewN (pw_below_drewN HB13.out D1) D2) nn | exact pw_below_drewN (pw_below_drewN HB13.out _) nn)
      clear hw14 HRows HB913 k1 k2 HB13
      go_wp2_with fail
      refine (HZ3.out _).mono ?_
      rintro e w15 ⟨rfl, rfl⟩
      clear HZ3
      go_wp2_with fail
      refine (narrowC_calls _ _ x5 y5 Hx5.out Hy5.out (N1.out _) (N2.out _) _).mono ?_
      rintro e w16 ⟨⟨x6, y6, rfl, hx6, hy6, hb6, hb7⟩, hb⟩
      have HB16 := Lib.hid (below_then HB14.out HB14.out.size hb)
      have HS1 := Lib.hid (sameC35_calls x6 y6 x5 y5 hx6 hy6 Hx5.out Hy5.out hb6 hb7)
      have HS2 := Lib.hid (sameC35_calls x5 y5 x5 y5 Hx5.out Hy5.out Hx5.out Hy5.out rfl rfl)
      have HC1 := Lib.hid (conj_calls x5 y5)
      have hc2 := conj_calls x5 (Op.negFloat .f32 y5)
      rw [neg_neg] at hc2
      have HC2 := Lib.hid hc2
      clear hb hc2 hx6 hy6 hb6 hb7 HB14 N1 N2
      go_wp2_with fail
      refine (HS1.out _).mono ?_
      rintro e w17 ⟨rfl, rfl⟩
      go_wp2_with fail
      refine (HC1.out _).mono ?_
      rintro e w17 ⟨rfl, rfl⟩
      go_wp2_with fail
      refine (HC2.out _).mono ?_
      rintro e w17 ⟨rfl, rfl⟩
      go_wp2_with fail
      refine (HS2.out _).mono ?_
      rintro e w17 ⟨rfl, rfl⟩
      clear HS1 HS2 HC1 HC2
      have hfc := fun W => finiteC_calls x5 y5 W
      have hf1 := fun W => finite38_calls x5 W
      have hf2 := fun W => finite38_calls y5 W
      generalize fin x5 = f1 at *
      generalize fin y5 = f2 at *
      have HF := Lib.hid hfc
      have HF1 := Lib.hid hf1
      have HF2 := Lib.hid hf2
      clear hfc hf1 hf2
      go_wp2_with fail
      refine (HF.out _).mono ?_
      rintro e w18 ⟨rfl, hb⟩
      have HB18 := Lib.hid (below_then HB16.out HB16.out.size hb)
      clear hb HF HB16
      cases f1 with
      | false =>
        go_wp2_with fail
        refine (HF1.out _).mono ?_
        rintro e w19 ⟨rfl, hb⟩
        have HB19 := Lib.hid (below_then HB18.out HB18.out.size hb)
        clear hb HF1 HF2 HB18
        go_wp2_with fail
        go_ret
        exact ⟨rfl, HB19.out⟩
      | true =>
        go_wp2_with fail
        refine (HF1.out _).mono ?_
        rintro e w19 ⟨rfl, hb⟩
        have HB19 := Lib.hid (below_then HB18.out HB18.out.size hb)
        clear hb HF1 HB18
        go_wp2_with fail
        refine (HF2.out _).mono ?_
        rintro e w20 ⟨rfl, hb⟩
        have HB20 := Lib.hid (below_then HB19.out HB19.out.size hb)
        clear hb HF2 HB19
        cases f2 with
        | false =>
          go_wp2_with fail
          go_ret
          exact ⟨rfl, HB20.out⟩
        | true =>
          go_wp2_with fail
          go_ret
          exact ⟨rfl, HB20.out⟩
end Go.Proofs.YticfmlohkfoccaaGreatDoor
