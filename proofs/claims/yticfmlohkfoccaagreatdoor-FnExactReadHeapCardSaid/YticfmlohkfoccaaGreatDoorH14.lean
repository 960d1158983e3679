/- The reference's ReadGrain, walked: it returns the grain that a text holds, for every text of at most 2^20 bytes. -/
import Derived.Test.YticfmlohkfoccaaGreatDoorH13
set_option linter.unusedVariables false
set_option linter.unusedSimpArgs false
namespace Go.Proofs.YticfmlohkfoccaaGreatDoor
open Go.RowKit Go.Proofs.YticfmlohkfoccaaGreatDoorW.PrintWords
open PFnExactReadGrain (spec_l01Cut.f spec_l01Cut.l0 spec_l01Cut.calls)

theorem str_cell {W : World} {g : Nat} {L : List ByteArray} (h : Kd.C Kd.string W (some ⟨g, 0, none⟩) L.length L) (j : Nat) (hj : j < L.length) : W.cell? ⟨g, j, none⟩ = some (.string L[j]) := by
  obtain ⟨ad, e, hc⟩ := lines_cell h (Below.refl _ _) j hj
  injection e with e
  subst e
  rw [Lib.add_plain] at hc
  simpa using hc
set_option maxHeartbeats 2000000 in
set_option maxRecDepth 100000 in
theorem l08ReadGrain_calls (t : ByteArray) (ht : t.size ≤ 1048576) (w : World) : Calls Tryz.prog 58 #[.string t] w fun e w' => e = .returned (.tuple #[.agg ((readG t.data.toList).getD G0).cells, .bool (readG t.data.toList).isSome]) ∧ Below w.heap.size w w' := by
  have HF := Lib.hid (cutting_f t 58 (by omega))
  have HB0 : Hid (Below w.heap.size w (w.alloc (.cells G0.cells 31))) := Lib.hid ((Below.refl w.heap.size w).alloc (Nat.le_refl _) _)
  have HX0 : Hid (Boxed (w.alloc (.cells G0.cells 31)) w.heap.size G0) := Lib.hid (heap_alloc_new w _)
  have HR : Hid (readG t.data.toList = match Plain.cutAll 58 t.data.toList with
    | [w0, w1, w2] => if w2 = freeT ∨ w2 = heldT then match Plain.readList readC w0 with
      | some [x, y] => match Plain.readList num8 w1 with
        | some [r, m, u, s] => if (mkG x y r m u s (decide (w2 = heldT))).ok then some (mkG x y r m u s (decide (w2 = heldT))) else none
        | _ => none
      | _ => none else none
    | _ => none) := Lib.hid rfl
  have hpc := cutAll_piece 58 t.data.toList
  have hnz := Plain.cutAll_ne 58 t.data.toList
  generalize Plain.cutAll 58 t.data.toList = P at *
  go_enter Tryz.func58, Tryz.ntmps58
  go_wp2_with fail
  change Calls Tryz.prog 111 _ (w.alloc (.cells G0.cells 31)) _
  refine (spec_l01Cut.calls _ t _ (P.map mk) _ HF.out).mono ?_
  rintro e W1 ⟨v, rfl, hk, hb⟩
  have HB1 := Lib.hid (below_then HB0.out HB0.out.size hb)
  have HX1 := Lib.hid (HX0.out.more hb)
  clear HB0 HX0 HF
  obtain ⟨pb, cap, e1, _, _, _⟩ := Kd.R_form hk (by rw [List.length_map]; exact List.length_pos_iff.2 hnz)
  obtain ⟨A, c, rfl, hc, hC⟩ := Kd.R_reads hk
  injection e1 with e1 _ _
  subst e1
  clear hk hb
  by_cases hn : P.length = 3
  · obtain ⟨p1, p2, p3, rfl⟩ := len3 hn
    have k0 : W1.cell? ⟨pb, 0, none⟩ = some (.string (mk p1)) := str_cell hC 0 (by simp)
    have k1 : W1.cell? ⟨pb, 1, none⟩ = some (.string (mk p2)) := str_cell hC 1 (by simp)
    have k2 : W1.cell? ⟨pb, 2, none⟩ = some (.string (mk p3)) := str_cell hC 2 (by simp)
    have z1 : (mk p1).size ≤ 1048576 := by
      have := hpc p1 (by simp); rw [← ByteArray.size_data, ← Array.length_toList, mk_data]; simp at this; omega
    have z2 : (mk p2).size ≤ 1048576 := by
      have := hpc p2 (by simp); rw [← ByteArray.size_data, ← Array.length_toList, mk_data]; simp at this; omega
    have HC1 := Lib.hid (fun W => l01CRead_calls (mk p1) z1 W)
    have HC2 := Lib.hid (fun W => l01NRead_calls (mk p2) z2 W)
    rw [mk_data] at HC1 HC2
    have e3 : (mk p3).toList = p3 := by rw [ByteArray.toList_eq, mk_data]
    clear hpc z1 z2 hC hnz
    generalize hb1 : mk p1 = b1 at *
    generalize hb2 : mk p2 = b2 at *
    generalize hb3 : mk p3 = b3 at *
    clear hb3
    simp only [List.map_cons, List.map_nil, List.length_cons, List.length_nil] at hc ⊢
    by_cases hp : p3 = freeT ∨ p3 = heldT
    · have hR : readG t.data.toList = match Plain.readList readC p1 with
          | some [x, y] => match Plain.readList num8 p2 with
            | some [r, m, u, s] => if (mkG x y r m u s (decide (p3 = heldT))).ok then some (mkG x y r m u s (decide (p3 = heldT))) else none
            | _ => none
          | _ => none := by
        rw [HR.out]; dsimp only; rw [if_pos hp]
      clear HR
      by_cases hdec : p3 = heldT
      · have m1 : (b3.toList == [102, 114, 101, 101]) = false := by rw [e3, hdec]; rfl
        have m2 : (b3.toList == [104, 101, 108, 100]) = true := by rw [e3, hdec]; rfl
        have m3 : (b3.toList != [102, 114, 101, 101]) = true := by rw [e3, hdec]; rfl
        have m4 : (b3.toList != [104, 101, 108, 100]) = false := by rw [e3, hdec]; rfl
        rw [decide_eq_true hdec] at hR
        have HR := Lib.hid hR
        clear hR hp e3
        have HNf := Lib.hid hdec
        clear hdec hn
        go_wp2_with fail
        refine (HC1.out _).mono ?_
        rintro e W2 ⟨v1, rfl, ho1⟩
        have HO1 := Lib.hid ho1; clear ho1
        have HX2 := Lib.hid (HX1.out.more HO1.out.bel)
        have HB2 := Lib.hid (below_then HB1.out HB1.out.size HO1.out.bel)
        replace k1 := pw_cell_below HO1.out.bel k1
        replace k2 := pw_cell_below HO1.out.bel k2
        clear HX1 HB1 HC1 k0
        go_wp2_with fail
        refine (HC2.out _).mono ?_
        rintro e W3 ⟨v2, rfl, ho2⟩
        have HO2 := Lib.hid ho2; clear ho2
        have HX3 := Lib.hid (HX2.out.more HO2.out.bel)
        have HB3 := Lib.hid (below_then HB2.out HB2.out.size HO2.out.bel)
        replace HO1 := Lib.hid (HO1.out.more HO2.out.bel)
        replace k2 := pw_cell_below HO2.out.bel k2
        clear HX2 HB2 HC2 k1
        simp only [Hid] at HR
        obtain ⟨c, hc⟩ : ∃ c, Plain.readList readC p1 = c := ⟨_, rfl⟩
        obtain ⟨n, hn⟩ : ∃ n, Plain.readList num8 p2 = n := ⟨_, rfl⟩
        rw [hc] at HO1 HR
        rw [hn] at HO2 HR
        rw [hc, hn]
        clear hc hn
        obtain ⟨A1, c1, rfl, hl1, hC1⟩ := HO1.out.reads
        obtain ⟨A2, c2, rfl, hl2, hC2⟩ := HO2.out.reads
        have HC1 := Lib.hid hC1; clear hC1
        have HC2 := Lib.hid hC2; clear hC2
        cases c with
        | none =>
          have HN : Hid (readG t.data.toList = none) := Lib.hid (by rw [HR])
          clear HR
          obtain ⟨q0, q1, q2, q3, q4, q5, q6⟩ := HX3.out.at
          have f0 := HX3.out.thaw 0; have f1 := HX3.out.thaw 1; have f2 := HX3.out.thaw 2; have f3 := HX3.out.thaw 3; have f4 := HX3.out.thaw 4; have f5 := HX3.out.thaw 5; have f6 := HX3.out.thaw 6
          have r1 := store_cm
          have r2 := store_fm
          go_wp2_with fail
          refine bodyPost_ret (v := .tuple #[.agg G0.cells, .bool false]) (ret_grain Tryz.results58 (HX3.out.put G0) rfl rfl) rfl ⟨by rw [HN.out]; rfl, below_put HB3.out (Nat.le_refl _) G0⟩
        | some c =>
          cases n with
          | none =>
            have HN : Hid (readG t.data.toList = none) := Lib.hid (by rw [HR]; rcases c with _ | ⟨x, _ | ⟨y, _ | ⟨z, r⟩⟩⟩ <;> simp)
            clear HR
            obtain ⟨q0, q1, q2, q3, q4, q5, q6⟩ := HX3.out.at
            have f0 := HX3.out.thaw 0; have f1 := HX3.out.thaw 1; have f2 := HX3.out.thaw 2; have f3 := HX3.out.thaw 3; have f4 := HX3.out.thaw 4; have f5 := HX3.out.thaw 5; have f6 := HX3.out.thaw 6
            have r1 := store_cm
            have r2 := store_fm
            go_wp2_with fail
            refine bodyPost_ret (v := .tuple #[.agg G0.cells, .bool false]) (ret_grain Tryz.results58 (HX3.out.put G0) rfl rfl) rfl ⟨by rw [HN.out]; rfl, below_put HB3.out (Nat.le_refl _) G0⟩
          | some n =>
            dsimp only [Option.getD_some, Option.isSome_some] at HC1 HC2 hl1 hl2 ⊢
            by_cases h2 : c.length = 2
            · by_cases h4 : n.length = 4
              · obtain ⟨x, y, rfl⟩ := len2 h2
                obtain ⟨r, m, u, v, rfl⟩ := len4 h4
                obtain ⟨g1, cap1, e1, _, hg1, _⟩ := Kd.R_form HO1.out.row (by simp)
                obtain ⟨g2, cap2, e2, _, hg2, _⟩ := Kd.R_form HO2.out.row (by simp)
                injection e1 with e1 _ e1c
                injection e2 with e2 _ e2c
                subst e1; subst e2
                have y0 := kC_cell (c := 0) HC1.out 0 (by simp) x rfl
                have y1 := kC_cell (c := 0) HC1.out 1 (by simp) y rfl
                have y2 := kF_cell (c := 0) HC2.out 0 (by simp) r rfl
                have y3 := kF_cell (c := 0) HC2.out 1 (by simp) m rfl
                have y4 := kF_cell (c := 0) HC2.out 2 (by simp) u rfl
                have y5 := kF_cell (c := 0) HC2.out 3 (by simp) v rfl
                have z0 : W3.drew.cell? ⟨g1, 0, none⟩ = some (.complex .f32 x.1 x.2) := y0
                have z1 : W3.drew.cell? ⟨g1, 1, none⟩ = some (.complex .f32 y.1 y.2) := y1
                have z2 : W3.drew.cell? ⟨g2, 0, none⟩ = some (.float .f32 r) := y2
                have z3 : W3.drew.cell? ⟨g2, 1, none⟩ = some (.float .f32 m) := y3
                have z4 : W3.drew.cell? ⟨g2, 2, none⟩ = some (.float .f32 u) := y4
                have z5 : W3.drew.cell? ⟨g2, 3, none⟩ = some (.float .f32 v) := y5
                have z6 : W3.drew.cell? ⟨pb, 2, none⟩ = some (.string b3) := k2
                have l1 : g1 ≠ W3.heap.size := Nat.ne_of_lt (cell_lt y0)
                have l2 : g2 ≠ W3.heap.size := Nat.ne_of_lt (cell_lt y2)
                have l3 : pb ≠ W3.heap.size := Nat.ne_of_lt (cell_lt k2)
                have hba : Below W3.heap.size W3 (W3.alloc (.cells G0.cells 31)).drew := ((Below.refl W3.heap.size W3).alloc (Nat.le_refl _) _).drew
                have hxa : Boxed (W3.alloc (.cells G0.cells 31)).drew W3.heap.size G0 := heap_alloc_new W3 _
                have HXa := Lib.hid hxa
                have HBa := Lib.hid (below_then HB3.out HB3.out.size hba)
                have a0 := pw_cell_below hba y0
                have a1 := pw_cell_below hba y1
                have a2 := pw_cell_below hba y2
                have a3 := pw_cell_below hba y3
                have a4 := pw_cell_below hba y4
                have a5 := pw_cell_below hba y5
                have a6 := pw_cell_below hba k2
                obtain ⟨q0, q1, q2, q3, q4, q5, q6⟩ := hxa.at
                have f0 := hxa.thaw 0; have f1 := hxa.thaw 1; have f2 := hxa.thaw 2; have f3 := hxa.thaw 3; have f4 := hxa.thaw 4; have f5 := hxa.thaw 5; have f6 := hxa.thaw 6
                have r1 := store_cm
                have r2 := store_fm
                clear HC1 HC2 HO1 HO2 hba hxa hg1 hg2 hl1 hl2
                have hbf : Below W3.heap.size W3 (W3.alloc (.cells (mkG x y r m u v true).cells 31)).drew := ((Below.refl W3.heap.size W3).alloc (Nat.le_refl _) _).drew
                have HXf := Lib.hid (show Boxed (W3.alloc (.cells (mkG x y r m u v true).cells 31)).drew W3.heap.size (mkG x y r m u v true) from heap_alloc_new W3 _)
                have c0 := pw_cell_below hbf y0
                have c1 := pw_cell_below hbf y1
                have c2 := pw_cell_below hbf y2
                have c3 := pw_cell_below hbf y3
                have c4 := pw_cell_below hbf y4
                have c5 := pw_cell_below hbf y5
                have c6 := pw_cell_below hbf k2
                have HBf := Lib.hid hbf; clear hbf
                unfold mkG G.cells at c0 c1 c2 c3 c4 c5 c6
                have HRg : Hid (readG t.data.toList = if (mkG x y r m u v true).ok then some (mkG x y r m u v true) else none) := Lib.hid (by rw [HR])
                clear HR
                clear k2 y0 y1 y2 y3 y4 y5
                clear h2 h4
                unfold G.cells G0 at a0 a1 a2 a3 a4 a5 a6 q0 q1 q2 q3 q4 q5 q6 f0 f1 f2 f3 f4 f5 f6
                go_wp2_with fail
                go_region_held3 (fun W => W.cell? ⟨g1, 0, none⟩ = some (.complex .f32 x.1 x.2) ∧ W.cell? ⟨g1, 1, none⟩ = some (.complex .f32 y.1 y.2) ∧ W.cell? ⟨g2, 0, none⟩ = some (.float .f32 r) ∧ W.cell? ⟨g2, 1, none⟩ = some (.float .f32 m) ∧ W.cell? ⟨g2, 2, none⟩ = some (.float .f32 u) ∧ W.cell? ⟨g2, 3, none⟩ = some (.float .f32 v) ∧ W.cell? ⟨pb, 2, none⟩ = some (.string b3)) (first | exact ⟨z0, z1, z2, z3, z4, z5, z6⟩ | exact ⟨a0, a1, a2, a3, a4, a5, a6⟩ | exact ⟨c0, c1, c2, c3, c4, c5, c6⟩ | go_keep) (first | fail)
                have HX4 : Hid (Boxed (W3.alloc (.cells (mkG x y r m u v true).cells 31)).drew w.heap.size G0) := Lib.hid (HX3.out.more HBf.out)
                have HB4 : Hid (Below w.heap.size w (W3.alloc (.cells (mkG x y r m u v true).cells 31)).drew) := Lib.hid (below_then HB3.out HB3.out.size HBf.out)
                clear a0 a1 a2 a3 a4 a5 a6 c0 c1 c2 c3 c4 c5 c6 z0 z1 z2 z3 z4 z5 z6 q0 q1 q2 q3 q4 q5 q6 f0 f1 f2 f3 f4 f5 f6 l1 l2 l3 HXa HBa HBf HX3 HB3
                change Exit.then _ _ _ _ (W3.alloc (.cells (mkG x y r m u v true).cells 31)).drew
                generalize (W3.alloc (.cells (mkG x y r m u v true).cells 31)).drew = W4 at *
                generalize W3.heap.size = pn at *
                generalize hgf : mkG x y r m u v true = gf at *
                clear hgf hb1 hb2
                have HVd := Lib.hid (l02Grain_calls gf pn W4 HXf.out)
                go_wp2_with fail
                change Calls Tryz.prog 113 #[.pointer (some ⟨pn, 0, none⟩)] W4 _
                refine HVd.out.mono ?_
                rintro e W5 ⟨rfl, k, rfl⟩
                have hb : Below W4.heap.size W4 (W4.drewN k) := pw_below_drewN (Below.refl _ _) k
                have HX5 := Lib.hid (HX4.out.more hb)
                have HF5 := Lib.hid (HXf.out.more hb)
                have HB5 := Lib.hid (below_then HB4.out HB4.out.size hb)
                clear hb HX4 HXf HB4 HVd
                generalize W4.drewN k = W5 at *
                cases hok : gf.ok with
                | false =>
                  have HN : Hid (readG t.data.toList = none) := Lib.hid (by rw [HRg.out, hok]; rfl)
                  clear HRg
                  obtain ⟨q0, q1, q2, q3, q4, q5, q6⟩ := HX5.out.at
                  have f0 := HX5.out.thaw 0; have f1 := HX5.out.thaw 1; have f2 := HX5.out.thaw 2; have f3 := HX5.out.thaw 3; have f4 := HX5.out.thaw 4; have f5 := HX5.out.thaw 5; have f6 := HX5.out.thaw 6
                  go_wp2_with fail
                  refine bodyPost_ret (v := .tuple #[.agg G0.cells, .bool false]) (ret_grain Tryz.results58 (HX5.out.put G0) rfl rfl) rfl ⟨by rw [HN.out]; rfl, below_put HB5.out (Nat.le_refl _) G0⟩
                | true =>
                  have HN : Hid (readG t.data.toList = some gf) := Lib.hid (by rw [HRg.out, hok]; rfl)
                  clear HRg
                  obtain ⟨g0, g1', g2', g3, g4, g5, g6⟩ := HF5.out.at
                  obtain ⟨q0, q1, q2, q3, q4, q5, q6⟩ := HX5.out.at
                  have f0 := HX5.out.thaw 0; have f1 := HX5.out.thaw 1; have f2 := HX5.out.thaw 2; have f3 := HX5.out.thaw 3; have f4 := HX5.out.thaw 4; have f5 := HX5.out.thaw 5; have f6 := HX5.out.thaw 6
                  go_wp2_with fail
                  refine bodyPost_ret (v := .tuple #[.agg gf.cells, .bool true]) (ret_grain Tryz.results58 (HX5.out.put gf) rfl rfl) rfl ⟨by rw [HN.out]; rfl, below_put HB5.out (Nat.le_refl _) gf⟩
              · have HN : Hid (readG t.data.toList = none) := Lib.hid (by
                  rw [HR]
                  obtain ⟨x, y, rfl⟩ := len2 h2
                  match n, h4 with
                  | [], _ => rfl
                  | [_], _ => rfl
                  | [_, _], _ => rfl
                  | [_, _, _], _ => rfl
                  | [_, _, _, _], h => exact absurd rfl h
                  | _ :: _ :: _ :: _ :: _ :: _, _ => rfl)
                clear HR
                have h2' : ((c.length : Int) != 2) = false := by simp [h2]
                have h4' : ((n.length : Int) != 4) = true := by simp; omega
                obtain ⟨q0, q1, q2, q3, q4, q5, q6⟩ := HX3.out.at
                have f0 := HX3.out.thaw 0; have f1 := HX3.out.thaw 1; have f2 := HX3.out.thaw 2; have f3 := HX3.out.thaw 3; have f4 := HX3.out.thaw 4; have f5 := HX3.out.thaw 5; have f6 := HX3.out.thaw 6
                have r1 := store_cm
                have r2 := store_fm
                go_wp2_with fail
                refine bodyPost_ret (v := .tuple #[.agg G0.cells, .bool false]) (ret_grain Tryz.results58 (HX3.out.put G0) rfl rfl) rfl ⟨by rw [HN.out]; rfl, below_put HB3.out (Nat.le_refl _) G0⟩
            · have HN : Hid (readG t.data.toList = none) := Lib.hid (by rw [HR]; rcases c with _ | ⟨x, _ | ⟨y, _ | ⟨z, r⟩⟩⟩ <;> (first | (exact absurd rfl h2) | rfl | simp))
              clear HR
              have h2' : ((c.length : Int) != 2) = true := by simp; omega
              obtain ⟨q0, q1, q2, q3, q4, q5, q6⟩ := HX3.out.at
              have f0 := HX3.out.thaw 0; have f1 := HX3.out.thaw 1; have f2 := HX3.out.thaw 2; have f3 := HX3.out.thaw 3; have f4 := HX3.out.thaw 4; have f5 := HX3.out.thaw 5; have f6 := HX3.out.thaw 6
              have r1 := store_cm
              have r2 := store_fm
              go_wp2_with fail
              refine bodyPost_ret (v := .tuple #[.agg G0.cells, .bool false]) (ret_grain Tryz.results58 (HX3.out.put G0) rfl rfl) rfl ⟨by rw [HN.out]; rfl, below_put HB3.out (Nat.le_refl _) G0⟩
      · have hdf : p3 = freeT := hp.resolve_right hdec
        have m1 : (b3.toList == [102, 114, 101, 101]) = true := by rw [e3, hdf]; rfl
        have m2 : (b3.toList == [104, 101, 108, 100]) = false := by rw [e3, hdf]; rfl
        have m3 : (b3.toList != [102, 114, 101, 101]) = false := by rw [e3, hdf]; rfl
        have m4 : (b3.toList != [104, 101, 108, 100]) = true := by rw [e3, hdf]; rfl
        rw [decide_eq_false hdec] at hR
        have HR := Lib.hid hR
        clear hR hp e3 hdf
        have HNf := Lib.hid hdec
        clear hdec hn
        go_wp2_with fail
        refine (HC1.out _).mono ?_
        rintro e W2 ⟨v1, rfl, ho1⟩
        have HO1 := Lib.hid ho1; clear ho1
        have HX2 := Lib.hid (HX1.out.more HO1.out.bel)
        have HB2 := Lib.hid (below_then HB1.out HB1.out.size HO1.out.bel)
        replace k1 := pw_cell_below HO1.out.bel k1
        replace k2 := pw_cell_below HO1.out.bel k2
        clear HX1 HB1 HC1 k0
        go_wp2_with fail
        refine (HC2.out _).mono ?_
        rintro e W3 ⟨v2, rfl, ho2⟩
        have HO2 := Lib.hid ho2; clear ho2
        have HX3 := Lib.hid (HX2.out.more HO2.out.bel)
        have HB3 := Lib.hid (below_then HB2.out HB2.out.size HO2.out.bel)
        replace HO1 := Lib.hid (HO1.out.more HO2.out.bel)
        replace k2 := pw_cell_below HO2.out.bel k2
        clear HX2 HB2 HC2 k1
        simp only [Hid] at HR
        obtain ⟨c, hc⟩ : ∃ c, Plain.readList readC p1 = c := ⟨_, rfl⟩
        obtain ⟨n, hn⟩ : ∃ n, Plain.readList num8 p2 = n := ⟨_, rfl⟩
        rw [hc] at HO1 HR
        rw [hn] at HO2 HR
        rw [hc, hn]
        clear hc hn
        obtain ⟨A1, c1, rfl, hl1, hC1⟩ := HO1.out.reads
        obtain ⟨A2, c2, rfl, hl2, hC2⟩ := HO2.out.reads
        have HC1 := Lib.hid hC1; clear hC1
        have HC2 := Lib.hid hC2; clear hC2
        cases c with
        | none =>
          have HN : Hid (readG t.data.toList = none) := Lib.hid (by rw [HR])
          clear HR
          obtain ⟨q0, q1, q2, q3, q4, q5, q6⟩ := HX3.out.at
          have f0 := HX3.out.thaw 0; have f1 := HX3.out.thaw 1; have f2 := HX3.out.thaw 2; have f3 := HX3.out.thaw 3; have f4 := HX3.out.thaw 4; have f5 := HX3.out.thaw 5; have f6 := HX3.out.thaw 6
          have r1 := store_cm
          have r2 := store_fm
          go_wp2_with fail
          refine bodyPost_ret (v := .tuple #[.agg G0.cells, .bool false]) (ret_grain Tryz.results58 (HX3.out.put G0) rfl rfl) rfl ⟨by rw [HN.out]; rfl, below_put HB3.out (Nat.le_refl _) G0⟩
        | some c =>
          cases n with
          | none =>
            have HN : Hid (readG t.data.toList = none) := Lib.hid (by rw [HR]; rcases c with _ | ⟨x, _ | ⟨y, _ | ⟨z, r⟩⟩⟩ <;> simp)
            clear HR
            obtain ⟨q0, q1, q2, q3, q4, q5, q6⟩ := HX3.out.at
            have f0 := HX3.out.thaw 0; have f1 := HX3.out.thaw 1; have f2 := HX3.out.thaw 2; have f3 := HX3.out.thaw 3; have f4 := HX3.out.thaw 4; have f5 := HX3.out.thaw 5; have f6 := HX3.out.thaw 6
            have r1 := store_cm
            have r2 := store_fm
            go_wp2_with fail
            refine bodyPost_ret (v := .tuple #[.agg G0.cells, .bool false]) (ret_grain Tryz.results58 (HX3.out.put G0) rfl rfl) rfl ⟨by rw [HN.out]; rfl, below_put HB3.out (Nat.le_refl _) G0⟩
          | some n =>
            dsimp only [Option.getD_some, Option.isSome_some] at HC1 HC2 hl1 hl2 ⊢
            by_cases h2 : c.length = 2
            · by_cases h4 : n.length = 4
              · obtain ⟨x, y, rfl⟩ := len2 h2
                obtain ⟨r, m, u, v, rfl⟩ := len4 h4
                obtain ⟨g1, cap1, e1, _, hg1, _⟩ := Kd.R_form HO1.out.row (by simp)
                obtain ⟨g2, cap2, e2, _, hg2, _⟩ := Kd.R_form HO2.out.row (by simp)
                injection e1 with e1 _ e1c
                injection e2 with e2 _ e2c
                subst e1; subst e2
                have y0 := kC_cell (c := 0) HC1.out 0 (by simp) x rfl
                have y1 := kC_cell (c := 0) HC1.out 1 (by simp) y rfl
                have y2 := kF_cell (c := 0) HC2.out 0 (by simp) r rfl
                have y3 := kF_cell (c := 0) HC2.out 1 (by simp) m rfl
                have y4 := kF_cell (c := 0) HC2.out 2 (by simp) u rfl
                have y5 := kF_cell (c := 0) HC2.out 3 (by simp) v rfl
                have z0 : W3.drew.cell? ⟨g1, 0, none⟩ = some (.complex .f32 x.1 x.2) := y0
                have z1 : W3.drew.cell? ⟨g1, 1, none⟩ = some (.complex .f32 y.1 y.2) := y1
                have z2 : W3.drew.cell? ⟨g2, 0, none⟩ = some (.float .f32 r) := y2
                have z3 : W3.drew.cell? ⟨g2, 1, none⟩ = some (.float .f32 m) := y3
                have z4 : W3.drew.cell? ⟨g2, 2, none⟩ = some (.float .f32 u) := y4
                have z5 : W3.drew.cell? ⟨g2, 3, none⟩ = some (.float .f32 v) := y5
                have z6 : W3.drew.cell? ⟨pb, 2, none⟩ = some (.string b3) := k2
                have l1 : g1 ≠ W3.heap.size := Nat.ne_of_lt (cell_lt y0)
                have l2 : g2 ≠ W3.heap.size := Nat.ne_of_lt (cell_lt y2)
                have l3 : pb ≠ W3.heap.size := Nat.ne_of_lt (cell_lt k2)
                have hba : Below W3.heap.size W3 (W3.alloc (.cells G0.cells 31)).drew := ((Below.refl W3.heap.size W3).alloc (Nat.le_refl _) _).drew
                have hxa : Boxed (W3.alloc (.cells G0.cells 31)).drew W3.heap.size G0 := heap_alloc_new W3 _
                have HXa := Lib.hid hxa
                have HBa := Lib.hid (below_then HB3.out HB3.out.size hba)
                have a0 := pw_cell_below hba y0
                have a1 := pw_cell_below hba y1
                have a2 := pw_cell_below hba y2
                have a3 := pw_cell_below hba y3
                have a4 := pw_cell_below hba y4
                have a5 := pw_cell_below hba y5
                have a6 := pw_cell_below hba k2
                obtain ⟨q0, q1, q2, q3, q4, q5, q6⟩ := hxa.at
                have f0 := hxa.thaw 0; have f1 := hxa.thaw 1; have f2 := hxa.thaw 2; have f3 := hxa.thaw 3; have f4 := hxa.thaw 4; have f5 := hxa.thaw 5; have f6 := hxa.thaw 6
                have r1 := store_cm
                have r2 := store_fm
                clear HC1 HC2 HO1 HO2 hba hxa hg1 hg2 hl1 hl2
                have hbf : Below W3.heap.size W3 (W3.alloc (.cells (mkG x y r m u v false).cells 31)).drew := ((Below.refl W3.heap.size W3).alloc (Nat.le_refl _) _).drew
                have HXf := Lib.hid (show Boxed (W3.alloc (.cells (mkG x y r m u v false).cells 31)).drew W3.heap.size (mkG x y r m u v false) from heap_alloc_new W3 _)
                have c0 := pw_cell_below hbf y0
                have c1 := pw_cell_below hbf y1
                have c2 := pw_cell_below hbf y2
                have c3 := pw_cell_below hbf y3
                have c4 := pw_cell_below hbf y4
                have c5 := pw_cell_below hbf y5
                have c6 := pw_cell_below hbf k2
                have HBf := Lib.hid hbf; clear hbf
                unfold mkG G.cells at c0 c1 c2 c3 c4 c5 c6
                have HRg : Hid (readG t.data.toList = if (mkG x y r m u v false).ok then some (mkG x y r m u v false) else none) := Lib.hid (by rw [HR])
                clear HR
                clear k2 y0 y1 y2 y3 y4 y5
                clear h2 h4
                unfold G.cells G0 at a0 a1 a2 a3 a4 a5 a6 q0 q1 q2 q3 q4 q5 q6 f0 f1 f2 f3 f4 f5 f6
                go_wp2_with fail
                go_region_held3 (fun W => W.cell? ⟨g1, 0, none⟩ = some (.complex .f32 x.1 x.2) ∧ W.cell? ⟨g1, 1, none⟩ = some (.complex .f32 y.1 y.2) ∧ W.cell? ⟨g2, 0, none⟩ = some (.float .f32 r) ∧ W.cell? ⟨g2, 1, none⟩ = some (.float .f32 m) ∧ W.cell? ⟨g2, 2, none⟩ = some (.float .f32 u) ∧ W.cell? ⟨g2, 3, none⟩ = some (.float .f32 v) ∧ W.cell? ⟨pb, 2, none⟩ = some (.string b3)) (first | exact ⟨z0, z1, z2, z3, z4, z5, z6⟩ | exact ⟨a0, a1, a2, a3, a4, a5, a6⟩ | exact ⟨c0, c1, c2, c3, c4, c5, c6⟩ | go_keep) (first | fail)
                have HX4 : Hid (Boxed (W3.alloc (.cells (mkG x y r m u v false).cells 31)).drew w.heap.size G0) := Lib.hid (HX3.out.more HBf.out)
                have HB4 : Hid (Below w.heap.size w (W3.alloc (.cells (mkG x y r m u v false).cells 31)).drew) := Lib.hid (below_then HB3.out HB3.out.size HBf.out)
                clear a0 a1 a2 a3 a4 a5 a6 c0 c1 c2 c3 c4 c5 c6 z0 z1 z2 z3 z4 z5 z6 q0 q1 q2 q3 q4 q5 q6 f0 f1 f2 f3 f4 f5 f6 l1 l2 l3 HXa HBa HBf HX3 HB3
                change Exit.then _ _ _ _ (W3.alloc (.cells (mkG x y r m u v false).cells 31)).drew
                generalize (W3.alloc (.cells (mkG x y r m u v false).cells 31)).drew = W4 at *
                generalize W3.heap.size = pn at *
                generalize hgf : mkG x y r m u v false = gf at *
                clear hgf hb1 hb2
                have HVd := Lib.hid (l02Grain_calls gf pn W4 HXf.out)
                go_wp2_with fail
                change Calls Tryz.prog 113 #[.pointer (some ⟨pn, 0, none⟩)] W4 _
                refine HVd.out.mono ?_
                rintro e W5 ⟨rfl, k, rfl⟩
                have hb : Below W4.heap.size W4 (W4.drewN k) := pw_below_drewN (Below.refl _ _) k
                have HX5 := Lib.hid (HX4.out.more hb)
                have HF5 := Lib.hid (HXf.out.more hb)
                have HB5 := Lib.hid (below_then HB4.out HB4.out.size hb)
                clear hb HX4 HXf HB4 HVd
                generalize W4.drewN k = W5 at *
                cases hok : gf.ok with
                | false =>
                  have HN : Hid (readG t.data.toList = none) := Lib.hid (by rw [HRg.out, hok]; rfl)
                  clear HRg
                  obtain ⟨q0, q1, q2, q3, q4, q5, q6⟩ := HX5.out.at
                  have f0 := HX5.out.thaw 0; have f1 := HX5.out.thaw 1; have f2 := HX5.out.thaw 2; have f3 := HX5.out.thaw 3; have f4 := HX5.out.thaw 4; have f5 := HX5.out.thaw 5; have f6 := HX5.out.thaw 6
                  go_wp2_with fail
                  refine bodyPost_ret (v := .tuple #[.agg G0.cells, .bool false]) (ret_grain Tryz.results58 (HX5.out.put G0) rfl rfl) rfl ⟨by rw [HN.out]; rfl, below_put HB5.out (Nat.le_refl _) G0⟩
                | true =>
                  have HN : Hid (readG t.data.toList = some gf) := Lib.hid (by rw [HRg.out, hok]; rfl)
                  clear HRg
                  obtain ⟨g0, g1', g2', g3, g4, g5, g6⟩ := HF5.out.at
                  obtain ⟨q0, q1, q2, q3, q4, q5, q6⟩ := HX5.out.at
                  have f0 := HX5.out.thaw 0; have f1 := HX5.out.thaw 1; have f2 := HX5.out.thaw 2; have f3 := HX5.out.thaw 3; have f4 := HX5.out.thaw 4; have f5 := HX5.out.thaw 5; have f6 := HX5.out.thaw 6
                  go_wp2_with fail
                  refine bodyPost_ret (v := .tuple #[.agg gf.cells, .bool true]) (ret_grain Tryz.results58 (HX5.out.put gf) rfl rfl) rfl ⟨by rw [HN.out]; rfl, below_put HB5.out (Nat.le_refl _) gf⟩
              · have HN : Hid (readG t.data.toList = none) := Lib.hid (by
                  rw [HR]
                  obtain ⟨x, y, rfl⟩ := len2 h2
                  match n, h4 with
                  | [], _ => rfl
                  | [_], _ => rfl
                  | [_, _], _ => rfl
                  | [_, _, _], _ => rfl
                  | [_, _, _, _], h => exact absurd rfl h
                  | _ :: _ :: _ :: _ :: _ :: _, _ => rfl)
                clear HR
                have h2' : ((c.length : Int) != 2) = false := by simp [h2]
                have h4' : ((n.length : Int) != 4) = true := by simp; omega
                obtain ⟨q0, q1, q2, q3, q4, q5, q6⟩ := HX3.out.at
                have f0 := HX3.out.thaw 0; have f1 := HX3.out.thaw 1; have f2 := HX3.out.thaw 2; have f3 := HX3.out.thaw 3; have f4 := HX3.out.thaw 4; have f5 := HX3.out.thaw 5; have f6 := HX3.out.thaw 6
                have r1 := store_cm
                have r2 := store_fm
                go_wp2_with fail
                refine bodyPost_ret (v := .tuple #[.agg G0.cells, .bool false]) (ret_grain Tryz.results58 (HX3.out.put G0) rfl rfl) rfl ⟨by rw [HN.out]; rfl, below_put HB3.out (Nat.le_refl _) G0⟩
            · have HN : Hid (readG t.data.toList = none) := Lib.hid (by rw [HR]; rcases c with _ | ⟨x, _ | ⟨y, _ | ⟨z, r⟩⟩⟩ <;> (first | (exact absurd rfl h2) | rfl | simp))
              clear HR
              have h2' : ((c.length : Int) != 2) = true := by simp; omega
              obtain ⟨q0, q1, q2, q3, q4, q5, q6⟩ := HX3.out.at
              have f0 := HX3.out.thaw 0; have f1 := HX3.out.thaw 1; have f2 := HX3.out.thaw 2; have f3 := HX3.out.thaw 3; have f4 := HX3.out.thaw 4; have f5 := HX3.out.thaw 5; have f6 := HX3.out.thaw 6
              have r1 := store_cm
              have r2 := store_fm
              go_wp2_with fail
              refine bodyPost_ret (v := .tuple #[.agg G0.cells, .bool false]) (ret_grain Tryz.results58 (HX3.out.put G0) rfl rfl) rfl ⟨by rw [HN.out]; rfl, below_put HB3.out (Nat.le_refl _) G0⟩
    · have HN : Hid (readG t.data.toList = none) := Lib.hid (by rw [HR.out]; dsimp only; rw [if_neg hp])
      have hp1 : p3 ≠ freeT := fun h => hp (Or.inl h)
      have hp2 : p3 ≠ heldT := fun h => hp (Or.inr h)
      have m1 : (b3.toList == [102, 114, 101, 101]) = false := by rw [e3]; exact beq_eq_false_iff_ne.2 hp1
      have m2 : (b3.toList == [104, 101, 108, 100]) = false := by rw [e3]; exact beq_eq_false_iff_ne.2 hp2
      have m3 : (b3.toList != [102, 114, 101, 101]) = true := by rw [bne, m1]; rfl
      have m4 : (b3.toList != [104, 101, 108, 100]) = true := by rw [bne, m2]; rfl
      clear hp e3 hp1 hp2 HR hn
      obtain ⟨q0, q1, q2, q3, q4, q5, q6⟩ := HX1.out.at
      have f0 := HX1.out.thaw 0; have f1 := HX1.out.thaw 1; have f2 := HX1.out.thaw 2; have f3 := HX1.out.thaw 3; have f4 := HX1.out.thaw 4; have f5 := HX1.out.thaw 5; have f6 := HX1.out.thaw 6
      have r1 := store_cm
      have r2 := store_fm
      go_wp2_with fail
      refine bodyPost_ret (v := .tuple #[.agg G0.cells, .bool false]) (ret_grain Tryz.results58 (HX1.out.put G0) rfl rfl) rfl ⟨by rw [HN.out]; rfl, below_put HB1.out (Nat.le_refl _) G0⟩
  · have HN : Hid (readG t.data.toList = none) := Lib.hid (by
      rw [HR.out]
      rcases P with _ | ⟨p1, _ | ⟨p2, _ | ⟨p3, _ | ⟨p4, r⟩⟩⟩⟩ <;> first | rfl | (exact absurd rfl hn))
    have hn' : (((P.map mk).length : Int) != 3) = true := by simp; omega
    have hn2 : ((P.length : Int) != 3) = true := by simp; omega
    obtain ⟨q0, q1, q2, q3, q4, q5, q6⟩ := HX1.out.at
    have f0 := HX1.out.thaw 0; have f1 := HX1.out.thaw 1; have f2 := HX1.out.thaw 2; have f3 := HX1.out.thaw 3; have f4 := HX1.out.thaw 4; have f5 := HX1.out.thaw 5; have f6 := HX1.out.thaw 6
    have r1 := store_cm
    have r2 := store_fm
    go_wp2_with fail
    refine bodyPost_ret (v := .tuple #[.agg G0.cells, .bool false]) (ret_grain Tryz.results58 (HX1.out.put G0) rfl rfl) rfl ⟨by rw [HN.out]; rfl, below_put HB1.out (Nat.le_refl _) G0⟩
set_option maxHeartbeats 1000000 in
set_option maxRecDepth 100000 in
theorem specReadGrain_calls (t : ByteArray) (ht : t.size ≤ 1048576) (w : World) : Calls Tryz.prog 13 #[.string t] w fun e w' => e = .returned (.tuple #[.agg ((readG t.data.toList).getD G0).cells, .bool (readG t.data.toList).isSome]) ∧ Below w.heap.size w w' := by
  have HB0 : Hid (Below w.heap.size w (w.alloc (.cells G0.cells 31))) := Lib.hid ((Below.refl w.heap.size w).alloc (Nat.le_refl _) _)
  have HX0 : Hid (Boxed (w.alloc (.cells G0.cells 31)) w.heap.size G0) := Lib.hid (heap_alloc_new w _)
  have hc := fun W => l08ReadGrain_calls t ht W
  generalize readG t.data.toList = o at *
  generalize o.isSome = ok at *
  generalize o.getD G0 = g at *
  obtain ⟨a, b, c, d, r, m, u, s, h⟩ := g
  simp only [G.cells] at hc
  have HC := Lib.hid hc; clear hc
  go_enter Tryz.func13, Tryz.ntmps13
  go_wp2_with fail
  change Calls Tryz.prog 58 _ (w.alloc (.cells G0.cells 31)) _
  refine (HC.out _).mono ?_
  rintro e W1 ⟨rfl, hb⟩
  have HB1 := Lib.hid (below_then HB0.out HB0.out.size hb)
  have HX1 := Lib.hid (HX0.out.more hb)
  clear hb HB0 HX0
  obtain ⟨q0, q1, q2, q3, q4, q5, q6⟩ := HX1.out.at
  have f0 := HX1.out.thaw 0; have f1 := HX1.out.thaw 1; have f2 := HX1.out.thaw 2; have f3 := HX1.out.thaw 3; have f4 := HX1.out.thaw 4; have f5 := HX1.out.thaw 5; have f6 := HX1.out.thaw 6
  have r1 := store_cm
  have r2 := store_fm
  go_wp2_with fail
  refine bodyPost_ret (v := .tuple #[.agg (G.cells ⟨a, b, c, d, r, m, u, s, h⟩), .bool ok]) (ret_grain Tryz.results13 (HX1.out.put ⟨a, b, c, d, r, m, u, s, h⟩) rfl rfl) rfl ⟨rfl, below_put HB1.out (Nat.le_refl _) ⟨a, b, c, d, r, m, u, s, h⟩⟩
end Go.Proofs.YticfmlohkfoccaaGreatDoor
