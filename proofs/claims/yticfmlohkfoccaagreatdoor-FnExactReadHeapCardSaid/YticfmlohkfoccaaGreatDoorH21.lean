/- The reference's ReadHeap, walked: it returns the grains that a heap's text holds, for every text of at most 2^20 bytes. -/
import Derived.Test.YticfmlohkfoccaaGreatDoorH20
set_option linter.unusedVariables false
set_option linter.unusedSimpArgs false
namespace Go.Proofs.YticfmlohkfoccaaGreatDoor
open Go.RowKit Go.Proofs.YticfmlohkfoccaaGreatDoorW.PrintWords
open PFnExactReadGrain (spec_l01Cut.f spec_l01Cut.l0 spec_l01Cut.calls)

theorem box_lt {W : World} {p : Nat} {v : Value} (h : BoxH W p v) : p < W.heap.size := (Array.getElem?_eq_some_iff.1 h).1
/-- The heap that grows while the pieces are read. -/
structure HWalk (w : World) (pb p2 p4 : Nat) (L : List ByteArray) (v : Value) (o : List G) (W : World) : Prop where
  row : Kd.R kG 31 W w.heap.size (fun k => k ≠ pb ∧ k ≠ p2 ∧ k ≠ p4) v o
  bel : Below w.heap.size w W
  pcs : ∀ j (h : j < L.length), W.cell? ⟨pb, j, none⟩ = some (.string L[j])
  b2 : BoxH W p2 nilS
  b4 : BoxH W p4 v
  ltb : pb < W.heap.size
  ne : p2 ≠ p4 ∧ pb ≠ p4 ∧ pb ≠ p2 ∧ w.heap.size ≤ p2 ∧ w.heap.size ≤ p4
section
variable {w W W2 : World} {pb p2 p4 : Nat} {L : List ByteArray} {v v1 : Value} {o o1 : List G}
theorem HWalk.more (h : HWalk w pb p2 p4 L v o W) (k : Below W.heap.size W W2) : HWalk w pb p2 p4 L v o W2 :=
  ⟨Kd.R_below h.row k, below_then h.bel h.bel.size k, fun j hj => pw_cell_below k (h.pcs j hj), h.b2.more k, h.b4.more k, Nat.lt_of_lt_of_le h.ltb k.size, h.ne⟩
theorem HWalk.fresh (h : HWalk w pb p2 p4 L v o W) : ∀ k, W.heap.size ≤ k → k ≠ pb ∧ k ≠ p2 ∧ k ≠ p4 := fun k hk => by
  have h1 := h.ltb
  have h2 := box_lt h.b2
  have h3 := box_lt h.b4
  omega
theorem HWalk.next (h : HWalk w pb p2 p4 L v o W) (ho : Kd.R kG 31 W2 w.heap.size (fun k => k ≠ pb ∧ k ≠ p2 ∧ k ≠ p4) v1 o1) (hb : Below w.heap.size w W2) (hg : W.grownBy W2 v.ownBlock) : BoxH W2 p4 v ∧ HWalk w pb p2 p4 L v1 o1 (W2.setCell ⟨p4, 0, none⟩ v1) := by
  have n2 : some p2 ≠ v.ownBlock := fun e => (h.row.1 p2 e.symm).2.1 rfl
  have n4 : some p4 ≠ v.ownBlock := fun e => (h.row.1 p4 e.symm).2.2 rfl
  have nb : some pb ≠ v.ownBlock := fun e => (h.row.1 pb e.symm).1 rfl
  have k4 : BoxH W2 p4 v := (hg.block p4 (box_lt h.b4) n4).trans h.b4
  have k2 : BoxH W2 p2 nilS := (hg.block p2 (box_lt h.b2) n2).trans h.b2
  obtain ⟨e1, e2, e3, e4, e5⟩ := h.ne
  refine ⟨k4, Kd.R_far (p := ⟨p4, 0, none⟩) ho (fun k hk => hk.2.2) v1, hb.setCell (p := ⟨p4, 0, none⟩) e5 v1, fun j hj => ?_, ?_, k4.put v1, ?_, h.ne⟩
  · rw [World.cell?_setCell_far _ _ _ _ (Ne.symm e2)]
    exact hg.cell (h.pcs j hj) nb
  · exact (Below.heap_setCell W2 ⟨p4, 0, none⟩ v1 p2 e1).trans k2
  · have := h.ltb
    have h2 := hg.size
    have h3 : (W2.setCell ⟨p4, 0, none⟩ v1).heap.size = W2.heap.size := by simp
    omega
end

set_option maxHeartbeats 2000000 in
set_option maxRecDepth 100000 in
theorem l08ReadHeap_calls (t : ByteArray) (ht : t.size ≤ 1048576) (w : World) : Calls Tryz.prog 101 #[.string t] w fun e w' => GivesH (readH t.data.toList) w e w' := by
  have HF := Lib.hid (cutting_f t 47 (by omega))
  have hcl := Plain.cutAll_length 47 t.data.toList
  have hsd : t.data.toList.length = t.size := by simp
  have hnz := Plain.cutAll_ne 47 t.data.toList
  have hpc := cutAll_piece 47 t.data.toList
  have htb := tail_beq t
  have HB0 : Hid (Below w.heap.size w (w.alloc (.cells #[nilS] 73))) := Lib.hid ((Below.refl w.heap.size w).alloc (Nat.le_refl _) _)
  have HX0 := Lib.hid (BoxH.new w nilS)
  have HF0 : Hid ((w.alloc (.cells #[nilS] 73)).heap.size ≠ w.heap.size) := Lib.hid (by simp)
  by_cases hn4 : t.data.toList = Plain.none4
  · have HA : Hid (readH t.data.toList = some []) := Lib.hid (by unfold readH; rw [if_pos hn4])
    rw [decide_eq_true hn4] at htb
    clear hn4 hcl hnz hpc HF
    go_enter Tryz.func101, Tryz.ntmps101
    go_wp2_with (first | ((with_reducible refine gate_dst (N := 9) rfl ?_); refine Kd.R_lit kG (w0 := w) (W := w.alloc (.cells #[nilS] 73)) w.heap.size 31 ?hg (N := 9) ?hd (xs := ([] : List G)) (inner := []) (ok := fun k => k ≠ w.heap.size) (okp := fun _ => False) ?hr ?hp (fun _ hk => hk.elim) HF0.out HB0.out HB0.out.size (by simp) ?_; (case hd => rfl); (case hg => rfl); (case hr => first | (go_simp; done) | (go_simp; rfl)); (case hp => exact (Reps.none _ _)); intro v2 w2 ho2 hb2 hg2 hnew2; obtain ⟨A2, c2, rfl, _⟩ := Kd.R_reads ho2; have HX2 := Lib.hid (show BoxH w2 w.heap.size nilS from (hg2.block w.heap.size (box_lt HX0.out) (by simp)).trans HX0.out); have q2 := ((HX2.out).more ((Below.refl _ _).alloc (Nat.le_refl _) (.cells #[.slice A2 0 c2] 73))).at; have f2 := ((HX2.out).more ((Below.refl _ _).alloc (Nat.le_refl _) (.cells #[.slice A2 0 c2] 73))).thaw; have q3 := (BoxH.new w2 (.slice A2 0 c2)).at; have HO2 := Lib.hid ho2; have HB2 := Lib.hid hb2; clear hg2 hnew2 ho2 hb2))
    refine bodyPost_ret (v := .tuple #[.agg #[.slice A2 0 c2], .bool true]) (ret_heap (p := w.heap.size) Tryz.results101 ((HX2.out.more ((Below.refl _ _).alloc (Nat.le_refl _) (.cells #[.slice A2 0 c2] 73))).put (.slice A2 0 c2)) rfl rfl) rfl ⟨.slice A2 0 c2, by rw [HA.out]; rfl, ?_⟩
    rw [HA.out]
    exact ⟨Kd.R_mono (Kd.R_far (p := ⟨w.heap.size, 0, none⟩) (Kd.R_below HO2.out ((Below.refl _ _).alloc (Nat.le_refl _) (.cells #[.slice A2 0 c2] 73))) (fun k hk => hk) _) (fun _ _ => trivial), (HB2.out.alloc HB2.out.size _).setCell (p := ⟨w.heap.size, 0, none⟩) (Nat.le_refl _) _⟩
  · have HA : Hid (readH t.data.toList = if 24 < (Plain.cutAll 47 t.data.toList).length then none else Plain.readAll readG (Plain.cutAll 47 t.data.toList)) := Lib.hid (by unfold readH; rw [if_neg hn4])
    rw [decide_eq_false hn4] at htb
    clear hn4
    generalize Plain.cutAll 47 t.data.toList = P at *
    have hLl : (P.map mk).length = P.length := List.length_map ..
    have hLn : P.map mk ≠ [] := by simpa using hnz
    have hLg : ∀ k (h : k < (P.map mk).length) (h' : k < P.length), (P.map mk)[k].data.toList = P[k] := fun k h h' => by simp [mk_data]
    generalize P.map mk = L at *
    have HLg := Lib.hid hLg; clear hLg
    have HPC := Lib.hid hpc; clear hpc
    go_enter Tryz.func101, Tryz.ntmps101
    go_wp2_with (first | ((with_reducible refine gate_dst (N := 9) rfl ?_); refine Kd.R_lit kG (w0 := w) (W := w.alloc (.cells #[nilS] 73)) w.heap.size 31 ?hg (N := 9) ?hd (xs := ([] : List G)) (inner := []) (ok := fun k => k ≠ w.heap.size) (okp := fun _ => False) ?hr ?hp (fun _ hk => hk.elim) HF0.out HB0.out HB0.out.size (by simp) ?_; (case hd => rfl); (case hg => rfl); (case hr => first | (go_simp; done) | (go_simp; rfl)); (case hp => exact (Reps.none _ _)); intro v2 w2 ho2 hb2 hg2 hnew2; obtain ⟨A2, c2, rfl, _⟩ := Kd.R_reads ho2; have HX2 := Lib.hid (show BoxH w2 w.heap.size nilS from (hg2.block w.heap.size (box_lt HX0.out) (by simp)).trans HX0.out); have HO2 := Lib.hid ho2; have HB2 := Lib.hid hb2; clear hg2 hnew2 ho2 hb2))
    change Calls Tryz.prog 111 _ (w2.alloc (.cells #[.slice A2 0 c2] 73)) _
    have HBa : Hid (Below w2.heap.size w2 (w2.alloc (.cells #[.slice A2 0 c2] 73))) := Lib.hid ((Below.refl _ _).alloc (Nat.le_refl _) _)
    refine (spec_l01Cut.calls _ t _ L _ HF.out).mono ?_
    rintro e W4 ⟨pv, rfl, hk, hb⟩
    obtain ⟨pb, cap, e1, _, _, _⟩ := Kd.R_form hk (List.length_pos_iff.2 hLn)
    have hpb := (Kd.R_bound hk).1 pb (by rw [e1]; rfl)
    obtain ⟨A, c, rfl, hc, hC⟩ := Kd.R_reads hk
    injection e1 with e1 _ _
    subst e1
    have hp4 : w2.heap.size < (w2.alloc (.cells #[.slice A2 0 c2] 73)).heap.size := by simp
    have hp2 := box_lt HX2.out
    have HW : Aside0 (HWalk w pb w.heap.size w2.heap.size L (.slice A2 0 c2) [] W4) := ⟨{
      row := Kd.R_below (Kd.R_below (Kd.R_mono (Kd.R_bound HO2.out) (fun k hk => ⟨by have := hk.2.2.1; omega, hk.1, by have := hk.2.2.1; omega⟩)) HBa.out) hb
      bel := below_then (HB2.out.alloc HB2.out.size _) (HB2.out.alloc HB2.out.size _).size hb
      pcs := fun j hj => str_cell hC j hj
      b2 := (HX2.out.more HBa.out).more hb
      b4 := (BoxH.new w2 _).more hb
      ltb := hpb.2.2.1
      ne := ⟨by omega, by omega, by omega, Nat.le_refl _, by omega⟩ }⟩
    clear hk hb hC hpb hp4 hp2 HBa HB2 HX2 HO2 HX0 HB0 HF0 HF
    generalize w2.heap.size = p4 at *
    generalize hp2 : w.heap.size = p2 at HW
    have HP2 := Lib.hid hp2; clear hp2
    go_wp2_with fail
    go_loopw [6] (fun i wr => ∃ (k : Nat) (v : Value) (o : List G), i = .int .i64 k ∧ k ≤ L.length ∧ o.length = k ∧ Aside0 (Plain.readAll readG (P.take k) = some o) ∧ Aside0 (HWalk w pb p2 p4 L v o wr)) (fun i _ => L.length - (intOf i).toNat)
    case atStart => exact ⟨0, _, [], rfl, by omega, rfl, ⟨rfl⟩, HW⟩
    case round =>
      clear HW
      obtain ⟨k, v, o, rfl, hk, hol, HR, HW⟩ := hrel
      by_cases hlt : k < L.length
      · have hcell := HW.out.pcs k hlt
        have hlp : k < P.length := by omega
        have hpk := HLg.out k hlt hlp
        have hps : L[k].size ≤ 1048576 := by
          have h1 := HPC.out P[k] (List.getElem_mem _)
          rw [← hpk] at h1
          simp at h1
          omega
        have hcl := fun W => l08ReadGrain_calls L[k] hps W
        rw [hpk] at hcl
        clear hpk hps
        generalize hx : L[k] = x at *
        clear hx
        have hcr : ∃ r, readG P[k] = r := ⟨_, rfl⟩
        obtain ⟨r, hr⟩ := hcr
        rw [hr] at hcl
        have Hr := Lib.hid hr; clear hr
        have e24 : decide (k < L.length) = true := decide_eq_true hlt
        have e25 : decide (k < P.length) = true := decide_eq_true hlp
        cases r with
        | none =>
          have HN2 : Hid (readH t.data.toList = none) := Lib.hid (by
            rw [HA.out, Plain.readAll_stop readG k hlp HR.out Hr.out]; split <;> rfl)
          simp only [Option.getD_none, Option.isSome_none, G.cells, G0] at hcl
          have HCl := Lib.hid hcl; clear hcl
          go_wp2_with fail
          refine (HCl.out _).mono ?_
          rintro e W5 ⟨rfl, hb⟩
          have HW5 := Aside0.mk (HW.out.more (below_then hb hb.size ((Below.refl W5.heap.size W5).alloc (Nat.le_refl _) (.cells G0.cells 31)))); clear hb HCl HW
          have r1 := store_cm
          have r2 := store_fm
          have q2 := HW5.out.b2.at
          have f2 := HW5.out.b2.thaw
          unfold G.cells G0 at q2 f2
          go_wp2_with fail
          refine bodyPost_ret (v := .tuple #[.agg #[nilS], .bool false]) (ret_heap (p := p2) Tryz.results101 (HW5.out.b2.put nilS) (by rw [← HP2.out]; rfl) rfl) rfl ⟨nilS, by rw [HN2.out]; rfl, by rw [HN2.out]; exact ⟨Kd.R_nil _ _ _ _ _, HW5.out.bel.setCell (p := ⟨p2, 0, none⟩) HW5.out.ne.2.2.2.1 _⟩⟩
        | some y =>
          have HR2 := Aside0.mk (Plain.readAll_next readG k hlp HR.out Hr.out)
          clear HR Hr
          simp only [Option.getD_some, Option.isSome_some, G.cells] at hcl
          have HCl := Lib.hid hcl; clear hcl
          go_wp2_with fail
          refine (HCl.out _).mono ?_
          rintro e W5 ⟨rfl, hb⟩
          have HW5 := Aside0.mk (HW.out.more (below_then hb hb.size ((Below.refl W5.heap.size W5).alloc (Nat.le_refl _) (.cells y.cells 31)))); clear hb HCl HW
          have r1 := store_cm
          have r2 := store_fm
          have hy : Boxed (W5.alloc (.cells y.cells 31)) W5.heap.size y := heap_alloc_new W5 _
          obtain ⟨g0, g1, g2, g3, g4, g5, g6⟩ := hy.at
          have q4 := HW5.out.b4.at
          unfold G.cells at g0 g1 g2 g3 g4 g5 g6 q4
          clear hy
          have HLN : Hid ((o ++ [y]).length = k + 1) := Lib.hid (by simp; omega)
          have HSz : Hid (W5.heap.size + 1 = (W5.alloc (.cells y.cells 31)).heap.size) := Lib.hid (by simp)
          go_wp2_with (first | ((with_reducible refine gate_builtin (b := .append) (xs := #[.tmp 34, .tmp 36]) rfl ?_); at_builtin; refine Kd.R_append kG (w0 := w) w.heap.size rfl (.tmp 34) (.tmp 36) 71 31 (.agg #[.complex .f32 0 0, .complex .f32 0 0, .float .f32 0, .float .f32 0, .float .f32 0, .float .f32 0, .bool false]) 36 rfl Tryz.underlying71 info31 rfl (by decide) (by omega) v o y [.complex .f32 y.a y.b, .complex .f32 y.c y.d, .float .f32 y.r, .float .f32 y.m, .float .f32 y.t, .float .f32 y.s, .bool y.h] (fun k => k ≠ pb ∧ k ≠ p2 ∧ k ≠ p4) (fun _ => False) rfl ?aX ?aP (fun _ hk => hk.elim) ?aF ?aO ?aB ?aS ?aL ?_; (case aX => exact congrArg (fun n => Value.slice (some ⟨n, 0, none⟩) 1 1) HSz.out); (case aP => exact rfl); (case aB => exact HW5.out.bel); (case aF => exact HW5.out.fresh); (case aO => exact HW5.out.row); (case aS => exact HW5.out.bel.size); (case aL => omega); intro v5 w5 ho5 hb5 hg5 hat5; obtain ⟨A5, c5, e5, _⟩ := Kd.R_reads ho5; rw [HLN.out] at e5; subst e5; obtain ⟨hx5, hw5⟩ := HWalk.next HW5.out ho5 hb5 hg5; have HW6 := Aside0.mk hw5; have q5 := hx5.at; have f5 := hx5.thaw; clear ho5 hb5 hg5 hat5 hx5 hw5))
          go_roundw
          case rel => exact ⟨k + 1, _, o ++ [y], by go_num, by omega, by simp; omega, HR2, HW6⟩
          case measure => simp [intOf]; omega
      · subst hol
        have hr := HR.out
        rw [List.take_of_length_le (by omega)] at hr
        have hrl := Plain.readAll_length _ _ _ hr
        obtain ⟨A5, c5, rfl, hc5, hg5⟩ := rowG HW.out.row
        have q4 := HW.out.b4.at
        have HC := Lib.hid (l02Give_calls A5 c5 o wr hg5 (by omega) (readAll_ok _ _ hr))
        have HRr := Lib.hid hr
        have HRL := Lib.hid hrl
        clear hr hg5 hrl
        go_wp2_with fail
        refine HC.out.mono ?_
        rintro e W6 ⟨rfl, hb⟩
        have HW6 := Aside0.mk (HW.out.more hb)
        clear hb HW HC q4
        have q2 := HW6.out.b2.at
        have f2 := HW6.out.b2.thaw
        by_cases h24 : o.length ≤ 24
        · have HN2 : Hid (readH t.data.toList = some o) := Lib.hid (by rw [HA.out, if_neg (by have := HRL.out; omega), HRr.out])
          rw [decide_eq_true h24, if_pos h24]
          have H24 := Lib.hid h24; clear h24
          go_wp2_with fail
          refine bodyPost_ret (v := .tuple #[.agg #[.slice A5 o.length c5], .bool true]) (ret_heap (p := p2) Tryz.results101 (HW6.out.b2.put _) (by rw [← HP2.out]; rfl) rfl) rfl ⟨.slice A5 o.length c5, by rw [HN2.out]; rfl, by rw [HN2.out]; exact ⟨Kd.R_mono (Kd.R_far (p := ⟨p2, 0, none⟩) HW6.out.row (fun k hk => hk.2.1) _) (fun _ _ => trivial), HW6.out.bel.setCell (p := ⟨p2, 0, none⟩) HW6.out.ne.2.2.2.1 _⟩⟩
        · have HN2 : Hid (readH t.data.toList = none) := Lib.hid (by rw [HA.out, if_pos (by have := HRL.out; omega)])
          rw [decide_eq_false h24, if_neg h24, show nilS = Value.slice none 0 0 from rfl]
          have H24 := Lib.hid h24; clear h24
          go_wp2_with fail
          refine bodyPost_ret (v := .tuple #[.agg #[nilS], .bool false]) (ret_heap (p := p2) Tryz.results101 (HW6.out.b2.put nilS) (by rw [← HP2.out]; rfl) rfl) rfl ⟨nilS, by rw [HN2.out]; rfl, by rw [HN2.out]; exact ⟨Kd.R_nil _ _ _ _ _, HW6.out.bel.setCell (p := ⟨p2, 0, none⟩) HW6.out.ne.2.2.2.1 _⟩⟩
set_option maxHeartbeats 1000000 in
set_option maxRecDepth 100000 in
theorem specReadHeap_calls (t : ByteArray) (ht : t.size ≤ 1048576) (w : World) : Calls Tryz.prog 49 #[.string t] w fun e w' => GivesH (readH t.data.toList) w e w' := by
  have HC := Lib.hid (fun W => l08ReadHeap_calls t ht W)
  have hb0 : Below w.heap.size w (w.alloc (.cells #[nilS] 73)) := (Below.refl w.heap.size w).alloc (Nat.le_refl _) _
  have HX0 := Lib.hid (BoxH.new w nilS)
  have HB0 := Lib.hid hb0; clear hb0
  generalize readH t.data.toList = r at *
  go_enter Tryz.func49, Tryz.ntmps49
  go_wp2_with fail
  change Calls Tryz.prog 101 _ (w.alloc (.cells #[nilS] 73)) _
  refine (HC.out _).mono ?_
  rintro e W1 ⟨v, rfl, ho⟩
  have hlo := (Kd.R_bound ho.row)
  have HO := Lib.hid (ho.lift HB0.out)
  have HX1 := Lib.hid (HX0.out.more ho.bel)
  obtain ⟨A, c, rfl, hc, hg⟩ := rowG HO.out.row
  clear ho HX0 HC hg
  have q1 := HX1.out.at
  have f1 := HX1.out.thaw
  go_wp2_with fail
  refine bodyPost_ret (v := .tuple #[.agg #[.slice A (r.getD []).length c], .bool r.isSome]) (ret_heap Tryz.results49 (HX1.out.put _) rfl rfl) rfl ⟨_, rfl, ?_, HO.out.bel.setCell (p := ⟨w.heap.size, 0, none⟩) (Nat.le_refl _) _⟩
  exact Kd.R_set HO.out.row HX1.out (by intro q hq; simp [kG] at hq; omega) 0 _
end Go.Proofs.YticfmlohkfoccaaGreatDoor
