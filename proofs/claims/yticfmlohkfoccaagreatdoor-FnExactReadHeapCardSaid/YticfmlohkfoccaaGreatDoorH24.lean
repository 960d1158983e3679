/- The law FnExactReadHeap, walked: it returns true for every text, and nothing below its own memory turns. -/
import Derived.Test.YticfmlohkfoccaaGreatDoorH23
import Derived.Test.YticfmlohkfoccaaGreatDoorH16
set_option linter.unusedVariables false
set_option linter.unusedSimpArgs false
namespace Go.Proofs.YticfmlohkfoccaaGreatDoor
open Go.RowKit Go.Proofs.YticfmlohkfoccaaGreatDoorW.PrintWords

theorem rowBlock {W : World} {base : Nat} {ok : Nat → Prop} {v : Value} {l : List G} (h : Kd.R kG 31 W base ok v l) :
    ∃ A c, v = .slice A l.length c ∧ GRow W A l ∧ (0 < l.length → ∃ g, A = some ⟨g, 0, none⟩ ∧ base ≤ g ∧ g < W.heap.size ∧ ∃ cur, RB W g cur ∧ l.length * 7 ≤ cur.size) := by
  obtain ⟨A, c, rfl, hc, hg⟩ := rowG h
  refine ⟨A, c, rfl, hg, fun hl => ?_⟩
  obtain ⟨g, rfl, hat⟩ := hg.get (l.length - 1) (by omega)
  obtain ⟨_, hb1, hb2, q, hq, cur, hcur⟩ := (Kd.R_bound h).1 g rfl
  obtain rfl : q = 31 := by simpa [kG] using hq
  refine ⟨g, rfl, hb1, hb2, cur, hcur, ?_⟩
  have h6 := hat.2.2.2.2.2.2
  rw [Lib.cell_of_heap hcur] at h6
  obtain ⟨hlt, _⟩ := Array.getElem?_eq_some_iff.1 h6
  omega
set_option maxHeartbeats 2000000 in
set_option maxRecDepth 100000 in
theorem heapLaw_calls (t : ByteArray) (hsz : t.size ≤ 9223372036854775807) (w : World) (hv : Vars w) : Calls Tryz.prog 7 #[.string t] w fun e w' => e = .returned (.bool true) ∧ Below w.heap.size w w' := by
  have HV := Lib.hid hv; clear hv
  by_cases hbig : 1048576 < t.size
  · have hd : decide ((1048576 : Int) < (t.size : Int)) = true := decide_eq_true (by omega)
    clear HV
    go_enter Tryz.func7, Tryz.ntmps7
    go_wp2_with fail
    go_ret
    exact ⟨rfl, Below.refl _ _⟩
  · have hd : decide ((1048576 : Int) < (t.size : Int)) = false := decide_eq_false (by omega)
    have HC1 := Lib.hid (fun W => specReadHeap_calls t (by omega) W)
    have HC2 := Lib.hid (fun W hW => implReadHeap_calls t (by omega) W hW)
    have hl : ((readH t.data.toList).getD []).length ≤ 24 ∧ ∀ x ∈ (readH t.data.toList).getD [], x.finite := by
      cases h : readH t.data.toList with
      | none => simp
      | some l => exact ⟨(readH_ok h).1, fun x hx => G.ok_finite ((readH_ok h).2 x hx)⟩
    obtain ⟨h24, hf⟩ := hl
    unfold GivesH at HC1 HC2
    have hbn : ((readH t.data.toList).isSome != (readH t.data.toList).isSome) = false := by cases (readH t.data.toList).isSome <;> rfl
    generalize (readH t.data.toList).isSome = ok at *
    generalize (readH t.data.toList).getD [] = l at *
    have HF := Lib.hid hf
    have H24 := Lib.hid h24
    clear hbig hf h24
    go_enter Tryz.func7, Tryz.ntmps7
    go_wp2_with fail
    refine (HC1.out _).mono ?_
    rintro e W1 ⟨v0, rfl, ho⟩
    obtain ⟨A0, c0, rfl, hg0, _⟩ := rowBlock ho.row
    have HB1 := Lib.hid ho.bel
    have HG0 := Lib.hid hg0
    clear ho hg0 HC1
    have q3 := (BoxH.new W1 (.slice A0 l.length c0)).at
    go_wp2_with fail
    change Calls Tryz.prog 50 _ (W1.alloc (.cells #[.slice A0 l.length c0] 73)) _
    have HX3 := Lib.hid (BoxH.new W1 (.slice A0 l.length c0))
    have HB2 : Hid (Below W1.heap.size W1 (W1.alloc (.cells #[.slice A0 l.length c0] 73))) := Lib.hid ((Below.refl _ _).alloc (Nat.le_refl _) _)
    clear q3
    generalize W1.alloc (.cells #[.slice A0 l.length c0] 73) = W1a at *
    refine (HC2.out _ (HV.out.step (below_then HB1.out HB1.out.size HB2.out))).mono ?_
    rintro e W2 ⟨v1, rfl, ho⟩
    obtain ⟨A1, c1, rfl, hg1, hr1⟩ := rowBlock ho.row
    have HX3a := Lib.hid (HX3.out.more ho.bel)
    have HB3 := Lib.hid (below_then HB2.out HB2.out.size ho.bel)
    have hp3 := box_lt HX3.out
    have hgx : ∃ g, (0 < l.length → A1 = some ⟨g, 0, none⟩ ∧ ∃ cur, RB W2 g cur ∧ l.length * 7 ≤ cur.size) ∧ W1.heap.size ≤ g ∧ g ≠ W2.heap.size ∧ g ≠ W1.heap.size := by
      by_cases hl0 : 0 < l.length
      · obtain ⟨g, e1, e2, e3, e4⟩ := hr1 hl0
        have h3 := HB2.out.size
        exact ⟨g, fun _ => ⟨e1, e4⟩, by omega, by omega, by omega⟩
      · have h4 := HB3.out.size
        exact ⟨W2.heap.size + 1, fun h => absurd h hl0, by omega, by omega, by omega⟩
    obtain ⟨g, hgA, hg2, hg3, hg4⟩ := hgx
    have HGA := Lib.hid hgA
    have HG1 := Lib.hid hg1
    clear ho hg1 hr1 hgA HX3 HB2 hp3
    have hba : Below W2.heap.size W2 (W2.alloc (.cells #[.slice A1 l.length c1] 73)) := (Below.refl _ _).alloc (Nat.le_refl _) _
    have HX5 := Lib.hid (BoxH.new W2 (.slice A1 l.length c1))
    have HX3b := Lib.hid (HX3a.out.more hba)
    have q5 := HX5.out.at
    have q3 := HX3b.out.at
    have HC3 := Lib.hid (eqHeap_calls A1 A0 c1 c0 l (W2.alloc (.cells #[.slice A1 l.length c1] 73)) (HG1.out.more hba) ((HG0.out.more (below_then HB3.out HB3.out.size hba))) H24.out HF.out)
    have HBa := Lib.hid hba
    clear hba HX3a
    go_wp2_with fail
    refine HC3.out.mono ?_
    rintro e W3 ⟨rfl, hb⟩
    have hb23 := below_then HBa.out HBa.out.size hb
    have HX5a := Lib.hid (HX5.out.more hb)
    have HX3c := Lib.hid (HX3b.out.more hb)
    have HM0 : Hid (Marks W3 W1 W1.heap.size g 0 l.length W3) := Lib.hid {
      row := fun hl0 => by
        obtain ⟨_, cur, h1, h2⟩ := HGA.out hl0
        exact ⟨cur, h1.more hb23, h2, fun j hj => absurd hj (Nat.not_lt_zero _)⟩
      bel := below_then HB3.out HB3.out.size hb23
      le := Nat.le_refl _
      siz := Nat.le_refl _
      oth := fun _ _ _ => rfl }
    have HA : Hid (0 < l.length → A1 = some ⟨g, 0, none⟩) := Lib.hid (fun h => (HGA.out h).1)
    have HC4 := Lib.hid (markHeap_calls A1 g l.length c1 HA.out H24.out W3 W1 W1.heap.size hg2 W3 HM0.out)
    have hl5 := box_lt HX5a.out
    have hl3 := box_lt HX3c.out
    clear hb HC3 HX5 HX3b HBa hb23 HGA q5 q3
    have q5 := HX5a.out.at
    go_wp2_with fail
    refine HC4.out.mono ?_
    rintro e W4 ⟨rfl, hm⟩
    have HM := Lib.hid hm
    have HX5 : Hid (BoxH W4 W2.heap.size (.slice A1 l.length c1)) := Lib.hid ((hm.oth _ (Ne.symm hg3) hl5).trans HX5a.out)
    have HX3 : Hid (BoxH W4 W1.heap.size (.slice A0 l.length c0)) := Lib.hid ((hm.oth _ (Ne.symm hg4) hl3).trans HX3c.out)
    clear hm HC4 HX5a HX3c HM0 q5
    have q5 := HX5.out.at
    have HC5 := Lib.hid (heldHeap_calls A1 g l.length c1 HA.out H24.out W3 W1 W1.heap.size W4 HM.out)
    go_wp2_with fail
    refine HC5.out.mono ?_
    rintro e W5 ⟨rfl, hb⟩
    have HM5 := Lib.hid (HM.out.more hb)
    have HX5b := Lib.hid (HX5.out.more hb)
    have HX3b := Lib.hid (HX3.out.more hb)
    clear hb HC5 HM HX5 HX3 q5
    have hneg : decide (1 + 7 * (l.length : Int) < 0) = false := decide_eq_false (by omega)
    have hmm : ((1 + 7 * (l.length : Int)) != (1 + 7 * (l.length : Int))) = false := by simp
    go_wp2_with fail
    refine (HC2.out _ (HV.out.step (below_then HB1.out HB1.out.size HM5.out.bel))).mono ?_
    rintro e W6 ⟨v6, rfl, ho⟩
    obtain ⟨A6, c6, rfl, hg6, _⟩ := rowBlock ho.row
    have hba : Below W6.heap.size W6 (W6.alloc (.cells #[.slice A6 l.length c6] 73)) := (Below.refl _ _).alloc (Nat.le_refl _) _
    have hbb := below_then ho.bel ho.bel.size hba
    have HM6 := Lib.hid (HM5.out.more hbb)
    have HX5 := Lib.hid (HX5b.out.more hbb)
    have HX3 := Lib.hid (HX3b.out.more hbb)
    have HX9 := Lib.hid (BoxH.new W6 (.slice A6 l.length c6))
    have HC6 := Lib.hid (eqHeap_calls A6 A0 c6 c0 l (W6.alloc (.cells #[.slice A6 l.length c6] 73)) (hg6.more hba) (HG0.out.more HM6.out.bel) H24.out HF.out)
    clear ho hg6 hba hbb HM5 HX5b HX3b
    have q9 := HX9.out.at
    have q3 := HX3.out.at
    go_wp2_with fail
    refine HC6.out.mono ?_
    rintro e W7 ⟨rfl, hb⟩
    have HM7 := Lib.hid (HM6.out.more hb)
    have HX5c := Lib.hid (HX5.out.more hb)
    clear hb HC6 HM6 HX5 HX3 HX9 q9 q3
    have q5 := HX5c.out.at
    have HC7 := Lib.hid (heldHeap_calls A1 g l.length c1 HA.out H24.out W3 W1 W1.heap.size W7 HM7.out)
    go_wp2_with fail
    refine HC7.out.mono ?_
    rintro e W8 ⟨rfl, hb⟩
    have HB8 := Lib.hid (below_then HB1.out HB1.out.size (HM7.out.more hb).bel)
    clear hb HC7 HM7 HX5c q5
    go_wp2_with fail
    go_ret
    exact ⟨rfl, HB8.out⟩
end Go.Proofs.YticfmlohkfoccaaGreatDoor
