/- The program's JournalOf, walked: it returns Plain.answer of the lines, for every list of lines whose sizes do not add up beyond 2^40, where the library's table and its one variable hold what they are laid with. -/
import Derived.Test.YthjahljlijcbmaaDoorG5
import Derived.Lib.IndexAny
set_option linter.unusedVariables false
set_option linter.unusedSimpArgs false
namespace Go.Proofs.YthjahljlijcbmaaDoor
open Go.RowKit Go.Proofs.YthjahljlijcbmaaDoorW.PrintWords

theorem contains_calls (s : ByteArray) (w : World) : Calls Tryd.prog 15 #[.string s, .string ⟨#[10]⟩] w fun e w' => e = .returned (.bool (Plain.nl s)) ∧ w = w' := by
  refine (Tryd.strings_Contains_one s 10 w).mono ?_
  rintro e w' ⟨rfl, rfl⟩
  refine ⟨?_, rfl⟩
  unfold Plain.nl
  rw [Lib.contains_iff_indexByte]
theorem len_calls (B b : Nat) (bs : List Value) (w : World) (h : Lib.IsBuilderF 36 5 B b bs w) : Calls Tryd.prog 16 #[.pointer (some ⟨b, 0, none⟩)] w fun e w' => e = .returned (.int .i64 bs.length) ∧ w = w' := by
  refine (Tryd.Builder_Len_f B b bs w h).mono ?_
  rintro e w' ⟨rfl, rfl⟩
  exact ⟨rfl, rfl⟩
theorem builder_below {B b : Nat} {bs : List Value} {w W : World} (h : Lib.IsBuilderF 36 5 B b bs w) (hb : Below w.heap.size w W) : Lib.IsBuilderF 36 5 B b bs W := by
  have at_ : ∀ p, Lib.BuilderAtF 36 5 B b p bs w → Lib.BuilderAtF 36 5 B b p bs W := by
    intro p hp
    have hlt := hp.lt
    obtain ⟨hB, v, hbk, hown, hne⟩ := hp
    refine ⟨hB, v, by rw [hb.block b hlt]; exact hbk, hown.kept (grown_of_below hb none) (by cases v.ownBlock <;> simp), hne⟩
  rcases h with h | h
  · exact .inl (at_ _ h)
  · exact .inr (at_ _ h)
theorem strCells_append (a b : ByteArray) : Lib.strCells (a ++ b) = Lib.strCells a ++ Lib.strCells b := by
  unfold Lib.strCells
  rw [show (a ++ b).data.toList = a.data.toList ++ b.data.toList from by rw [ByteArray.data_append, Array.toList_append], List.map_append]

/-- What the builder holds behind k lines, and what else has stayed. -/
structure Held (w : World) (l : List ByteArray) (k : Nat) (W : World) : Prop where
  built : Lib.IsBuilderF 36 5 w.heap.size w.heap.size (Lib.strCells (Plain.jour (l.take k)).1) W
  bel : Below w.heap.size w W
  good : ∀ i (h : i < l.length), i < k → Plain.nl l[i] = false

theorem drop_least (l : List ByteArray) (k : Nat) (h : k < l.length) : l[k].size ≤ Plain.least (l.drop k) := by
  rw [List.drop_eq_getElem_cons h]
  simp [Plain.least]
  omega

set_option maxHeartbeats 2000000 in
set_option maxRecDepth 100000 in
theorem impl_JournalOf (A0 : Option Addr) (c0 : Nat) (l : List ByteArray) (w : World) (hr0 : Kd.C Kd.string w A0 l.length l) (hc0 : l.length ≤ c0) (hm : Plain.least l ≤ 1099511627776) (hv : Vars w) :
    Calls Tryd.prog 8 #[.slice A0 l.length c0] w fun e w' => e = .returned (.tuple #[.string (Plain.answer l).1, .bool (Plain.answer l).2]) ∧ Below w.heap.size w w' := by
  have HR := Lib.hid hr0; clear hr0
  have HM := Lib.hid hm; clear hm
  have HV := Lib.hid hv; clear hv
  have hlen : l.length ≤ 1099511627776 := by have := Plain.length_least l; have := HM.out; omega
  go_enter Tryd.func8, Tryd.ntmps8
  go_wp2
  go_loopw [5, 13] (fun n i wr => ∃ k : Nat, k ≤ l.length ∧ i = .int .i64 k ∧ n = .int .i64 (Plain.jour (l.take k)).2 ∧ Aside0 (Held w l k wr)) (fun _ i _ => l.length - (intOf i).toNat)
  case atStart =>
    refine ⟨0, Nat.zero_le _, rfl, rfl, ⟨?_, below_alloc (Below.refl _ _) _, fun i h hk => absurd hk (by omega)⟩⟩
    refine .inl ⟨Nat.le_refl _, .slice none 0 0, heap_alloc_new w _, World.ownsRowF_nil _ _ _ _, by simp [Value.ownBlock]⟩
  case round =>
    obtain ⟨k, hk, rfl, rfl, HH⟩ := hrel
    obtain ⟨hr0, hr1⟩ := Plain.jour_range (l.take k)
    have hsb : (Plain.jour (l.take k)).1.size ≤ 109951162777600 := by
      have := (Plain.jour_size l).2
      have := Plain.jour_mono l k
      have := HM.out
      omega
    have hcl : (Lib.strCells (Plain.jour (l.take k)).1).length = (Plain.jour (l.take k)).1.size := Lib.strCells_length _
    have HCL := Lib.hid hcl; clear hcl
    by_cases hlt : k < l.length
    · obtain ⟨ad, rfl, hcell⟩ := lines_cell HR.out HH.out.bel k hlt
      have hsz : l[k].size ≤ 1099511627776 := by
        have h1 := Plain.least_take_le l (k + 1)
        rw [List.take_succ_eq_append_getElem hlt, Plain.least_append] at h1
        simp only [Plain.least] at h1
        have := HM.out
        omega
      have Hjt := Lib.hid (Plain.jour_take l k hlt)
      have Hcon := Lib.hid (fun W => contains_calls l[k] W)
      cases hnl : Plain.nl l[k] with
      | true =>
        have HA := Lib.hid (Plain.answer_nl l l[k] (List.getElem_mem _) hnl)
        rw [hnl] at Hcon
        clear hnl
        go_wp2_with fail
        refine (Hcon.out _).mono ?_
        rintro e w1 ⟨rfl, rfl⟩
        go_wp2
        go_ret2
        refine ⟨?_, HH.out.bel⟩
        rw [HA.out]
        rfl
      | false =>
        rw [hnl] at Hcon
        have Hnl := Lib.hid hnl
        clear hnl
        go_wp2_with fail
        refine (Hcon.out _).mono ?_
        rintro e w1 ⟨rfl, rfl⟩
        go_wp2_with fail
        refine (len_calls _ _ _ _ HH.out.built).mono ?_
        rintro e w1 ⟨rfl, rfl⟩
        rw [HCL.out]
        by_cases hbig : 16000 < (Plain.jour (l.take k)).1.size + l[k].size
        · have HA := Lib.hid (Plain.answer_long l (by have := Plain.jour_mono l k; have := drop_least l k hlt; omega))
          go_wp2
          go_ret2
          refine ⟨?_, HH.out.bel⟩
          rw [HA.out]
          rfl
        · go_wp2_with fail
          refine (journalLine_calls _ l[k] hr0 hr1 hsz _ (HV.out.below HH.out.bel (Nat.le_refl _))).mono ?_
          rintro e w1 ⟨rfl, hb1⟩
          have hq := Plain.chk_range l[k].data.toList _ hr0 hr1
          have hjb := Plain.jline_bounds (Plain.chk (Plain.jour (List.take k l)).2 l[k].data.toList) l[k] hq.1 hq.2
          have Hbu := Lib.hid (builder_below HH.out.built hb1)
          have Hbe := Lib.hid (below_then HH.out.bel HH.out.bel.size hb1)
          generalize hn' : Plain.chk (Plain.jour (List.take k l)).2 l[k].data.toList = n' at *
          have Hn := Lib.hid hn'; clear hn' hb1 hq
          generalize hj : Plain.jline n' l[k] = jl at *
          have Hj := Lib.hid hj; clear hj
          go_wp2_with fail
          refine (write_any _ _ _ jl _ Hbu.out (by rw [HCL.out]; omega) Hbe.out.size).mono ?_
          rintro e w2 ⟨rfl, hu, hb2⟩
          have HH2 : Aside0 (Held w l (k + 1) w2) := ⟨by
            refine ⟨?_, Hbe.out.trans hb2, fun i h hi => ?_⟩
            · rw [Hjt.out]
              unfold Plain.step
              rw [Hn.out, Hj.out, strCells_append]
              exact hu
            · by_cases e : i = k
              · subst e; exact Hnl.out
              · exact HH.out.good i h (by omega)⟩
          clear hu hb2 hjb hsb
          go_wp2
          go_roundw
          case rel =>
            refine ⟨k + 1, by omega, by go_num, ?_, HH2⟩
            rw [Hjt.out]; unfold Plain.step; rw [Hn.out]
          case measure => simp [intOf]; omega
    · have hkl : k = l.length := by omega
      subst hkl
      have hn : ∀ s ∈ l, Plain.nl s = false := by
        intro s hs
        obtain ⟨i, hi, rfl⟩ := List.getElem_of_mem hs
        exact HH.out.good i hi hi
      have HN := Lib.hid hn; clear hn
      have hT : List.take l.length l = l := List.take_length
      have Hbu := Lib.hid HH.out.built
      rw [hT] at hsb Hbu HCL
      clear hT hr0 hr1
      go_wp2_with fail
      refine (len_calls _ _ _ _ Hbu.out).mono ?_
      rintro e w1 ⟨rfl, rfl⟩
      rw [HCL.out]
      by_cases hbig : 16000 < (Plain.jour l).1.size
      · have HA := Lib.hid (Plain.answer_long l hbig)
        go_wp2
        go_ret2
        refine ⟨?_, HH.out.bel⟩
        rw [HA.out]
        rfl
      · have HA := Lib.hid (Plain.answer_good l HN.out hbig)
        have Hst := Lib.hid (Tryd.Builder_String_any_f w.heap.size w.heap.size (Plain.jour l).1.data.toList _ Hbu.out HH.out.bel.size)
        go_wp2_with fail
        refine (Hst.out).mono ?_
        rintro e w1 ⟨rfl, hu, hb2⟩
        have HB := Lib.hid (HH.out.bel.trans hb2)
        clear hu hb2
        go_wp2
        go_ret2
        refine ⟨?_, HB.out⟩
        rw [HA.out]
        rfl
end Go.Proofs.YthjahljlijcbmaaDoor
