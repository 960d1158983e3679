/- The program's readers of lists of numbers, walked: they return what the reference's return, for every text of at most 2^20 bytes, where the library's variables hold what they are laid with. -/
import Derived.Test.YticfmlohkfoccaaGreatDoorH8
set_option linter.unusedVariables false
set_option linter.unusedSimpArgs false
namespace Go.Proofs.YticfmlohkfoccaaGreatDoor
open Go.RowKit Go.Proofs.YticfmlohkfoccaaGreatDoorW.PrintWords

theorem cutAll_piece (m : UInt8) (l : List UInt8) : ∀ p ∈ Plain.cutAll m l, p.length ≤ l.length := by
  induction l with
  | nil => intro p hp; simp [Plain.cutAll] at hp; simp [hp]
  | cons b l ih =>
    intro p hp
    by_cases h : b = m
    · subst h
      rw [Plain.cutAll_mark, List.mem_cons] at hp
      rcases hp with rfl | hp
      · simp
      · have := ih p hp; simp; omega
    · rw [Plain.cutAll_other m b l h] at hp
      cases hc : Plain.cutAll m l with
      | nil => exact absurd hc (Plain.cutAll_ne m l)
      | cons x r =>
        rw [hc] at hp ih
        simp only [Plain.glue, List.mem_cons] at hp
        rcases hp with rfl | hp
        · have := ih x (by simp); simp; omega
        · have := ih p (by simp [hp]); simp; omega
/-- What SplitN gives. -/
theorem splitN_pieces (s : ByteArray) (m : UInt8) (q : Nat) (hq : 1 ≤ q) : (Lib.splitB ⟨#[m]⟩ 0 (min q (s.size + 1) - 1) s).length = min q (Plain.cutAll m s.data.toList).length ∧
    (Lib.splitB ⟨#[m]⟩ 0 (min q (s.size + 1) - 1) s).length ≤ min q (s.size + 1) ∧ ((Plain.cutAll m s.data.toList).length ≤ q → (Lib.splitB ⟨#[m]⟩ 0 (min q (s.size + 1) - 1) s).map (·.data.toList) = Plain.cutAll m s.data.toList) := by
  have hl := Plain.cutAll_length m s.data.toList
  have hsd : s.data.toList.length = s.size := by simp
  have h1 := Lib.splitB_data ⟨#[m]⟩ 0 (min q (s.size + 1) - 1) s
  have e : (⟨#[m]⟩ : ByteArray).data.toList = [m] := rfl
  rw [e] at h1
  have h2 := congrArg List.length h1
  rw [List.length_map, Plain.splitK_length] at h2
  refine ⟨by rw [h2]; omega, by rw [h2]; omega, ?_⟩
  · intro h
    rw [h1, Plain.splitK_cutAll]
    omega
theorem cellsOf_get (L : List ByteArray) (N j : Nat) (h : j < L.length) : (Lib.cellsOf L N)[j]? = some (.string L[j]) := by
  unfold Lib.cellsOf
  rw [List.getElem?_toArray, List.getElem?_append_left (by simpa using h), List.getElem?_map, List.getElem?_eq_getElem h]
  rfl
theorem Walk.begin {α : Type} {d : Kd α} {e : Nat} {w W : World} {v : Value} {o : List α} (hv : Kd.R d e W w.heap.size (fun _ => True) v o) (hb : Below w.heap.size w W) (L : List ByteArray) (N : Nat) :
    Walk d e w (some ⟨W.heap.size, 0, none⟩) W.heap.size L v o (W.alloc (.cells (Lib.cellsOf L N) 9)) := by
  refine ⟨Kd.R_below (Kd.R_mono (Kd.R_bound hv) (fun k hk => ?_)) ((Below.refl _ _).alloc (Nat.le_refl _) _), hb.alloc hb.size _, ⟨fun j hj => ⟨_, rfl, rfl, ?_⟩⟩, by simp⟩
  · have := hk.2.2.1
    omega
  · rw [Lib.add_plain, Lib.cell_of_heap (heap_alloc_new W _), Nat.zero_add]
    exact cellsOf_get L N j hj

set_option maxHeartbeats 1000000 in
set_option maxRecDepth 100000 in
theorem readC_calls (s : ByteArray) (hs : s.size ≤ 1048576) (w : World) (hv : Vars w) : Calls Tryz.prog 76 #[.string s] w fun e w' => (∃ x : Nat × Nat, e = .returned (.tuple #[.complex .f32 x.1 x.2, .bool (readC s.data.toList).isSome]) ∧ (∀ y, readC s.data.toList = some y → x = y)) ∧ Below w.heap.size w w' := by
  have HV := Lib.hid hv; clear hv
  by_cases h16 : s.size = 16
  · obtain ⟨ha1, ha2⟩ := sub8a s h16
    obtain ⟨hb1, hb2⟩ := sub8b s h16
    have HD1 := Lib.hid (fun W hW => fromHex_calls (s.extract 0 8) (by omega) W hW)
    have HD2 := Lib.hid (fun W hW => fromHex_calls (s.extract 8 16) (by omega) W hW)
    rw [ha1] at HD1
    rw [hb1] at HD2
    have HC : Hid (readC s.data.toList = match num8 (s.data.toList.take 8) with
      | some a => match num8 (s.data.toList.drop 8) with
        | some b => some (a, b)
        | none => none
      | none => none) := Lib.hid (by unfold readC; rw [if_pos (by simpa using h16)]; rfl)
    have h16' : ((s.size : Int) != 16) = false := by simp [h16]
    have hx1 := eq_true (show (8 : Nat) ≤ s.size from by omega)
    clear ha1 ha2 hb1 hb2
    generalize num8 (s.data.toList.take 8) = n1 at *
    generalize num8 (s.data.toList.drop 8) = n2 at *
    go_enter Tryz.func76, Tryz.ntmps76
    go_wp2_with fail
    refine (HD1.out _ HV.out).mono ?_
    rintro e W1 ⟨⟨x1, hx1, rfl, hxv1⟩, hb⟩
    have HB1 := Lib.hid hb; clear hb HD1
    go_wp2_with fail
    refine (HD2.out _ (HV.out.step HB1.out)).mono ?_
    rintro e W2 ⟨⟨x2, hx2, rfl, hxv2⟩, hb⟩
    have HB2 := Lib.hid (below_then HB1.out HB1.out.size hb); clear hb HD2 HB1
    have HX1 := Lib.hid hxv1; clear hxv1
    have HX2 := Lib.hid hxv2; clear hxv2
    cases n1 with
    | none =>
      go_wp2
      go_ret2
      exact ⟨⟨(x1, x2), by rw [HC.out]; rfl, fun y hy => by rw [HC.out] at hy; cases hy⟩, HB2.out⟩
    | some a1 =>
      cases n2 with
      | none =>
        go_wp2
        go_ret2
        exact ⟨⟨(x1, x2), by rw [HC.out]; rfl, fun y hy => by rw [HC.out] at hy; cases hy⟩, HB2.out⟩
      | some a2 =>
        go_wp2
        go_ret2
        refine ⟨⟨(x1, x2), by rw [HC.out]; rfl, fun y hy => ?_⟩, HB2.out⟩
        rw [HC.out] at hy
        injection hy with hy
        rw [← hy, HX1.out a1 rfl, HX2.out a2 rfl]
  · have HC : Hid (readC s.data.toList = none) := Lib.hid (by unfold readC; rw [if_neg (by simpa using h16)])
    have h16' : ((s.size : Int) != 16) = true := by simp; omega
    go_enter Tryz.func76, Tryz.ntmps76
    go_wp2
    go_ret2
    exact ⟨⟨(0, 0), by rw [HC.out]; rfl, fun y hy => by rw [HC.out] at hy; cases hy⟩, Below.refl _ _⟩

set_option maxHeartbeats 1000000 in
set_option maxRecDepth 100000 in
theorem listC_calls (s : ByteArray) (hs : s.size ≤ 1048576) (w : World) (hv : Vars w) : Calls Tryz.prog 75 #[.string s, .string ⟨#[44]⟩, .int .i64 256, .func (.func 76) #[] #[]] w fun e w' => Gives kC 28 (Plain.readList readC s.data.toList) w e w' := by
  have HV := Lib.hid hv; clear hv
  obtain ⟨hp1, hp3, hp2⟩ := splitN_pieces s 44 257 (by decide)
  have HS := Lib.hid (fun W m hm => Tryz.strings_SplitN s ⟨#[44]⟩ 257 m W (by omega) hm (by decide) (by decide) (by decide))
  have hnz := Plain.cutAll_ne 44 s.data.toList
  have hpc := cutAll_piece 44 s.data.toList
  have htb := tail_beq s
  have hsd : s.data.toList.length = s.size := by simp
  by_cases hn4 : s.data.toList = Plain.none4
  · have HA : Hid (Plain.readList readC s.data.toList = some []) := Lib.hid (by unfold Plain.readList; rw [if_pos hn4])
    rw [decide_eq_true hn4] at htb
    clear hn4
    go_enter Tryz.func75, Tryz.ntmps75
    go_wp2_with (first | ((with_reducible refine gate_dst (N := 16) rfl ?_); refine Kd.R_lit kC w.heap.size 28 ?hg (N := 16) ?hd (xs := ([] : List (Nat × Nat))) (inner := []) (ok := fun _ => True) (okp := fun _ => True) ?hr ?hp (fun _ hk => hk) trivial (Below.refl w.heap.size w) (Nat.le_refl _) (by simp) ?_; (case hd => rfl); (case hg => rfl); (case hr => first | (go_simp; done) | (go_simp; rfl)); (case hp => exact (Reps.none _ _)); intro v2 w2 ho2 hb2 hg2 hnew2; clear hg2 hnew2))
    go_ret2
    exact ⟨v2, by rw [HA.out]; rfl, by rw [HA.out]; exact ⟨ho2, hb2⟩⟩
  · have HA : Hid (Plain.readList readC s.data.toList = if 256 < (Plain.cutAll 44 s.data.toList).length then none else Plain.readAll readC (Plain.cutAll 44 s.data.toList)) := Lib.hid (by unfold Plain.readList; rw [if_neg hn4])
    rw [decide_eq_false hn4] at htb
    clear hn4
    generalize Plain.cutAll 44 s.data.toList = P at *
    generalize hLL : Lib.splitB ⟨#[44]⟩ 0 (min 257 (s.size + 1) - 1) s = L at *
    generalize hNN : min 257 (s.size + 1) = N at *
    clear hLL
    have HP := Lib.hid hp2; clear hp2
    have HPC := Lib.hid hpc; clear hpc
    go_enter Tryz.func75, Tryz.ntmps75
    go_wp2_with (first | ((with_reducible refine gate_dst (N := 16) rfl ?_); refine Kd.R_lit kC w.heap.size 28 ?hg (N := 16) ?hd (xs := ([] : List (Nat × Nat))) (inner := []) (ok := fun _ => True) (okp := fun _ => True) ?hr ?hp (fun _ hk => hk) trivial (Below.refl w.heap.size w) (Nat.le_refl _) (by simp) ?_; (case hd => rfl); (case hg => rfl); (case hr => first | (go_simp; done) | (go_simp; rfl)); (case hp => exact (Reps.none _ _)); intro v2 w2 ho2 hb2 hg2 hnew2; clear hg2 hnew2))
    obtain ⟨mm, hmm⟩ := (HV.out.step hb2).1
    refine (HS.out w2 mm hmm).mono ?_
    rintro e w1 ⟨rfl, rfl⟩
    have HW := Aside0.mk (Walk.begin ho2 hb2 L N)
    clear ho2 hb2 hmm HS
    generalize hpb : w2.heap.size = pb at *
    clear hpb
    generalize w2.alloc (.cells (Lib.cellsOf L N) 9) = w1 at *
    have hN : N ≤ 257 := by omega
    by_cases hbig : 256 < L.length
    · have HN : Hid (Plain.readList readC s.data.toList = none) := Lib.hid (by rw [HA.out, if_pos (by omega)])
      have hb2 : decide ((256 : Int) < (L.length : Int)) = true := decide_eq_true (by omega)
      go_wp2_with fail
      go_ret2
      exact ⟨.slice none 0 0, by rw [HN.out]; rfl, by rw [HN.out]; exact ⟨Kd.R_nil _ _ _ _ _, HW.out.bel⟩⟩
    · have hPL : L.length = P.length := by omega
      have HN : Hid (Plain.readList readC s.data.toList = Plain.readAll readC P) := Lib.hid (by rw [HA.out, if_neg (by omega)])
      have HM : Hid (L.map (·.data.toList) = P) := Lib.hid (HP.out (by omega))
      have hb2 : decide ((256 : Int) < (L.length : Int)) = false := decide_eq_false (by omega)
      clear hp1 hp3
      have Hpl := Lib.hid hPL; clear hPL
      go_wp2_with fail
      go_loopw [10, 31] (fun v i wr => ∃ (k : Nat) (o : List (Nat × Nat)), i = .int .i64 k ∧ k ≤ L.length ∧ o.length = k ∧ Aside0 (Plain.readAll readC (P.take k) = some o) ∧ Aside0 (Walk kC 28 w (some ⟨pb, 0, none⟩) pb L v o wr)) (fun _ i _ => L.length - (intOf i).toNat)
      case atStart => exact ⟨0, [], rfl, by omega, rfl, ⟨rfl⟩, HW⟩
      case round =>
        clear HW
        obtain ⟨k, o, rfl, hk, hol, HR, HW⟩ := hrel
        by_cases hlt : k < L.length
        · obtain ⟨ad, hade, hab, hcell⟩ := HW.out.pcs.cells k hlt
          injection hade with hade
          subst hade
          clear hab
          rw [Lib.add_plain, Nat.zero_add] at hcell
          have hlp : k < P.length := by have := Hpl.out; omega
          have hpk : L[k].data.toList = P[k] := by
            have := HM.out
            subst this
            simp
          have hps : L[k].size ≤ 1048576 := by
            have h1 := HPC.out P[k] (List.getElem_mem _)
            rw [← hpk] at h1
            simp at h1
            omega
          have HCl := Lib.hid (fun W hW => readC_calls L[k] hps W hW)
          rw [hpk] at HCl
          clear hpk hps
          generalize hx : L[k] = x at *
          clear hx
          have hcr : ∃ r, readC P[k] = r := ⟨_, rfl⟩
          obtain ⟨r, hr⟩ := hcr
          rw [hr] at HCl
          have Hr := Lib.hid hr; clear hr
          have e24 : decide (k < L.length) = true := decide_eq_true hlt
          go_wp2_with fail
          refine (HCl.out _ (HV.out.step HW.out.bel)).mono ?_
          rintro e W5 ⟨⟨y, rfl, hyv⟩, hb⟩
          have HW5 := Aside0.mk (HW.out.more hb); clear hb HCl HW
          have HY := Lib.hid hyv; clear hyv
          cases r with
          | none =>
            have HN2 : Hid (Plain.readList readC s.data.toList = none) := Lib.hid (by rw [HN.out]; exact Plain.readAll_stop readC k hlp HR.out Hr.out)
            go_wp2_with fail
            go_ret2
            exact ⟨.slice none 0 0, by rw [HN2.out]; rfl, by rw [HN2.out]; exact ⟨Kd.R_nil _ _ _ _ _, HW5.out.bel⟩⟩
          | some y2 =>
            obtain rfl := HY.out y2 rfl
            have HR2 := Aside0.mk (Plain.readAll_next readC k hlp HR.out Hr.out)
            clear HR Hr HY
            go_wp2_with (first | ((with_reducible refine gate_builtin (b := .append) (xs := #[.tmp 43, .tmp 45]) rfl ?_); at_builtin; refine Kd.R_append kC (w0 := w) w.heap.size rfl (.tmp 43) (.tmp 45) 37 28 (.complex .f32 0 0) 8 rfl Tryz.underlying37 info28 rfl (by decide) (by omega) u10 o y [.complex .f32 y.1 y.2] (fun k => k ≠ pb) (fun _ => False) rfl rfl ?aP (fun _ hk => hk.elim) ?aF ?aO ?aB ?aS ?aL ?_; (case aP => exact rfl); (case aB => exact HW5.out.bel); (case aF => exact (fun k hk => by have := HW5.out.lt; omega)); (case aO => exact HW5.out.row); (case aS => exact HW5.out.bel.size); (case aL => omega); intro v5 w5 ho5 hb5 hg5 hat5; have HW6 : Aside0 (Walk kC 28 w (some ⟨pb, 0, none⟩) pb L v5 (o ++ [y]) w5) := ⟨HW5.out.next ho5 hb5 hg5⟩; clear ho5 hb5 hg5 hat5))
            go_roundw
            case rel => exact ⟨k + 1, o ++ [y], by go_num, by omega, by simp; omega, HR2, HW6⟩
            case measure => simp [intOf]; omega
        · have hr := HR.out
          rw [List.take_of_length_le (by have := Hpl.out; omega)] at hr
          have HN2 := Lib.hid (HN.out.trans hr)
          clear hr
          go_wp2_with fail
          go_ret2
          exact ⟨_, by rw [HN2.out]; rfl, by rw [HN2.out]; exact HW.out.out⟩
theorem readF_calls (s : ByteArray) (hs : s.size ≤ 1048576) (w : World) (hv : Vars w) : Calls Tryz.prog 77 #[.string s] w fun e w' => (∃ x : Nat, e = .returned (.tuple #[.float .f32 x, .bool (num8 s.data.toList).isSome]) ∧ (∀ y, num8 s.data.toList = some y → x = y)) ∧ Below w.heap.size w w' := by
  refine (fromHex_calls s (by omega) w hv).mono ?_
  rintro e w1 ⟨⟨x, _, rfl, h⟩, hb⟩
  exact ⟨⟨x, rfl, h⟩, hb⟩

set_option maxHeartbeats 1000000 in
set_option maxRecDepth 100000 in
theorem listF_calls (s : ByteArray) (hs : s.size ≤ 1048576) (w : World) (hv : Vars w) : Calls Tryz.prog 94 #[.string s, .string ⟨#[44]⟩, .int .i64 256, .func (.func 77) #[] #[]] w fun e w' => Gives kF 29 (Plain.readList num8 s.data.toList) w e w' := by
  have HV := Lib.hid hv; clear hv
  obtain ⟨hp1, hp3, hp2⟩ := splitN_pieces s 44 257 (by decide)
  have HS := Lib.hid (fun W m hm => Tryz.strings_SplitN s ⟨#[44]⟩ 257 m W (by omega) hm (by decide) (by decide) (by decide))
  have hnz := Plain.cutAll_ne 44 s.data.toList
  have hpc := cutAll_piece 44 s.data.toList
  have htb := tail_beq s
  have hsd : s.data.toList.length = s.size := by simp
  by_cases hn4 : s.data.toList = Plain.none4
  · have HA : Hid (Plain.readList num8 s.data.toList = some []) := Lib.hid (by unfold Plain.readList; rw [if_pos hn4])
    rw [decide_eq_true hn4] at htb
    clear hn4
    go_enter Tryz.func94, Tryz.ntmps94
    go_wp2_with (first | ((with_reducible refine gate_dst (N := 16) rfl ?_); refine Kd.R_lit kF w.heap.size 29 ?hg (N := 16) ?hd (xs := ([] : List Nat)) (inner := []) (ok := fun _ => True) (okp := fun _ => True) ?hr ?hp (fun _ hk => hk) trivial (Below.refl w.heap.size w) (Nat.le_refl _) (by simp) ?_; (case hd => rfl); (case hg => rfl); (case hr => first | (go_simp; done) | (go_simp; rfl)); (case hp => exact (Reps.none _ _)); intro v2 w2 ho2 hb2 hg2 hnew2; clear hg2 hnew2))
    go_ret2
    exact ⟨v2, by rw [HA.out]; rfl, by rw [HA.out]; exact ⟨ho2, hb2⟩⟩
  · have HA : Hid (Plain.readList num8 s.data.toList = if 256 < (Plain.cutAll 44 s.data.toList).length then none else Plain.readAll num8 (Plain.cutAll 44 s.data.toList)) := Lib.hid (by unfold Plain.readList; rw [if_neg hn4])
    rw [decide_eq_false hn4] at htb
    clear hn4
    generalize Plain.cutAll 44 s.data.toList = P at *
    generalize hLL : Lib.splitB ⟨#[44]⟩ 0 (min 257 (s.size + 1) - 1) s = L at *
    generalize hNN : min 257 (s.size + 1) = N at *
    clear hLL
    have HP := Lib.hid hp2; clear hp2
    have HPC := Lib.hid hpc; clear hpc
    go_enter Tryz.func94, Tryz.ntmps94
    go_wp2_with (first | ((with_reducible refine gate_dst (N := 16) rfl ?_); refine Kd.R_lit kF w.heap.size 29 ?hg (N := 16) ?hd (xs := ([] : List Nat)) (inner := []) (ok := fun _ => True) (okp := fun _ => True) ?hr ?hp (fun _ hk => hk) trivial (Below.refl w.heap.size w) (Nat.le_refl _) (by simp) ?_; (case hd => rfl); (case hg => rfl); (case hr => first | (go_simp; done) | (go_simp; rfl)); (case hp => exact (Reps.none _ _)); intro v2 w2 ho2 hb2 hg2 hnew2; clear hg2 hnew2))
    obtain ⟨mm, hmm⟩ := (HV.out.step hb2).1
    refine (HS.out w2 mm hmm).mono ?_
    rintro e w1 ⟨rfl, rfl⟩
    have HW := Aside0.mk (Walk.begin ho2 hb2 L N)
    clear ho2 hb2 hmm HS
    generalize hpb : w2.heap.size = pb at *
    clear hpb
    generalize w2.alloc (.cells (Lib.cellsOf L N) 9) = w1 at *
    have hN : N ≤ 257 := by omega
    by_cases hbig : 256 < L.length
    · have HN : Hid (Plain.readList num8 s.data.toList = none) := Lib.hid (by rw [HA.out, if_pos (by omega)])
      have hb2 : decide ((256 : Int) < (L.length : Int)) = true := decide_eq_true (by omega)
      go_wp2_with fail
      go_ret2
      exact ⟨.slice none 0 0, by rw [HN.out]; rfl, by rw [HN.out]; exact ⟨Kd.R_nil _ _ _ _ _, HW.out.bel⟩⟩
    · have hPL : L.length = P.length := by omega
      have HN : Hid (Plain.readList num8 s.data.toList = Plain.readAll num8 P) := Lib.hid (by rw [HA.out, if_neg (by omega)])
      have HM : Hid (L.map (·.data.toList) = P) := Lib.hid (HP.out (by omega))
      have hb2 : decide ((256 : Int) < (L.length : Int)) = false := decide_eq_false (by omega)
      clear hp1 hp3
      have Hpl := Lib.hid hPL; clear hPL
      go_wp2_with fail
      go_loopw [10, 31] (fun v i wr => ∃ (k : Nat) (o : List Nat), i = .int .i64 k ∧ k ≤ L.length ∧ o.length = k ∧ Aside0 (Plain.readAll num8 (P.take k) = some o) ∧ Aside0 (Walk kF 29 w (some ⟨pb, 0, none⟩) pb L v o wr)) (fun _ i _ => L.length - (intOf i).toNat)
      case atStart => exact ⟨0, [], rfl, by omega, rfl, ⟨rfl⟩, HW⟩
      case round =>
        clear HW
        obtain ⟨k, o, rfl, hk, hol, HR, HW⟩ := hrel
        by_cases hlt : k < L.length
        · obtain ⟨ad, hade, hab, hcell⟩ := HW.out.pcs.cells k hlt
          injection hade with hade
          subst hade
          clear hab
          rw [Lib.add_plain, Nat.zero_add] at hcell
          have hlp : k < P.length := by have := Hpl.out; omega
          have hpk : L[k].data.toList = P[k] := by
            have := HM.out
            subst this
            simp
          have hps : L[k].size ≤ 1048576 := by
            have h1 := HPC.out P[k] (List.getElem_mem _)
            rw [← hpk] at h1
            simp at h1
            omega
          have HCl := Lib.hid (fun W hW => readF_calls L[k] hps W hW)
          rw [hpk] at HCl
          clear hpk hps
          generalize hx : L[k] = x at *
          clear hx
          have hcr : ∃ r, num8 P[k] = r := ⟨_, rfl⟩
          obtain ⟨r, hr⟩ := hcr
          rw [hr] at HCl
          have Hr := Lib.hid hr; clear hr
          have e24 : decide (k < L.length) = true := decide_eq_true hlt
          go_wp2_with fail
          refine (HCl.out _ (HV.out.step HW.out.bel)).mono ?_
          rintro e W5 ⟨⟨y, rfl, hyv⟩, hb⟩
          have HW5 := Aside0.mk (HW.out.more hb); clear hb HCl HW
          have HY := Lib.hid hyv; clear hyv
          cases r with
          | none =>
            have HN2 : Hid (Plain.readList num8 s.data.toList = none) := Lib.hid (by rw [HN.out]; exact Plain.readAll_stop num8 k hlp HR.out Hr.out)
            go_wp2_with fail
            go_ret2
            exact ⟨.slice none 0 0, by rw [HN2.out]; rfl, by rw [HN2.out]; exact ⟨Kd.R_nil _ _ _ _ _, HW5.out.bel⟩⟩
          | some y2 =>
            obtain rfl := HY.out y2 rfl
            have HR2 := Aside0.mk (Plain.readAll_next num8 k hlp HR.out Hr.out)
            clear HR Hr HY
            go_wp2_with (first | ((with_reducible refine gate_builtin (b := .append) (xs := #[.tmp 43, .tmp 45]) rfl ?_); at_builtin; refine Kd.R_append kF (w0 := w) w.heap.size rfl (.tmp 43) (.tmp 45) 63 29 (.float .f32 0) 4 rfl Tryz.underlying63 info29 rfl (by decide) (by omega) u10 o y [.float .f32 y] (fun k => k ≠ pb) (fun _ => False) rfl rfl ?aP (fun _ hk => hk.elim) ?aF ?aO ?aB ?aS ?aL ?_; (case aP => exact rfl); (case aB => exact HW5.out.bel); (case aF => exact (fun k hk => by have := HW5.out.lt; omega)); (case aO => exact HW5.out.row); (case aS => exact HW5.out.bel.size); (case aL => omega); intro v5 w5 ho5 hb5 hg5 hat5; have HW6 : Aside0 (Walk kF 29 w (some ⟨pb, 0, none⟩) pb L v5 (o ++ [y]) w5) := ⟨HW5.out.next ho5 hb5 hg5⟩; clear ho5 hb5 hg5 hat5))
            go_roundw
            case rel => exact ⟨k + 1, o ++ [y], by go_num, by omega, by simp; omega, HR2, HW6⟩
            case measure => simp [intOf]; omega
        · have hr := HR.out
          rw [List.take_of_length_le (by have := Hpl.out; omega)] at hr
          have HN2 := Lib.hid (HN.out.trans hr)
          clear hr
          go_wp2_with fail
          go_ret2
          exact ⟨_, by rw [HN2.out]; rfl, by rw [HN2.out]; exact HW.out.out⟩
theorem ReadComplex_calls (s : ByteArray) (hs : s.size ≤ 1048576) (w : World) (hv : Vars w) : Calls Tryz.prog 29 #[.string s] w fun e w' => Gives kC 28 (Plain.readList readC s.data.toList) w e w' := by
  have HC := Lib.hid (listC_calls s hs w hv)
  go_enter Tryz.func29, Tryz.ntmps29
  go_wp2_with fail
  refine HC.out.mono ?_
  rintro e w1 ⟨v, rfl, ho⟩
  have HO := Lib.hid ho; clear ho
  go_wp2
  go_ret2
  exact ⟨v, rfl, HO.out⟩
theorem ReadNumbers_calls (s : ByteArray) (hs : s.size ≤ 1048576) (w : World) (hv : Vars w) : Calls Tryz.prog 43 #[.string s] w fun e w' => Gives kF 29 (Plain.readList num8 s.data.toList) w e w' := by
  have HC := Lib.hid (listF_calls s hs w hv)
  go_enter Tryz.func43, Tryz.ntmps43
  go_wp2_with fail
  refine HC.out.mono ?_
  rintro e w1 ⟨v, rfl, ho⟩
  have HO := Lib.hid ho; clear ho
  go_wp2
  go_ret2
  exact ⟨v, rfl, HO.out⟩
end Go.Proofs.YticfmlohkfoccaaGreatDoor
