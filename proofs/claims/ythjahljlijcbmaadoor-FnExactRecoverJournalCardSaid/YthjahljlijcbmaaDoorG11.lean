/- The program's recovered and RecoverJournal, and the reference's RecoverJournal, walked: both return what Plain.recov finds in the lines of a text, for every text (the longer ones fail), where the library's table and its one variable hold what they are laid with. -/
import Derived.Test.YthjahljlijcbmaaDoorG5
import Derived.Test.YthjahljlijcbmaaDoorG10
set_option linter.unusedVariables false
set_option linter.unusedSimpArgs false
namespace Go.Proofs.YthjahljlijcbmaaDoor
open Go.RowKit Go.Proofs.YthjahljlijcbmaaDoorW.PrintWords

theorem cut_calls (s : ByteArray) (m : UInt8) (hs : s.size ≤ 1048576) (w : World) (hv : Vars w) :
    Calls Tryd.prog 30 #[.string s, .string ⟨#[m]⟩] w fun e w' => e = .returned (.tuple #[.string (mk (Lib.cut s.data.toList [m]).1), .string (mk (Lib.cut s.data.toList [m]).2.1), .bool (Lib.cut s.data.toList [m]).2.2]) ∧ Drawn0 w w' := by
  obtain ⟨c, hc⟩ := hv.1
  refine (Tryd.strings_Cut s ⟨#[m]⟩ c w (by omega) hc).mono ?_
  rintro e w' ⟨rfl, n, rfl⟩
  exact ⟨rfl, ⟨⟨n, rfl⟩⟩⟩
theorem prefix_calls (s p : ByteArray) (w : World) : Calls Tryd.prog 31 #[.string s, .string p] w fun e w' => e = .returned (.bool (Lib.hasPrefix s.data.toList p.data.toList)) ∧ w = w' := by
  refine (Tryd.strings_HasPrefix s p w).mono ?_
  rintro e w' ⟨rfl, rfl⟩
  exact ⟨rfl, rfl⟩
theorem jline_data (c : Int) (s : ByteArray) : (Plain.jline c s).data.toList = Lib.itoa c ++ 32 :: s.data.toList ++ [10] := by
  unfold Plain.jline Plain.dec
  simp [ByteArray.data_append, Array.toList_append]

/-- What is still to come behind place p of the text. -/
def Rest (l : List UInt8) (full : List (List UInt8) × Nat) (p : Nat) (n : Int) (o : List ByteArray) : Prop :=
  full.1.map mk = o ++ (Plain.recov n (Plain.lns (l.drop p))).1.map mk ∧ full.2 = p + (Plain.recov n (Plain.lns (l.drop p))).2
theorem Rest.stop {l : List UInt8} {full : List (List UInt8) × Nat} {p : Nat} {n : Int} {o : List ByteArray} (h : Rest l full p n o) (hr : Plain.recov n (Plain.lns (l.drop p)) = ([], 0)) : full.1.map mk = o ∧ full.2 = p := by
  obtain ⟨h1, h2⟩ := h
  rw [hr] at h1 h2
  simpa using And.intro h1 h2
theorem Rest.next {l : List UInt8} {full : List (List UInt8) × Nat} {p : Nat} {n n' : Int} {o : List ByteArray} {q : List UInt8} {m : Nat} (h : Rest l full p n o)
    (hr : Plain.recov n (Plain.lns (l.drop p)) = (q :: (Plain.recov n' (Plain.lns ((l.drop p).drop m))).1, (Plain.recov n' (Plain.lns ((l.drop p).drop m))).2 + m)) : Rest l full (p + m) n' (o ++ [mk q]) := by
  obtain ⟨h1, h2⟩ := h
  rw [hr, List.drop_drop] at h1 h2
  exact ⟨by rw [h1]; simp, by rw [h2]; omega⟩

set_option maxHeartbeats 4000000 in
set_option maxRecDepth 100000 in
theorem recovered_calls (s : ByteArray) (hs : s.size ≤ 1048576) (w : World) (hv : Vars w) :
    Calls Tryd.prog 21 #[.string s] w fun e w' => ∃ v, e = .returned (.tuple #[v, .int .i64 (Plain.recov 0 (Plain.lns s.data.toList)).2]) ∧ Out w v ((Plain.recov 0 (Plain.lns s.data.toList)).1.map mk) w' := by
  have hT0 : Rest s.data.toList (Plain.recov 0 (Plain.lns s.data.toList)) 0 0 [] := by unfold Rest; simp
  generalize Plain.recov 0 (Plain.lns s.data.toList) = full at *
  have HT0 := Lib.hid hT0; clear hT0
  have HV := Lib.hid hv; clear hv
  go_enter Tryd.func21, Tryd.ntmps21
  go_wp2_with (first | ((with_reducible refine gate_dst (N := 12) rfl ?_); refine Kd.R_lit Kd.string w.heap.size 9 ?hg (N := 12) ?hd (xs := ([] : List ByteArray)) (inner := []) (ok := fun _ => True) (okp := fun _ => True) ?hr ?hp (fun _ hk => hk) trivial (Below.refl w.heap.size w) (Nat.le_refl _) (by simp) ?_; (case hd => rfl); (case hg => rfl); (case hr => first | (go_simp; done) | (go_simp; rfl)); (case hp => exact (Reps.none _ _)); intro v2 w2 ho2 hb2 hg2 hnew2; clear hg2 hnew2))
  have HO : Aside0 (Out w v2 [] w2) := ⟨⟨ho2, hb2⟩⟩
  clear ho2 hb2
  go_loopw [4, 5, 6] (fun v p n wr => ∃ (q : Nat) (cn : Int) (o : List ByteArray), q ≤ s.size ∧ p = .int .i64 q ∧ n = .int .i64 cn ∧ 0 ≤ cn ∧ cn < 65003 ∧ o.length ≤ q ∧ Aside0 (Out w v o wr) ∧ Aside0 (Rest s.data.toList full q cn o)) (fun _ p _ _ => s.size - (intOf p).toNat)
  case atStart => exact ⟨0, 0, [], Nat.zero_le _, rfl, rfl, by omega, by omega, by simp, HO, ⟨HT0.out⟩⟩
  case round =>
    clear HO HT0
    obtain ⟨q, cn, o, hq, rfl, rfl, hcn0, hcn1, hol, HO, HT⟩ := hrel
    have hu : (s.extract q s.size).data.toList = s.data.toList.drop q := by rw [Lib.extract_data, List.take_of_length_le (by simp)]
    have hus : (s.extract q s.size).size ≤ 1048576 := by rw [ByteArray.size_extract]; omega
    obtain ⟨x, y, en, hcut⟩ : ∃ x y en, Lib.cut (s.data.toList.drop q) [10] = (x, y, en) := ⟨_, _, _, rfl⟩
    have HC1 := Lib.hid (cut_calls (s.extract q s.size) 10 hus)
    rw [hu, hcut] at HC1
    have hxs : (mk x).size ≤ 1048576 := by
      have hle : x.length ≤ (s.data.toList.drop q).length := by
        cases en with
        | true => rw [(Plain.cut_found 10 _ x y hcut).1]; simp
        | false => rw [(Plain.cut_none 10 _ x y hcut).1]; exact Nat.le_refl _
      rw [mk_size]
      simp at hle
      omega
    have HC2 := Lib.hid (cut_calls (mk x) 32 hxs)
    rw [mk_data] at HC2
    have hes := Plain.stops cn hcn0 hcn1 (s.data.toList.drop q)
    rw [hcut] at hes
    have hgo := fun (he : en = true) => Plain.goes_on cn hcn0 hcn1 (s.data.toList.drop q) x y (by rw [hcut, he])
    have hqs : (mk (Lib.cut x [32]).2.1).size ≤ 1048576 := by
      have hle : (Lib.cut x [32]).2.1.length ≤ x.length := by
        rcases hcc : Lib.cut x [32] with ⟨p2, q2, b2⟩
        cases b2 with
        | true => rw [(Plain.cut_found 32 _ p2 q2 hcc).1]; simp; omega
        | false => rw [(Plain.cut_none 32 _ p2 q2 hcc).2.1]; simp
      rw [mk_size] at hxs ⊢
      omega
    have hJ := fun W => journalLine_calls cn (mk (Lib.cut x [32]).2.1) hcn0 hcn1 (by omega) W
    have hnx : (Plain.jline (Plain.chk cn (mk (Lib.cut x [32]).2.1).data.toList) (mk (Lib.cut x [32]).2.1)).data.toList = Plain.anew cn x := by
      rw [jline_data, mk_data]; rfl
    have hck := Plain.chk_range (mk (Lib.cut x [32]).2.1).data.toList cn hcn0 hcn1
    have hjb := Plain.jline_bounds (Plain.chk cn (mk (Lib.cut x [32]).2.1).data.toList) (mk (Lib.cut x [32]).2.1) hck.1 hck.2
    rw [mk_data] at hJ hnx hck hjb
    have hpre := Lib.hid (fun W => prefix_calls (s.extract q s.size) (Plain.jline (Plain.chk cn (Lib.cut x [32]).2.1) (mk (Lib.cut x [32]).2.1)) W)
    rw [hu, hnx] at hpre
    have hnsz : (Plain.jline (Plain.chk cn (Lib.cut x [32]).2.1) (mk (Lib.cut x [32]).2.1)).size = (Plain.anew cn x).length := by
      rw [← hnx, Array.length_toList]; rfl
    clear hnx hcut hu hus hxs
    generalize hqx : (Lib.cut x [32]).2.1 = qx at *
    generalize hpx : (Lib.cut x [32]).1 = px at *
    generalize hbx : (Lib.cut x [32]).2.2 = bx at *
    clear hqx hpx hbx
    generalize hck' : Plain.chk cn qx = ck at *
    clear hck'
    generalize hnx' : Plain.jline ck (mk qx) = nx at *
    clear hnx'
    obtain ⟨hck0, hck1⟩ := hck
    obtain ⟨hjb0, hjb1⟩ := hjb
    have HES := Lib.hid hes; clear hes
    have HGO := Lib.hid hgo; clear hgo
    have HJ := Lib.hid hJ; clear hJ
    have HNZ := Lib.hid hnsz; clear hnsz
    have hv1 := HV.out.below HO.out.bel (Nat.le_refl _)
    have HC1a := Lib.hid (HC1.out wr hv1); clear HC1 hv1
    go_wp2_with fail
    refine HC1a.out.mono ?_
    rintro e W1 ⟨rfl, ⟨nd, rfl⟩⟩
    have HO1 : Aside0 (Out w u4 o (wr.drewN nd)) := ⟨HO.out.drawn nd⟩
    clear HO HC1a
    generalize wr.drewN nd = W1 at *
    have HC2a := Lib.hid (HC2.out W1 (HV.out.below HO1.out.bel (Nat.le_refl _))); clear HC2
    go_wp2_with fail
    refine HC2a.out.mono ?_
    rintro e W2 ⟨rfl, ⟨nd, rfl⟩⟩
    have HO2 : Aside0 (Out w u4 o (W1.drewN nd)) := ⟨HO1.out.drawn nd⟩
    clear HO1 HC2a
    generalize W1.drewN nd = W2 at *
    have HJa := Lib.hid (HJ.out W2 (HV.out.below HO2.out.bel (Nat.le_refl _))); clear HJ
    go_wp2_with fail
    refine HJa.out.mono ?_
    rintro e W3 ⟨rfl, hb3⟩
    have HO3 : Aside0 (Out w u4 o W3) := ⟨HO2.out.more hb3⟩
    clear HO2 hb3 HJa
    cases en with
    | false =>
      have HS := Lib.hid (HT.out.stop (HES.out (by rintro ⟨h, _⟩; cases h)))
      go_wp2
      go_ret2
      exact ⟨u4, by rw [HS.out.2]; rfl, by rw [HS.out.1]; exact HO3.out⟩
    | true =>
      go_wp2_with fail
      refine (hpre.out _).mono ?_
      rintro e W4 ⟨rfl, rfl⟩
      cases hp : Lib.hasPrefix (s.data.toList.drop q) (Plain.anew cn x) with
      | false =>
        have HS := Lib.hid (HT.out.stop (HES.out (by
          rintro ⟨_, h⟩
          unfold Lib.hasPrefix at hp
          rw [List.isPrefixOf_iff_prefix.2 h] at hp
          cases hp)))
        clear hp
        go_wp2
        go_ret2
        exact ⟨u4, by rw [HS.out.2]; rfl, by rw [HS.out.1]; exact HO3.out⟩
      | true =>
        have hpf : Plain.anew cn x <+: s.data.toList.drop q := List.isPrefixOf_iff_prefix.1 hp
        have hlen : q + nx.size ≤ s.size := by
          have := hpf.length_le
          rw [HNZ.out]
          simp at this
          omega
        have HT2 : Aside0 (Rest s.data.toList full (q + nx.size) ck (o ++ [mk qx])) := ⟨by
          rw [HNZ.out]
          exact HT.out.next (HGO.out trivial hpf)⟩
        clear hp hpf
        go_wp2_with (first | ((with_reducible refine gate_builtin (b := .append) (xs := #[.tmp 45, .tmp 47]) rfl ?_); at_builtin; refine Kd.R_append Kd.string (w0 := w) w.heap.size rfl (.tmp 45) (.tmp 47) 22 9 (.string ⟨#[]⟩) 16 rfl Tryd.underlying22 PFnExactRecoverJournal.info9 rfl (by decide) (by omega) u4 o (mk qx) [.string (mk qx)] (fun _ => True) (fun _ => False) rfl rfl ?aP (fun _ hk => hk.elim) ?aF ?aO ?aB ?aS ?aL ?_; (case aP => exact rfl); (case aB => exact HO3.out.bel); (case aF => exact (fun _ _ => trivial)); (case aO => exact HO3.out.row); (case aS => exact HO3.out.bel.size); (case aL => omega); intro v5 w5 ho5 hb5 hg5 hat5; have HO5 : Aside0 (Out w v5 (o ++ [mk qx]) w5) := ⟨⟨ho5, hb5⟩⟩; clear ho5 hb5 hg5 hat5))
        go_roundw
        case rel => exact ⟨q + nx.size, ck, o ++ [mk qx], by omega, by go_num, rfl, hck0, hck1, by simp; omega, HO5, HT2⟩
        case measure => simp [intOf]; omega

/-- WHAT RecoverJournal RETURNS of a text. -/
def recAns (s : ByteArray) : List ByteArray × Nat × Bool := if 16000 < s.size then ([], 0, false) else ((Plain.recov 0 (Plain.lns s.data.toList)).1.map mk, (Plain.recov 0 (Plain.lns s.data.toList)).2, true)
theorem Out.start (w : World) : Out w (.slice none 0 0) [] w := ⟨Kd.R_nil _ _ _ _ _, Below.refl _ _⟩

set_option maxHeartbeats 2000000 in
theorem impl_Recover (s : ByteArray) (hs : s.size ≤ 1048576) (w : World) (hv : Vars w) :
    Calls Tryd.prog 11 #[.string s] w fun e w' => ∃ v, e = .returned (.tuple #[v, .int .i64 (recAns s).2.1, .bool (recAns s).2.2]) ∧ Out w v (recAns s).1 w' := by
  have HV := Lib.hid hv; clear hv
  by_cases hbig : 16000 < s.size
  · have HA : Hid (recAns s = ([], 0, false)) := Lib.hid (by unfold recAns; rw [if_pos hbig])
    go_enter Tryd.func11, Tryd.ntmps11
    go_wp2
    go_ret3
    exact ⟨.slice none 0 0, by rw [HA.out]; rfl, by rw [HA.out]; exact Out.start w⟩
  · have HA : Hid (recAns s = ((Plain.recov 0 (Plain.lns s.data.toList)).1.map mk, (Plain.recov 0 (Plain.lns s.data.toList)).2, true)) := Lib.hid (by unfold recAns; rw [if_neg hbig])
    have HC := Lib.hid (recovered_calls s hs w HV.out)
    generalize Plain.recov 0 (Plain.lns s.data.toList) = full at *
    go_enter Tryd.func11, Tryd.ntmps11
    go_wp2_with fail
    refine HC.out.mono ?_
    rintro e w1 ⟨v, rfl, ho⟩
    have HO := Lib.hid ho; clear ho HC
    go_wp2
    go_ret3
    exact ⟨v, by rw [HA.out]; rfl, by rw [HA.out]; exact HO.out⟩
set_option maxHeartbeats 2000000 in
theorem spec_Recover (s : ByteArray) (hs : s.size ≤ 1048576) (w : World) :
    Calls Tryd.prog 10 #[.string s] w fun e w' => ∃ v, e = .returned (.tuple #[v, .int .i64 (recAns s).2.1, .bool (recAns s).2.2]) ∧ Out w v (recAns s).1 w' := by
  by_cases hbig : 16000 < s.size
  · have HA : Hid (recAns s = ([], 0, false)) := Lib.hid (by unfold recAns; rw [if_pos hbig])
    go_enter Tryd.func10, Tryd.ntmps10
    go_wp2
    go_ret3
    exact ⟨.slice none 0 0, by rw [HA.out]; rfl, by rw [HA.out]; exact Out.start w⟩
  · have HA : Hid (recAns s = ((Plain.recov 0 (Plain.lns s.data.toList)).1.map mk, (Plain.recov 0 (Plain.lns s.data.toList)).2, true)) := Lib.hid (by unfold recAns; rw [if_neg hbig])
    have HC := Lib.hid (recover_calls s (by omega) w)
    generalize Plain.recov 0 (Plain.lns s.data.toList) = full at *
    go_enter Tryd.func10, Tryd.ntmps10
    go_wp2_with fail
    refine HC.out.mono ?_
    rintro e w1 ⟨v, rfl, ho⟩
    have HO := Lib.hid ho; clear ho HC
    go_wp2
    go_ret3
    exact ⟨v, by rw [HA.out]; rfl, by rw [HA.out]; exact HO.out⟩
end Go.Proofs.YthjahljlijcbmaaDoor
