/- The reference's l01NRead, walked: it returns the numbers that a text holds, for every text of at most 2^20 bytes. -/
import Derived.Test.YticfmlohkfoccaaGreatDoorH7
set_option linter.unusedVariables false
set_option linter.unusedSimpArgs false
namespace Go.Proofs.YticfmlohkfoccaaGreatDoor
open Go.RowKit Go.Proofs.YticfmlohkfoccaaGreatDoorW.PrintWords
open PFnExactReadGrain (spec_l01Cut.f spec_l01Cut.l0 spec_l01Cut.calls)

set_option maxHeartbeats 1000000 in
set_option maxRecDepth 100000 in
theorem l01NRead_calls (s : ByteArray) (hs : s.size ≤ 1048576) (w : World) : Calls Tryz.prog 112 #[.string s] w fun e w' => Gives kF 29 (Plain.readList num8 s.data.toList) w e w' := by
  have HF := Lib.hid (cutting_f s 44 (by omega))
  have hcl := Plain.cutAll_length 44 s.data.toList
  have hsd : s.data.toList.length = s.size := by simp
  have hnz := Plain.cutAll_ne 44 s.data.toList
  have htb := tail_beq s
  by_cases hn4 : s.data.toList = Plain.none4
  · have HA : Hid (Plain.readList num8 s.data.toList = some []) := Lib.hid (by unfold Plain.readList; rw [if_pos hn4])
    rw [decide_eq_true hn4] at htb
    clear hn4
    go_enter Tryz.func112, Tryz.ntmps112
    go_wp2_with (first | ((with_reducible refine gate_dst (N := 12) rfl ?_); refine Kd.R_lit kF w.heap.size 29 ?hg (N := 12) ?hd (xs := ([] : List Nat)) (inner := []) (ok := fun _ => True) (okp := fun _ => True) ?hr ?hp (fun _ hk => hk) trivial (Below.refl w.heap.size w) (Nat.le_refl _) (by simp) ?_; (case hd => rfl); (case hg => rfl); (case hr => first | (go_simp; done) | (go_simp; rfl)); (case hp => exact (Reps.none _ _)); intro v2 w2 ho2 hb2 hg2 hnew2; clear hg2 hnew2))
    go_ret2
    exact ⟨v2, by rw [HA.out]; rfl, by rw [HA.out]; exact ⟨ho2, hb2⟩⟩
  · have HA : Hid (Plain.readList num8 s.data.toList = if 256 < (Plain.cutAll 44 s.data.toList).length then none else Plain.readAll num8 (Plain.cutAll 44 s.data.toList)) := Lib.hid (by unfold Plain.readList; rw [if_neg hn4])
    rw [decide_eq_false hn4] at htb
    clear hn4
    generalize Plain.cutAll 44 s.data.toList = P at *
    have hLl : (P.map mk).length = P.length := List.length_map ..
    have hLn : P.map mk ≠ [] := by simpa using hnz
    have hLg : ∀ k (h : k < (P.map mk).length) (h' : k < P.length), (P.map mk)[k].data.toList = P[k] := fun k h h' => by simp [mk_data]
    generalize P.map mk = L at *
    have HLg := Lib.hid hLg; clear hLg
    go_enter Tryz.func112, Tryz.ntmps112
    go_wp2_with (first | ((with_reducible refine gate_dst (N := 12) rfl ?_); refine Kd.R_lit kF w.heap.size 29 ?hg (N := 12) ?hd (xs := ([] : List Nat)) (inner := []) (ok := fun _ => True) (okp := fun _ => True) ?hr ?hp (fun _ hk => hk) trivial (Below.refl w.heap.size w) (Nat.le_refl _) (by simp) ?_; (case hd => rfl); (case hg => rfl); (case hr => first | (go_simp; done) | (go_simp; rfl)); (case hp => exact (Reps.none _ _)); intro v2 w2 ho2 hb2 hg2 hnew2; clear hg2 hnew2))
    refine (spec_l01Cut.calls _ s _ L _ HF.out).mono ?_
    rintro e w1 ⟨v, rfl, hk, hb⟩
    obtain ⟨A, pb, c, rfl, hc, hw⟩ := Walk.start ho2 hb2 hk hb hLn
    have HW := Aside0.mk hw
    clear hw hk hb ho2 hb2 HF
    by_cases hbig : 256 < P.length
    · have HN : Hid (Plain.readList num8 s.data.toList = none) := Lib.hid (by rw [HA.out, if_pos hbig])
      have hb2 : decide ((256 : Int) < (L.length : Int)) = true := decide_eq_true (by omega)
      go_wp2_with fail
      go_ret2
      exact ⟨.slice none 0 0, by rw [HN.out]; rfl, by rw [HN.out]; exact ⟨Kd.R_nil _ _ _ _ _, HW.out.bel⟩⟩
    · have HN : Hid (Plain.readList num8 s.data.toList = Plain.readAll num8 P) := Lib.hid (by rw [HA.out, if_neg hbig])
      have hb2 : decide ((256 : Int) < (L.length : Int)) = false := decide_eq_false (by omega)
      go_wp2_with fail
      go_loopw [4, 6] (fun v i wr => ∃ (k : Nat) (o : List Nat), i = .int .i64 k ∧ k ≤ L.length ∧ o.length = k ∧ Aside0 (Plain.readAll num8 (P.take k) = some o) ∧ Aside0 (Walk kF 29 w A pb L v o wr)) (fun _ i _ => L.length - (intOf i).toNat)
      case atStart => exact ⟨0, [], rfl, by omega, rfl, ⟨rfl⟩, HW⟩
      case round =>
        clear HW
        obtain ⟨k, o, rfl, hk, hol, HR, HW⟩ := hrel
        by_cases hlt : k < L.length
        · obtain ⟨ad, rfl, hab, hcell⟩ := HW.out.pcs.cells k hlt
          have e24 : decide (k < P.length) = true := decide_eq_true (by omega)
          have e25 : (k < P.length) = True := eq_true (by omega)
          have hpk := HLg.out k hlt (by omega)
          generalize hx : L[k] = x at *
          clear hx
          by_cases h16 : x.size = 8
          · have hxl : x.data.toList.length = 8 := by simpa using h16
            have HC : Hid (num8 (P[k]'(by omega)) = num8 x.data.toList) := Lib.hid (by rw [← hpk])
            have h16' : ((x.size : Int) != 8) = false := by simp [h16]
            clear hpk
            go_wp2_with fail
            go_loopw [7, 8] (fun m i w2 => ∃ (q j : Nat), m = .int .i64 q ∧ i = .int .i64 j ∧ j ≤ 8 ∧ Aside0 (Plain.hexN 0 (x.data.toList.take j) = some q) ∧ wr = w2) (fun _ i _ => 8 - (intOf i).toNat)
            case atStart => exact ⟨0, 0, rfl, rfl, by omega, ⟨rfl⟩, rfl⟩
            case round =>
              obtain ⟨q, j, rfl, rfl, hj, HQ, rfl⟩ := hrel
              by_cases hj8 : j < 8
              · have hjs : j < x.size := by omega
                have ht := dig_test (x.data.toList[j])
                have hq := hex_bound hxl j hj q HQ.out
                rw [← byte_at x j hjs] at ht
                have hxr := UInt8.toNat_lt x[j]
                cases hd : Plain.dig (x.data.toList[j]) with
                | none =>
                  have HN2 : Hid (Plain.readList num8 s.data.toList = none) := Lib.hid (by
                    rw [HN.out]
                    refine Plain.readAll_stop num8 k (by omega) HR.out ?_
                    rw [HC.out]
                    exact num8_none (hexN_stop j (by omega) q HQ.out hd))
                  rw [byte_at x j hjs, hd] at ht
                  have ho := ht.other rfl
                  rw [← byte_at x j hjs] at ho
                  clear ht hd
                  generalize hx : ((x[j].toNat : Nat) : Int) = y at *
                  go_wp2_with fail
                  all_goals (
                    go_ret2
                    exact ⟨.slice none 0 0, by rw [HN2.out]; rfl, by rw [HN2.out]; exact ⟨Kd.R_nil _ _ _ _ _, HW.out.bel⟩⟩)
                | some d =>
                  rw [byte_at x j hjs, hd] at ht
                  have ho := ht.digit d rfl
                  rw [← byte_at x j hjs] at ho
                  have HQ2 := Aside0.mk (hexN_next j (by omega) q d HQ.out hd)
                  clear ht hd
                  generalize hx : ((x[j].toNat : Nat) : Int) = y at *
                  rcases ho with ⟨h1, h2, h3⟩ | ⟨h1, h2, h3⟩
                  · go_wp2
                    go_roundw
                    case rel => exact ⟨16 * q + d, j + 1, by go_num, by go_num, by omega, HQ2, trivial⟩
                    case measure => simp [intOf]; omega
                  · go_wp2
                    go_roundw
                    case rel => exact ⟨16 * q + d, j + 1, by go_num, by go_num, by omega, HQ2, trivial⟩
                    case measure => simp [intOf]; omega
              · have hq := hex_bound hxl j hj q HQ.out
                have hh := HQ.out
                rw [List.take_of_length_le (by omega)] at hh
                have HA : Hid (num8 (P[k]'(by omega)) = if bits q = q then some q else none) := Lib.hid (by rw [HC.out]; unfold num8; rw [if_pos hxl, hh])
                clear hh HC
                have HF := Lib.hid (fun W => l01From_calls q hq W)
                have HBt := Lib.hid (fun W => l01Bits_calls q hq W)
                have hbl := bits_lt hq
                generalize bits q = z at *
                go_wp2_with fail
                refine (HF.out _).mono ?_
                rintro e w1 ⟨rfl, rfl⟩
                go_wp2_with fail
                refine (HBt.out _).mono ?_
                rintro e w1 ⟨rfl, rfl⟩
                clear HF HBt
                by_cases hz : z = q
                · have hc : ((z : Int) != (q : Int)) = false := by simp [hz]
                  have HR2 := Aside0.mk (Plain.readAll_next num8 k (by omega) HR.out (by rw [HA.out, if_pos hz]))
                  clear HR HA
                  go_wp2_with (first | ((with_reducible refine gate_builtin (b := .append) (xs := #[.tmp 74, .tmp 76]) rfl ?_); at_builtin; refine Kd.R_append kF (w0 := w) w.heap.size rfl (.tmp 74) (.tmp 76) 63 29 (.float .f32 0) 4 rfl Tryz.underlying63 info29 rfl (by decide) (by omega) u4 o q [.float .f32 q] (fun k => k ≠ pb) (fun _ => False) rfl rfl ?aP (fun _ hk => hk.elim) ?aF ?aO ?aB ?aS ?aL ?_; (case aP => exact rfl); (case aB => exact HW.out.bel); (case aF => exact (fun k hk => by have := HW.out.lt; omega)); (case aO => exact HW.out.row); (case aS => exact HW.out.bel.size); (case aL => omega); intro v5 w5 ho5 hb5 hg5 hat5; have HW5 : Aside0 (Walk kF 29 w (some ad) pb L v5 (o ++ [q]) w5) := ⟨HW.out.next ho5 hb5 hg5⟩; clear ho5 hb5 hg5 hat5))
                  go_roundw
                  case rel => exact ⟨k + 1, o ++ [q], by go_num, by omega, by simp; omega, HR2, HW5⟩
                  case measure => simp [intOf]; omega
                · have hc : ((z : Int) != (q : Int)) = true := by simp; omega
                  have HN2 : Hid (Plain.readList num8 s.data.toList = none) := Lib.hid (by rw [HN.out]; exact Plain.readAll_stop num8 k (by omega) HR.out (by rw [HA.out, if_neg hz]))
                  go_wp2_with fail
                  go_ret2
                  exact ⟨.slice none 0 0, by rw [HN2.out]; rfl, by rw [HN2.out]; exact ⟨Kd.R_nil _ _ _ _ _, HW.out.bel⟩⟩
          · have HN2 : Hid (Plain.readList num8 s.data.toList = none) := Lib.hid (by
              rw [HN.out]
              refine Plain.readAll_stop num8 k (by omega) HR.out ?_
              rw [← hpk]
              unfold num8
              rw [if_neg (by simpa using h16)])
            have h16' : ((x.size : Int) != 8) = true := by simp; omega
            go_wp2_with fail
            go_ret2
            exact ⟨.slice none 0 0, by rw [HN2.out]; rfl, by rw [HN2.out]; exact ⟨Kd.R_nil _ _ _ _ _, HW.out.bel⟩⟩
        · have hr := HR.out
          rw [List.take_of_length_le (by omega)] at hr
          have HN2 := Lib.hid (HN.out.trans hr)
          clear hr
          go_wp2_with fail
          go_ret2
          exact ⟨_, by rw [HN2.out]; rfl, by rw [HN2.out]; exact HW.out.out⟩
end Go.Proofs.YticfmlohkfoccaaGreatDoor
