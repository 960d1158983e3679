/- The program's reader of a list of grains, walked: it returns the grains that a text holds, for every text of at most 2^20 bytes, where the library's variables hold what they are laid with. -/
import Derived.Test.YticfmlohkfoccaaGreatDoorH13
set_option linter.unusedVariables false
set_option linter.unusedSimpArgs false
namespace Go.Proofs.YticfmlohkfoccaaGreatDoor
open Go.RowKit Go.Proofs.YticfmlohkfoccaaGreatDoorW.PrintWords

/-- Grains in a row. -/
def kG : Kd G where
  sz := 7
  E := []
  K := fun _ x cs => cs = x.cells.toList
  M := fun _ _ _ x cs => cs = x.cells.toList
  K_len := fun h => by rw [h]; rfl
  K_one := fun h u hu => by
    rw [h] at hu
    simp only [G.cells, List.mem_cons, List.not_mem_nil, or_false] at hu
    rcases hu with rfl | rfl | rfl | rfl | rfl | rfl | rfl <;> rfl
  K_below := fun _ h => h
  K_of_M := fun h => h
  M_mono := fun _ h => h
  M_bound := fun h => h
  M_move := fun _ h => h
  M_lower := fun _ h => h
theorem info31 : (Tryz.prog.info? 31).map (fun i => (i.zero, i.size, i.bytes)) = some (some (.agg #[.complex .f32 0 0, .complex .f32 0 0, .float .f32 0, .float .f32 0, .float .f32 0, .float .f32 0, .bool false]), 7, 36) := by kernel_rfl
/-- The grains of a heap's text. -/
def readH (t : List UInt8) : Option (List G) := if t = Plain.none4 then some [] else if 24 < (Plain.cutAll 47 t).length then none else Plain.readAll readG (Plain.cutAll 47 t)

set_option maxHeartbeats 1000000 in
set_option maxRecDepth 100000 in
theorem listG_calls (s : ByteArray) (hs : s.size ≤ 1048576) (w : World) (hv : Vars w) : Calls Tryz.prog 102 #[.string s, .string ⟨#[47]⟩, .int .i64 24, .func (.func 14) #[] #[]] w fun e w' => Gives kG 31 (readH s.data.toList) w e w' := by
  have HV := Lib.hid hv; clear hv
  obtain ⟨hp1, hp3, hp2⟩ := splitN_pieces s 47 25 (by decide)
  have HS := Lib.hid (fun W m hm => Tryz.strings_SplitN s ⟨#[47]⟩ 25 m W (by omega) hm (by decide) (by decide) (by decide))
  have hnz := Plain.cutAll_ne 47 s.data.toList
  have hpc := cutAll_piece 47 s.data.toList
  have htb := tail_beq s
  have hsd : s.data.toList.length = s.size := by simp
  by_cases hn4 : s.data.toList = Plain.none4
  · have HA : Hid (readH s.data.toList = some []) := Lib.hid (by unfold readH; rw [if_pos hn4])
    rw [decide_eq_true hn4] at htb
    clear hn4
    go_enter Tryz.func102, Tryz.ntmps102
    go_wp2_with (first | ((with_reducible refine gate_dst (N := 16) rfl ?_); refine Kd.R_lit kG w.heap.size 31 ?hg (N := 16) ?hd (xs := ([] : List G)) (inner := []) (ok := fun _ => True) (okp := fun _ => True) ?hr ?hp (fun _ hk => hk) trivial (Below.refl w.heap.size w) (Nat.le_refl _) (by simp) ?_; (case hd => rfl); (case hg => rfl); (case hr => first | (go_simp; done) | (go_simp; rfl)); (case hp => exact (Reps.none _ _)); intro v2 w2 ho2 hb2 hg2 hnew2; clear hg2 hnew2))
    go_ret2
    exact ⟨v2, by rw [HA.out]; rfl, by rw [HA.out]; exact ⟨ho2, hb2⟩⟩
  · have HA : Hid (readH s.data.toList = if 24 < (Plain.cutAll 47 s.data.toList).length then none else Plain.readAll readG (Plain.cutAll 47 s.data.toList)) := Lib.hid (by unfold readH; rw [if_neg hn4])
    rw [decide_eq_false hn4] at htb
    clear hn4
    generalize Plain.cutAll 47 s.data.toList = P at *
    generalize hLL : Lib.splitB ⟨#[47]⟩ 0 (min 25 (s.size + 1) - 1) s = L at *
    generalize hNN : min 25 (s.size + 1) = N at *
    clear hLL
    have HP := Lib.hid hp2; clear hp2
    have HPC := Lib.hid hpc; clear hpc
    go_enter Tryz.func102, Tryz.ntmps102
    go_wp2_with (first | ((with_reducible refine gate_dst (N := 16) rfl ?_); refine Kd.R_lit kG w.heap.size 31 ?hg (N := 16) ?hd (xs := ([] : List G)) (inner := []) (ok := fun _ => True) (okp := fun _ => True) ?hr ?hp (fun _ hk => hk) trivial (Below.refl w.heap.size w) (Nat.le_refl _) (by simp) ?_; (case hd => rfl); (case hg => rfl); (case hr => first | (go_simp; done) | (go_simp; rfl)); (case hp => exact (Reps.none _ _)); intro v2 w2 ho2 hb2 hg2 hnew2; clear hg2 hnew2))
    obtain ⟨mm, hmm⟩ := (HV.out.step hb2).1
    refine (HS.out w2 mm hmm).mono ?_
    rintro e w1 ⟨rfl, rfl⟩
    have HW := Aside0.mk (Walk.begin ho2 hb2 L N)
    clear ho2 hb2 hmm HS
    generalize hpb : w2.heap.size = pb at *
    clear hpb
    generalize w2.alloc (.cells (Lib.cellsOf L N) 9) = w1 at *
    have hN : N ≤ 25 := by omega
    by_cases hbig : 24 < L.length
    · have HN : Hid (readH s.data.toList = none) := Lib.hid (by rw [HA.out, if_pos (by omega)])
      have hb2 : decide ((24 : Int) < (L.length : Int)) = true := decide_eq_true (by omega)
      go_wp2_with fail
      go_ret2
      exact ⟨.slice none 0 0, by rw [HN.out]; rfl, by rw [HN.out]; exact ⟨Kd.R_nil _ _ _ _ _, HW.out.bel⟩⟩
    · have hPL : L.length = P.length := by omega
      have HN : Hid (readH s.data.toList = Plain.readAll readG P) := Lib.hid (by rw [HA.out, if_neg (by omega)])
      have HM : Hid (L.map (·.data.toList) = P) := Lib.hid (HP.out (by omega))
      have hb2 : decide ((24 : Int) < (L.length : Int)) = false := decide_eq_false (by omega)
      clear hp1 hp3
      have Hpl := Lib.hid hPL; clear hPL
      go_wp2_with fail
      go_loopw [10, 31] (fun v i wr => ∃ (k : Nat) (o : List G), i = .int .i64 k ∧ k ≤ L.length ∧ o.length = k ∧ Aside0 (Plain.readAll readG (P.take k) = some o) ∧ Aside0 (Walk kG 31 w (some ⟨pb, 0, none⟩) pb L v o wr)) (fun _ i _ => L.length - (intOf i).toNat)
      case atStart => exact ⟨0, [], rfl, by omega, rfl, ⟨rfl⟩, HW⟩
      case round =>
        clear HW
        obtain ⟨k, o, rfl, hk, hol, HR, HW⟩ := hrel
        by_cases hlt : k < L.length
        · obtain ⟨ad, hade, hab, hcell⟩ := HW.out.pcs.cells k hlt
          injection hade with hade
          subst hade
          clear hab
          rw [Lib.add_plain, Nat.zero_add] at hcell
          have hlp : k < P.length := by have := Hpl.out; omega
          have hpk : L[k].data.toList = P[k] := by
            have := HM.out
            subst this
            simp
          have hps : L[k].size ≤ 1048576 := by
            have h1 := HPC.out P[k] (List.getElem_mem _)
            rw [← hpk] at h1
            simp at h1
            omega
          have hcl := fun W hW => implReadGrain_calls L[k] hps W hW
          rw [hpk] at hcl
          clear hpk hps
          generalize hx : L[k] = x at *
          clear hx
          have hcr : ∃ r, readG P[k] = r := ⟨_, rfl⟩
          obtain ⟨r, hr⟩ := hcr
          rw [hr] at hcl
          have Hr := Lib.hid hr; clear hr
          have e24 : decide (k < L.length) = true := decide_eq_true hlt
          cases r with
          | none =>
            have HN2 : Hid (readH s.data.toList = none) := Lib.hid (by rw [HN.out]; exact Plain.readAll_stop readG k hlp HR.out Hr.out)
            simp only [Option.getD_none, Option.isSome_none, G.cells, G0] at hcl
            have HCl := Lib.hid hcl; clear hcl
            go_wp2_with fail
            refine (HCl.out _ (HV.out.step HW.out.bel)).mono ?_
            rintro e W5 ⟨rfl, hb⟩
            have HW5 := Aside0.mk (HW.out.more (below_then hb hb.size ((Below.refl W5.heap.size W5).alloc (Nat.le_refl _) (.cells G0.cells 31)))); clear hb HCl HW
            have r1 := store_cm
            have r2 := store_fm
            have hx : Boxed (W5.alloc (.cells G0.cells 31)) W5.heap.size G0 := heap_alloc_new W5 _
            obtain ⟨q0, q1, q2, q3, q4, q5, q6⟩ := hx.at
            have f0 := hx.thaw 0; have f1 := hx.thaw 1; have f2 := hx.thaw 2; have f3 := hx.thaw 3; have f4 := hx.thaw 4; have f5 := hx.thaw 5; have f6 := hx.thaw 6
            clear hx
            go_wp2_with fail
            go_ret2
            exact ⟨.slice none 0 0, by rw [HN2.out]; rfl, by rw [HN2.out]; exact ⟨Kd.R_nil _ _ _ _ _, HW5.out.bel⟩⟩
          | some y =>
            have HR2 := Aside0.mk (Plain.readAll_next readG k hlp HR.out Hr.out)
            clear HR Hr
            simp only [Option.getD_some, Option.isSome_some, G.cells] at hcl
            have HCl := Lib.hid hcl; clear hcl
            go_wp2_with fail
            refine (HCl.out _ (HV.out.step HW.out.bel)).mono ?_
            rintro e W5 ⟨rfl, hb⟩
            have HW5 := Aside0.mk (HW.out.more (below_then hb hb.size ((Below.refl W5.heap.size W5).alloc (Nat.le_refl _) (.cells y.cells 31)))); clear hb HCl HW
            have r1 := store_cm
            have r2 := store_fm
            have hx : Boxed (W5.alloc (.cells G0.cells 31)) W5.heap.size G0 := heap_alloc_new W5 _
            obtain ⟨q0, q1, q2, q3, q4, q5, q6⟩ := hx.at
            have f0 := hx.thaw 0; have f1 := hx.thaw 1; have f2 := hx.thaw 2; have f3 := hx.thaw 3; have f4 := hx.thaw 4; have f5 := hx.thaw 5; have f6 := hx.thaw 6
            have hy : Boxed (W5.alloc (.cells y.cells 31)) W5.heap.size y := heap_alloc_new W5 _
            obtain ⟨g0, g1, g2, g3, g4, g5, g6⟩ := hy.at
            unfold G.cells at g0 g1 g2 g3 g4 g5 g6
            clear hx hy
            have HSz : Hid (W5.heap.size + 1 = (W5.alloc (.cells y.cells 31)).heap.size) := Lib.hid (by simp)
            go_wp2_with (first | ((with_reducible refine gate_builtin (b := .append) (xs := #[.tmp 43, .tmp 45]) rfl ?_); at_builtin; refine Kd.R_append kG (w0 := w) w.heap.size rfl (.tmp 43) (.tmp 45) 71 31 (.agg #[.complex .f32 0 0, .complex .f32 0 0, .float .f32 0, .float .f32 0, .float .f32 0, .float .f32 0, .bool false]) 36 rfl Tryz.underlying71 info31 rfl (by decide) (by omega) u10 o y [.complex .f32 y.a y.b, .complex .f32 y.c y.d, .float .f32 y.r, .float .f32 y.m, .float .f32 y.t, .float .f32 y.s, .bool y.h] (fun k => k ≠ pb) (fun _ => False) rfl ?aX ?aP (fun _ hk => hk.elim) ?aF ?aO ?aB ?aS ?aL ?_; (case aX => exact congrArg (fun n => Value.slice (some ⟨n, 0, none⟩) 1 1) HSz.out); (case aP => exact rfl); (case aB => exact HW5.out.bel); (case aF => exact (fun k hk => by have h := HW5.out.lt; unfold G.cells at h; omega)); (case aO => exact HW5.out.row); (case aS => exact HW5.out.bel.size); (case aL => omega); intro v5 w5 ho5 hb5 hg5 hat5; have HW6 : Aside0 (Walk kG 31 w (some ⟨pb, 0, none⟩) pb L v5 (o ++ [y]) w5) := ⟨HW5.out.next ho5 hb5 hg5⟩; clear ho5 hb5 hg5 hat5))
            go_roundw
            case rel => exact ⟨k + 1, o ++ [y], by go_num, by omega, by simp; omega, HR2, HW6⟩
            case measure => simp [intOf]; omega
        · have hr := HR.out
          rw [List.take_of_length_le (by have := Hpl.out; omega)] at hr
          have HN2 := Lib.hid (HN.out.trans hr)
          clear hr
          go_wp2_with fail
          go_ret2
          exact ⟨_, by rw [HN2.out]; rfl, by rw [HN2.out]; exact HW.out.out⟩
end Go.Proofs.YticfmlohkfoccaaGreatDoor
