/- The reference's l01Cut, l01CRead and l01NRead, walked: they return the numbers that a text holds, for every text of at most 2^20 bytes. -/
import Derived.Test.YticfmlohkfoccaaGreatDoorH5
import Derived.Test.YticfmlohkfoccaaGreatDoorH6
set_option linter.unusedVariables false
set_option linter.unusedSimpArgs false
namespace Go.Proofs.YticfmlohkfoccaaGreatDoor
open Go.RowKit Go.Proofs.YticfmlohkfoccaaGreatDoorW.PrintWords
open PFnExactReadGrain (spec_l01Cut.f spec_l01Cut.l0 spec_l01Cut.calls)

theorem bt_get (s : ByteArray) (i : Nat) (h : i < s.size) : bt s (i : Int) = (s.data.toList[i]'(by simpa using h)).toNat := by
  unfold bt
  rw [dif_pos (show (i : Int).toNat < s.size by omega)]
  simp only [Int.toNat_natCast]
  rfl
theorem take_snoc (l : List UInt8) (i : Nat) (h : i < l.length) : l.take (i + 1) = l.take i ++ [l[i]] := List.take_succ_eq_append_getElem h


theorem w64' {a : Int} (h0 : -9223372036854775808 ≤ a) (h1 : a ≤ 9223372036854775807) : wrap64 a = a := by unfold wrap64; omega
theorem extract_mk (s : ByteArray) (a b : Nat) : s.extract a b = mk ((s.data.toList.drop a).take (b - a)) := by
  rw [← Lib.extract_data, mk_of]
theorem cutting (s : ByteArray) (m : UInt8) (hs : s.size ≤ 1099511627776) (d : Nat) : ∀ (i from_ k : Nat) (out : List ByteArray), i ≤ s.size → from_ ≤ i → s.size - i = d → d + 2 ≤ k → out.length ≤ i →
    spec_l01Cut.l0 k s (m.toNat : Int) out from_ i = some (out ++ (Plain.glue ((s.data.toList.take i).drop from_) (Plain.cutAll m (s.data.toList.drop i))).map mk) := by
  induction d with
  | zero =>
    intro i from_ k out hi hf hd hk ho
    obtain ⟨k, rfl⟩ : ∃ m, k = m + 2 := ⟨k - 2, by omega⟩
    have : i = s.size := by omega
    subst this
    simp only [spec_l01Cut.l0]
    rw [if_pos (by omega), if_pos trivial, if_pos (by omega), if_pos (by omega), if_pos (by omega), w64' (by omega) (by omega), if_neg (by omega), Int.toNat_natCast, Int.toNat_natCast, extract_mk]
    rw [show s.data.toList.drop s.size = [] from List.drop_eq_nil_of_le (by simp)]
    simp only [Plain.cutAll, Plain.glue, List.append_nil, List.map_cons, List.map_nil]
    rw [List.drop_take]
  | succ d ih =>
    intro i from_ k out hi hf hd hk ho
    obtain ⟨k, rfl⟩ : ∃ m, k = m + 1 := ⟨k - 1, by omega⟩
    have hlt : i < s.size := by omega
    have hl : i < s.data.toList.length := by simpa using hlt
    have hdr : s.data.toList.drop i = s.data.toList[i] :: s.data.toList.drop (i + 1) := List.drop_eq_getElem_cons hl
    have htk : (s.data.toList.take (i + 1)).drop from_ = (s.data.toList.take i).drop from_ ++ [s.data.toList[i]] := by
      rw [take_snoc _ i hl, List.drop_append_of_le_length (by simp; omega)]
    simp only [spec_l01Cut.l0]
    rw [if_pos (by omega), if_neg (by omega), if_pos (by omega), if_pos (by omega), bt_get s i hlt]
    by_cases hb : s.data.toList[i] = m
    · rw [if_pos (by rw [hb]), if_pos (by omega), if_pos (by omega), if_pos (by omega), w64' (by omega) (by omega), Int.toNat_natCast, Int.toNat_natCast, extract_mk]
      have := ih (i + 1) (i + 1) k (out ++ [mk ((s.data.toList.drop from_).take (i - from_))]) (by omega) (by omega) (by omega) (by omega) (by simp; omega)
      rw [show ((i : Int) + 1) = ((i + 1 : Nat) : Int) from by omega, this, hdr, hb, Plain.cutAll_mark]
      rw [show (s.data.toList.take (i + 1)).drop (i + 1) = [] from List.drop_eq_nil_of_le (by simp; omega), Plain.glue_nil _ (Plain.cutAll_ne _ _), ← List.drop_take]
      simp [Plain.glue]
    · rw [if_neg (by intro h; exact hb (UInt8.toNat_inj.1 (by omega))), w64' (by omega) (by omega)]
      have := ih (i + 1) from_ k out (by omega) (by omega) (by omega) (by omega) (by omega)
      rw [show ((i : Int) + 1) = ((i + 1 : Nat) : Int) from by omega, this, hdr, Plain.cutAll_other _ _ _ hb, htk, Plain.glue_glue]
theorem cutting_f (s : ByteArray) (m : UInt8) (hs : s.size ≤ 1099511627776) : spec_l01Cut.f (s.size + 2) s (m.toNat : Int) = some ((Plain.cutAll m s.data.toList).map mk) := by
  unfold spec_l01Cut.f
  have := cutting s m hs s.size 0 0 (s.size + 2) [] (by omega) (by omega) (by omega) (by omega) (by simp)
  simpa [Plain.glue_nil _ (Plain.cutAll_ne _ _)] using this

theorem rd_get (l : List ByteArray) (i : Nat) (h : i < l.length) : rdOf ByteArray.empty l (i : Int) = l[i] := by
  simp [rdOf, List.getD_eq_getElem?_getD, List.getElem?_eq_getElem h]
theorem lines_cell {w W : World} {A : Option Addr} {l : List ByteArray} (hr : Kd.C Kd.string w A l.length l) (hb : Below w.heap.size w W) (i : Nat) (h : i < l.length) :
    ∃ ad, A = some ad ∧ W.cell? (ad.add i) = some (.string l[i]) := by
  obtain ⟨ad, e, hc⟩ := Kd.at_string hr (i : Int) (by omega) (by omega)
  rw [rd_get l i h] at hc
  exact ⟨ad, e, pw_cell_below hb (by simpa using hc)⟩

set_option maxHeartbeats 2000000 in

/-! ### Kinds of numbers -/
def kF : Kd Nat := Kd.scalar (fun n => .float .f32 n) (fun _ => rfl)
def kC : Kd (Nat × Nat) := Kd.scalar (fun x => .complex .f32 x.1 x.2) (fun _ => rfl)
theorem info28 : (Tryz.prog.info? 28).map (fun i => (i.zero, i.size, i.bytes)) = some (some (.complex .f32 0 0), 1, 8) := by kernel_rfl
theorem info29 : (Tryz.prog.info? 29).map (fun i => (i.zero, i.size, i.bytes)) = some (some (.float .f32 0), 1, 4) := by kernel_rfl

/-- What a call has made so far: a row, and nothing else has turned. -/
structure Out {α : Type} (d : Kd α) (e : Nat) (w : World) (v : Value) (o : List α) (W : World) : Prop where
  row : Kd.R d e W w.heap.size (fun _ => True) v o
  bel : Below w.heap.size w W
section
variable {α : Type} {d : Kd α} {e : Nat} {w w1 W W2 : World} {v : Value} {o : List α}
theorem Out.more (h : Out d e w v o W) (k : Below W.heap.size W W2) : Out d e w v o W2 := ⟨Kd.R_below h.row k, below_then h.bel h.bel.size k⟩
theorem Out.drawn (h : Out d e w v o W) (n : Nat) : Out d e w v o (W.drewN n) := h.more (pw_below_drewN (Below.refl _ _) n)
theorem Out.lift (hb : Below w.heap.size w w1) (h : Out d e w1 v o W) : Out d e w v o W := ⟨Kd.R_lower h.row hb.size, below_then hb hb.size h.bel⟩
theorem Out.start (w : World) : Out d e w (.slice none 0 0) [] w := ⟨Kd.R_nil _ _ _ _ _, Below.refl _ _⟩
theorem Out.reads (h : Out d e w v o W) : ∃ A c, v = .slice A o.length c ∧ o.length ≤ c ∧ Kd.C d W A o.length o := Kd.R_reads h.row
end
def readC (p : List UInt8) : Option (Nat × Nat) := if p.length = 16 then match num8 (p.take 8) with
  | some a => match num8 (p.drop 8) with
    | some b => some (a, b)
    | none => none
  | none => none else none

/-- What the reference's and the program's readers return. -/
def Gives {α : Type} (d : Kd α) (t : Nat) (r : Option (List α)) (w : World) (e : Ending) (W : World) : Prop := ∃ v, e = .returned (.tuple #[v, .bool r.isSome]) ∧ Out d t w v (r.getD []) W

/-! ### A row of pieces that is read while another row grows -/
structure Pieces (W : World) (A : Option Addr) (pb : Nat) (L : List ByteArray) : Prop where
  cells : ∀ j (h : j < L.length), ∃ ad, A = some ad ∧ ad.block = pb ∧ W.cell? (ad.add j) = some (.string L[j])
theorem add_block (ad : Addr) (j : Nat) : (ad.add j).block = ad.block := by unfold Addr.add; split <;> rfl
structure Walk {α : Type} (d : Kd α) (e : Nat) (w : World) (A : Option Addr) (pb : Nat) (L : List ByteArray) (v : Value) (o : List α) (W : World) : Prop where
  row : Kd.R d e W w.heap.size (fun k => k ≠ pb) v o
  bel : Below w.heap.size w W
  pcs : Pieces W A pb L
  lt : pb < W.heap.size
section
variable {α : Type} {d : Kd α} {e : Nat} {w W W2 : World} {A : Option Addr} {pb : Nat} {L : List ByteArray} {v v1 : Value} {o o1 : List α}
theorem Pieces.more (h : Pieces W A pb L) (hk : Below W.heap.size W W2) : Pieces W2 A pb L := ⟨fun j hj => by
  obtain ⟨ad, h1, h2, h3⟩ := h.cells j hj
  exact ⟨ad, h1, h2, pw_cell_below hk h3⟩⟩
theorem Walk.more (h : Walk d e w A pb L v o W) (k : Below W.heap.size W W2) : Walk d e w A pb L v o W2 :=
  ⟨Kd.R_below h.row k, below_then h.bel h.bel.size k, h.pcs.more k, Nat.lt_of_lt_of_le h.lt k.size⟩
theorem Walk.next (h : Walk d e w A pb L v o W) (ho : Kd.R d e W2 w.heap.size (fun k => k ≠ pb) v1 o1) (hb : Below w.heap.size w W2) (hg : W.grownBy W2 v.ownBlock) : Walk d e w A pb L v1 o1 W2 :=
  ⟨ho, hb, ⟨fun j hj => by
    obtain ⟨ad, h1, h2, h3⟩ := h.pcs.cells j hj
    refine ⟨ad, h1, h2, hg.cell h3 ?_⟩
    rw [add_block, h2]
    intro e
    exact h.row.1 pb e.symm rfl⟩, Nat.lt_of_lt_of_le h.lt hg.size⟩
theorem Walk.out (h : Walk d e w A pb L v o W) : Out d e w v o W := ⟨Kd.R_mono h.row (fun _ _ => trivial), h.bel⟩
/-- The pieces' row is made behind the growing row. -/
theorem Walk.start {w1 : World} {p : Value} (hv : Kd.R d e W w.heap.size (fun _ => True) v o) (hb : Below w.heap.size w W) (hp : Kd.R Kd.string 9 w1 W.heap.size (fun _ => True) p L) (hb1 : Below W.heap.size W w1) (hL : L ≠ []) :
    ∃ A pb c, p = .slice A L.length c ∧ L.length ≤ c ∧ Walk d e w A pb L v o w1 := by
  obtain ⟨A, c, rfl, hc, hC⟩ := Kd.R_reads hp
  obtain ⟨ad, rfl, hx⟩ := lines_cell hC (Below.refl _ _) 0 (by cases L with
    | nil => exact absurd rfl hL
    | cons => simp)
  have hbd := (Kd.R_bound hp).1 ad.block (by simp [Value.ownBlock])
  refine ⟨some ad, ad.block, c, rfl, hc, ?_, below_then hb hb.size hb1, ⟨fun j hj => ?_⟩, hbd.2.2.1⟩
  · refine Kd.R_below (Kd.R_mono (Kd.R_bound hv) (fun k hk => ?_)) hb1
    have h1 := hk.2.2.1
    have h2 := hbd.2.1
    omega
  · obtain ⟨ad2, h1, h2⟩ := lines_cell hC (Below.refl _ _) j hj
    injection h1 with h1
    subst h1
    exact ⟨ad, rfl, rfl, h2⟩
end
theorem sub8a (x : ByteArray) (h : x.size = 16) : (x.extract 0 8).data.toList = x.data.toList.take 8 ∧ (x.extract 0 8).size = 8 := by
  refine ⟨by rw [Lib.extract_data]; simp, by rw [ByteArray.size_extract]; omega⟩
theorem sub8b (x : ByteArray) (h : x.size = 16) : (x.extract 8 16).data.toList = x.data.toList.drop 8 ∧ (x.extract 8 16).size = 8 := by
  refine ⟨by rw [Lib.extract_data]; exact List.take_of_length_le (by simp; omega), by rw [ByteArray.size_extract]; omega⟩
theorem tail_beq (s : ByteArray) : (s.toList == [110, 111, 110, 101]) = decide (s.data.toList = Plain.none4) := by
  rw [ByteArray.toList_eq, Bool.eq_iff_iff, beq_iff_eq, decide_eq_true_iff]; exact Iff.rfl

set_option maxHeartbeats 1000000 in
set_option maxRecDepth 100000 in
theorem l01CRead_calls (s : ByteArray) (hs : s.size ≤ 1048576) (w : World) : Calls Tryz.prog 107 #[.string s] w fun e w' => Gives kC 28 (Plain.readList readC s.data.toList) w e w' := by
  have HF := Lib.hid (cutting_f s 44 (by omega))
  have hcl := Plain.cutAll_length 44 s.data.toList
  have hsd : s.data.toList.length = s.size := by simp
  have hnz := Plain.cutAll_ne 44 s.data.toList
  have htb := tail_beq s
  by_cases hn4 : s.data.toList = Plain.none4
  · have HA : Hid (Plain.readList readC s.data.toList = some []) := Lib.hid (by unfold Plain.readList; rw [if_pos hn4])
    rw [decide_eq_true hn4] at htb
    clear hn4
    go_enter Tryz.func107, Tryz.ntmps107
    go_wp2_with (first | ((with_reducible refine gate_dst (N := 11) rfl ?_); refine Kd.R_lit kC w.heap.size 28 ?hg (N := 11) ?hd (xs := ([] : List (Nat × Nat))) (inner := []) (ok := fun _ => True) (okp := fun _ => True) ?hr ?hp (fun _ hk => hk) trivial (Below.refl w.heap.size w) (Nat.le_refl _) (by simp) ?_; (case hd => rfl); (case hg => rfl); (case hr => first | (go_simp; done) | (go_simp; rfl)); (case hp => exact (Reps.none _ _)); intro v2 w2 ho2 hb2 hg2 hnew2; clear hg2 hnew2))
    go_ret2
    exact ⟨v2, by rw [HA.out]; rfl, by rw [HA.out]; exact ⟨ho2, hb2⟩⟩
  · have HA : Hid (Plain.readList readC s.data.toList = if 256 < (Plain.cutAll 44 s.data.toList).length then none else Plain.readAll readC (Plain.cutAll 44 s.data.toList)) := Lib.hid (by unfold Plain.readList; rw [if_neg hn4])
    rw [decide_eq_false hn4] at htb
    clear hn4
    generalize Plain.cutAll 44 s.data.toList = P at *
    have hLl : (P.map mk).length = P.length := List.length_map ..
    have hLn : P.map mk ≠ [] := by simpa using hnz
    have hLg : ∀ k (h : k < (P.map mk).length) (h' : k < P.length), (P.map mk)[k].data.toList = P[k] := fun k h h' => by simp [mk_data]
    generalize P.map mk = L at *
    have HLg := Lib.hid hLg; clear hLg
    go_enter Tryz.func107, Tryz.ntmps107
    go_wp2_with (first | ((with_reducible refine gate_dst (N := 11) rfl ?_); refine Kd.R_lit kC w.heap.size 28 ?hg (N := 11) ?hd (xs := ([] : List (Nat × Nat))) (inner := []) (ok := fun _ => True) (okp := fun _ => True) ?hr ?hp (fun _ hk => hk) trivial (Below.refl w.heap.size w) (Nat.le_refl _) (by simp) ?_; (case hd => rfl); (case hg => rfl); (case hr => first | (go_simp; done) | (go_simp; rfl)); (case hp => exact (Reps.none _ _)); intro v2 w2 ho2 hb2 hg2 hnew2; clear hg2 hnew2))
    refine (spec_l01Cut.calls _ s _ L _ HF.out).mono ?_
    rintro e w1 ⟨v, rfl, hk, hb⟩
    obtain ⟨A, pb, c, rfl, hc, hw⟩ := Walk.start ho2 hb2 hk hb hLn
    have HW := Aside0.mk hw
    clear hw hk hb ho2 hb2 HF
    by_cases hbig : 256 < P.length
    · have HN : Hid (Plain.readList readC s.data.toList = none) := Lib.hid (by rw [HA.out, if_pos hbig])
      have hb2 : decide ((256 : Int) < (L.length : Int)) = true := decide_eq_true (by omega)
      go_wp2_with fail
      go_ret2
      exact ⟨.slice none 0 0, by rw [HN.out]; rfl, by rw [HN.out]; exact ⟨Kd.R_nil _ _ _ _ _, HW.out.bel⟩⟩
    · have HN : Hid (Plain.readList readC s.data.toList = Plain.readAll readC P) := Lib.hid (by rw [HA.out, if_neg hbig])
      have hb2 : decide ((256 : Int) < (L.length : Int)) = false := decide_eq_false (by omega)
      go_wp2_with fail
      go_loopw [4, 6] (fun v i wr => ∃ (k : Nat) (o : List (Nat × Nat)), i = .int .i64 k ∧ k ≤ L.length ∧ o.length = k ∧ Aside0 (Plain.readAll readC (P.take k) = some o) ∧ Aside0 (Walk kC 28 w A pb L v o wr)) (fun _ i _ => L.length - (intOf i).toNat)
      case atStart => exact ⟨0, [], rfl, by omega, rfl, ⟨rfl⟩, HW⟩
      case round =>
        clear HW
        obtain ⟨k, o, rfl, hk, hol, HR, HW⟩ := hrel
        by_cases hlt : k < L.length
        · obtain ⟨ad, rfl, hab, hcell⟩ := HW.out.pcs.cells k hlt
          have hpk := HLg.out k hlt (by omega)
          generalize hx : L[k] = x at *
          clear hx
          by_cases h16 : x.size = 16
          · obtain ⟨ha1, ha2⟩ := sub8a x h16
            obtain ⟨hb1, hb2⟩ := sub8b x h16
            have HD1 := Lib.hid (fun W => l01Digits_calls (x.extract 0 8) ha2 W)
            have HD2 := Lib.hid (fun W => l01Digits_calls (x.extract 8 16) hb2 W)
            rw [ha1] at HD1
            rw [hb1] at HD2
            have HC : Hid (readC (P[k]'(by omega)) = match num8 (x.data.toList.take 8) with
              | some a => match num8 (x.data.toList.drop 8) with
                | some b => some (a, b)
                | none => none
              | none => none) := Lib.hid (by rw [← hpk]; unfold readC; rw [if_pos (by simpa using h16)])
            have h16' : ((x.size : Int) != 16) = false := by simp [h16]
            have hx1 := eq_true (show (8 : Nat) ≤ x.size from by omega)
            clear ha1 ha2 hb1 hb2 hpk
            generalize num8 (x.data.toList.take 8) = n1 at *
            generalize num8 (x.data.toList.drop 8) = n2 at *
            go_wp2_with fail
            refine (HD1.out _).mono ?_
            rintro e W1 ⟨⟨x1, hx1, rfl, hxv1⟩, rfl⟩
            go_wp2_with fail
            refine (HD2.out _).mono ?_
            rintro e W1 ⟨⟨x2, hx2, rfl, hxv2⟩, rfl⟩
            clear HD1 HD2
            cases n1 with
            | none =>
              have HN2 : Hid (Plain.readList readC s.data.toList = none) := Lib.hid (by rw [HN.out]; exact Plain.readAll_stop readC k (by omega) HR.out HC.out)
              go_wp2_with fail
              go_ret2
              exact ⟨.slice none 0 0, by rw [HN2.out]; rfl, by rw [HN2.out]; exact ⟨Kd.R_nil _ _ _ _ _, HW.out.bel⟩⟩
            | some a1 =>
              cases n2 with
              | none =>
                have HN2 : Hid (Plain.readList readC s.data.toList = none) := Lib.hid (by rw [HN.out]; exact Plain.readAll_stop readC k (by omega) HR.out HC.out)
                go_wp2_with fail
                go_ret2
                exact ⟨.slice none 0 0, by rw [HN2.out]; rfl, by rw [HN2.out]; exact ⟨Kd.R_nil _ _ _ _ _, HW.out.bel⟩⟩
              | some a2 =>
                obtain rfl := hxv1 a1 rfl
                obtain rfl := hxv2 a2 rfl
                have HR2 := Aside0.mk (Plain.readAll_next readC k (by omega) HR.out HC.out)
                clear HC HR hxv1 hxv2
                go_wp2_with (first | ((with_reducible refine gate_builtin (b := .append) (xs := #[.tmp 56, .tmp 60]) rfl ?_); at_builtin; refine Kd.R_append kC (w0 := w) w.heap.size rfl (.tmp 56) (.tmp 60) 37 28 (.complex .f32 0 0) 8 rfl Tryz.underlying37 info28 rfl (by decide) (by omega) u4 o (x1, x2) [.complex .f32 x1 x2] (fun k => k ≠ pb) (fun _ => False) rfl rfl ?aP (fun _ hk => hk.elim) ?aF ?aO ?aB ?aS ?aL ?_; (case aP => exact rfl); (case aB => exact HW.out.bel); (case aF => exact (fun k hk => by have := HW.out.lt; omega)); (case aO => exact HW.out.row); (case aS => exact HW.out.bel.size); (case aL => omega); intro v5 w5 ho5 hb5 hg5 hat5; have HW5 : Aside0 (Walk kC 28 w (some ad) pb L v5 (o ++ [(x1, x2)]) w5) := ⟨HW.out.next ho5 hb5 hg5⟩; clear ho5 hb5 hg5 hat5))
                go_roundw
                case rel => exact ⟨k + 1, o ++ [(x1, x2)], by go_num, by omega, by simp; omega, HR2, HW5⟩
                case measure => simp [intOf]; omega
          · have HN2 : Hid (Plain.readList readC s.data.toList = none) := Lib.hid (by
              rw [HN.out]
              refine Plain.readAll_stop readC k (by omega) HR.out ?_
              rw [← hpk]
              unfold readC
              rw [if_neg (by simpa using h16)])
            have h16' : ((x.size : Int) != 16) = true := by simp; omega
            go_wp2_with fail
            go_ret2
            exact ⟨.slice none 0 0, by rw [HN2.out]; rfl, by rw [HN2.out]; exact ⟨Kd.R_nil _ _ _ _ _, HW.out.bel⟩⟩
        · have hr := HR.out
          rw [List.take_of_length_le (by omega)] at hr
          have HN2 := Lib.hid (HN.out.trans hr)
          clear hr
          go_wp2_with fail
          go_ret2
          exact ⟨_, by rw [HN2.out]; rfl, by rw [HN2.out]; exact HW.out.out⟩
end Go.Proofs.YticfmlohkfoccaaGreatDoor
