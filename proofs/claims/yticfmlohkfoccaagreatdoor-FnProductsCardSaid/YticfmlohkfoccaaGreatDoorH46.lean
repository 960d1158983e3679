/- The texts of lists of numbers, at slices of whatever capacity and at empty ones, walked; and that reading them gives the numbers back, plain. -/
import Derived.Test.YticfmlohkfoccaaGreatDoorH11
set_option linter.unusedVariables false
set_option linter.unusedSimpArgs false
namespace Go.Proofs.YticfmlohkfoccaaGreatDoor
open Go.RowKit Go.Proofs.YticfmlohkfoccaaGreatDoorW.PrintWords

/-! ### Plain -/
theorem dg_ne (d : Nat) (h : d < 16) : Plain.dg d ≠ 44 := by
  intro e
  have h1 := Plain.dg_toNat d h
  rw [e] at h1
  have h2 : (44 : UInt8).toNat = 44 := rfl
  split at h1 <;> omega
theorem hexL_no (k : Nat) : ∀ n, (44 : UInt8) ∉ Plain.hexL k n := by
  induction k with
  | zero => intro n h; cases h
  | succ k ih =>
    intro n h
    simp only [Plain.hexL] at h
    rcases List.mem_append.1 h with h | h
    · exact ih _ h
    · exact dg_ne _ (Nat.mod_lt _ (by decide)) (List.mem_singleton.1 h).symm
theorem textF_no (n : Nat) : (44 : UInt8) ∉ textF n := hexL_no 8 _
theorem textC_no (x : Nat × Nat) : (44 : UInt8) ∉ textC x := by
  intro h
  rcases List.mem_append.1 h with h | h
  · exact textF_no _ h
  · exact textF_no _ h
theorem cutAll_join_no (m : UInt8) : ∀ (L : List (List UInt8)), L ≠ [] → (∀ p ∈ L, m ∉ p) → Plain.cutAll m (Lib.join L [m]) = L
  | [], h, _ => absurd rfl h
  | [x], _, h => by
    have e : Lib.join [x] [m] = x := by simp [Lib.join_cons, Lib.joinTail]
    rw [e]
    exact Plain.cutAll_none m x (h x (by simp))
  | x :: y :: r, _, h => by
    have e : Lib.join (x :: y :: r) [m] = x ++ m :: Lib.join (y :: r) [m] := by
      simp [Lib.join_cons, Lib.joinTail]
    rw [e, Plain.cutAll_found m x _ (h x (by simp)), cutAll_join_no m (y :: r) (by simp) (fun p hp => h p (by simp [hp]))]
theorem bits_bits (n : Nat) : bits (bits n) = bits n := by
  unfold bits
  by_cases h : nan32 n
  · rw [if_pos h]; rfl
  · rw [if_neg h, if_neg h]
theorem bits_lt' {n : Nat} (h : n < 4294967296) : bits n < 4294967296 := by
  unfold bits; split
  · decide
  · exact h
theorem num8_back (n : Nat) (h : n < 4294967296) : num8 (textF n) = some (bits n) := by
  unfold num8 textF
  rw [if_pos (Plain.hexL_length 8 _), Plain.hexN_hexL 8 _ (bits_lt' h)]
  dsimp only
  rw [if_pos (bits_bits n)]
theorem readC_back (x : Nat × Nat) (h : x.1 < 4294967296 ∧ x.2 < 4294967296) : readC (textC x) = some (bits x.1, bits x.2) := by
  unfold readC
  rw [if_pos (textC_length x)]
  have h1 : (textC x).take 8 = textF x.1 := by
    unfold textC
    rw [List.take_append_of_le_length (Nat.le_of_eq (textF_length _).symm)]
    exact List.take_of_length_le (Nat.le_of_eq (textF_length _))
  have h2 : (textC x).drop 8 = textF x.2 := by
    unfold textC
    rw [List.drop_append_of_le_length (Nat.le_of_eq (textF_length _).symm), List.drop_of_length_le (Nat.le_of_eq (textF_length _))]
    rfl
  rw [h1, h2, num8_back _ h.1, num8_back _ h.2]
theorem readAll_map {α β : Type} (read : List UInt8 → Option β) (text : α → List UInt8) (f : α → β) : ∀ (l : List α), (∀ x ∈ l, read (text x) = some (f x)) → Plain.readAll read (l.map text) = some (l.map f)
  | [], _ => rfl
  | x :: r, h => by
    simp only [List.map_cons, Plain.readAll]
    rw [h x (by simp), readAll_map read text f r (fun y hy => h y (by simp [hy]))]
theorem readList_map {α β : Type} (read : List UInt8 → Option β) (text : α → List UInt8) (f : α → β) (l : List α) (hn : l ≠ []) (hl : l.length ≤ 256) (h : ∀ x ∈ l, read (text x) = some (f x)) (hno : ∀ x ∈ l, (44 : UInt8) ∉ text x) (hlen : ∀ x ∈ l, 8 ≤ (text x).length) :
    Plain.readList read (Lib.join (l.map text) [44]) = some (l.map f) := by
  have hc : Plain.cutAll 44 (Lib.join (l.map text) [44]) = l.map text := cutAll_join_no 44 _ (by simpa using hn) (by
    intro p hp
    obtain ⟨x, hx, rfl⟩ := List.mem_map.1 hp
    exact hno x hx)
  have hne : Lib.join (l.map text) [44] ≠ Plain.none4 := by
    intro e
    cases l with
    | nil => exact hn rfl
    | cons x r =>
      have h1 := congrArg List.length e
      rw [List.map_cons, Lib.join_cons, List.length_append] at h1
      have h2 := hlen x (by simp)
      have h3 : Plain.none4.length = 4 := rfl
      omega
  unfold Plain.readList
  rw [if_neg hne, hc, if_neg (by simp; omega)]
  exact readAll_map read text f l h

/-! ### Walked -/
set_option maxHeartbeats 1000000 in
set_option maxRecDepth 100000 in
theorem textOfC2_calls (g c0 : Nat) (l : List (Nat × Nat)) (hn : l ≠ []) (hl : l.length ≤ 256) (hb : ∀ x ∈ l, x.1 < 4294967296 ∧ x.2 < 4294967296) (w : World) (hv : Vars w) (hc : ∀ j (h : j < l.length), w.cell? ⟨g, j, none⟩ = some (.complex .f32 l[j].1 l[j].2)) :
    Calls Tryz.prog 72 #[.slice (some ⟨g, 0, none⟩) l.length c0, .func (.func 73) #[] #[]] w fun e w' => e = .returned (.tuple #[.string (mk (Lib.join (l.map textC) [44])), .bool true]) ∧ Below w.heap.size w w' := by
  have HV := Lib.hid hv; clear hv
  have HC := Lib.hid hc; clear hc
  have HN := Lib.hid hb; clear hb
  go_enter Tryz.func72, Tryz.ntmps72
  go_wp2_with fail
  refine (fewC_calls _ _ _ hl w).mono ?_
  rintro e w1 ⟨rfl, rfl⟩
  go_wp2_with (first | ((with_reducible refine gate_dst (N := 12) rfl ?_); refine Kd.R_lit Kd.string w.heap.size 9 ?hg (N := 12) ?hd (xs := ([] : List ByteArray)) (inner := []) (ok := fun _ => True) (okp := fun _ => True) ?hr ?hp (fun _ hk => hk) trivial (Below.refl w.heap.size w) (Nat.le_refl _) (by simp) ?_; (case hd => rfl); (case hg => rfl); (case hr => first | (go_simp; done) | (go_simp; rfl)); (case hp => exact (Reps.none _ _)); intro v2 w2 ho2 hb2 hg2 hnew2; clear hg2 hnew2))
  have HO : Aside0 (Out Kd.string 9 w v2 [] w2) := ⟨⟨ho2, hb2⟩⟩
  clear ho2 hb2
  go_loopw [6, 15] (fun v i wr => ∃ (k : Nat), i = .int .i64 k ∧ k ≤ l.length ∧ Aside0 (Out Kd.string 9 w v ((l.take k).map fun x => mk (textC x)) wr)) (fun _ i _ => l.length - (intOf i).toNat)
  case atStart => exact ⟨0, rfl, by omega, HO⟩
  case round =>
    clear HO
    obtain ⟨k, rfl, hk, HO⟩ := hrel
    by_cases hlt : k < l.length
    · have hcell := pw_cell_below HO.out.bel (HC.out k hlt)
      have hxb := HN.out l[k] (List.getElem_mem _)
      have hst : (l.take (k + 1)).map (fun x => mk (textC x)) = (l.take k).map (fun x => mk (textC x)) ++ [mk (textC l[k])] := by rw [List.take_succ_eq_append_getElem hlt, List.map_append]; rfl
      have hol : ((l.take k).map fun x => mk (textC x)).length = k := by simp; omega
      have Hst := Lib.hid hst; clear hst
      generalize (l.take k).map (fun x => mk (textC x)) = o at *
      have HX := Lib.hid (fun W hW => hexC_calls l[k] hxb W hW)
      generalize l[k] = x at *
      clear hxb
      generalize mk (textC x) = tx at *
      have e24 : decide (k < l.length) = true := decide_eq_true hlt
      go_wp2_with fail
      refine (HX.out _ (HV.out.step HO.out.bel)).mono ?_
      rintro e w5 ⟨rfl, hb⟩
      have HO5 := Aside0.mk (HO.out.more hb); clear hb HX HO hcell
      go_wp2_with (first | ((with_reducible refine gate_builtin (b := .append) (xs := #[.tmp 19, .tmp 23]) rfl ?_); at_builtin; refine Kd.R_append Kd.string (w0 := w) w.heap.size rfl (.tmp 19) (.tmp 23) 85 9 (.string ⟨#[]⟩) 16 rfl Tryz.underlying85 PFnExactReadGrain.info9 rfl (by decide) (by omega) u6 o tx [.string tx] (fun _ => True) (fun _ => False) rfl rfl ?aP (fun _ hk => hk.elim) ?aF ?aO ?aB ?aS ?aL ?_; (case aP => exact rfl); (case aB => exact HO5.out.bel); (case aF => exact (fun _ _ => trivial)); (case aO => exact HO5.out.row); (case aS => exact HO5.out.bel.size); (case aL => omega); intro v5 w6 ho5 hb5 hg5 hat5; have HO6 : Aside0 (Out Kd.string 9 w v5 (o ++ [tx]) w6) := ⟨⟨ho5, hb5⟩⟩; clear ho5 hb5 hg5 hat5))
      go_roundw
      case rel => exact ⟨k + 1, by go_num, by omega, by rw [Hst.out]; exact HO6⟩
      case measure => simp [intOf]; omega
    · have ht : l.take k = l := List.take_of_length_le (by omega)
      rw [ht] at HO
      have hne : l.map (fun x => mk (textC x)) ≠ [] := by simpa using hn
      have hle : (l.map (fun x => mk (textC x))).length ≤ 256 := by simpa using hl
      have HJ := Lib.hid (orNone_calls _ _ w wr HO.out hne hle (by
        intro p hp
        simp only [List.mem_map] at hp
        obtain ⟨q, ⟨x, hx, rfl⟩, rfl⟩ := hp
        rw [mk_data, textC_length]; omega))
      have hj : (l.map (fun x => mk (textC x))).map (·.data.toList) = l.map textC := by simp [Function.comp_def, mk_data]
      rw [hj] at HJ
      clear hj hne hle ht
      go_wp2_with fail
      refine HJ.out.mono ?_
      rintro e w5 ⟨rfl, hb⟩
      have HB := Lib.hid (below_then HO.out.bel HO.out.bel.size hb); clear hb
      go_wp2
      go_ret2
      exact ⟨rfl, HB.out⟩

set_option maxHeartbeats 1000000 in
set_option maxRecDepth 100000 in
theorem textOfF2_calls (g c0 : Nat) (l : List Nat) (hn : l ≠ []) (hl : l.length ≤ 256) (hb : ∀ x ∈ l, x < 4294967296) (w : World) (hv : Vars w) (hc : ∀ j (h : j < l.length), w.cell? ⟨g, j, none⟩ = some (.float .f32 l[j])) :
    Calls Tryz.prog 93 #[.slice (some ⟨g, 0, none⟩) l.length c0, .func (.func 74) #[] #[]] w fun e w' => e = .returned (.tuple #[.string (mk (Lib.join (l.map textF) [44])), .bool true]) ∧ Below w.heap.size w w' := by
  have HV := Lib.hid hv; clear hv
  have HC := Lib.hid hc; clear hc
  have HN := Lib.hid hb; clear hb
  go_enter Tryz.func93, Tryz.ntmps93
  go_wp2_with fail
  refine (fewF_calls _ _ _ hl w).mono ?_
  rintro e w1 ⟨rfl, rfl⟩
  go_wp2_with (first | ((with_reducible refine gate_dst (N := 12) rfl ?_); refine Kd.R_lit Kd.string w.heap.size 9 ?hg (N := 12) ?hd (xs := ([] : List ByteArray)) (inner := []) (ok := fun _ => True) (okp := fun _ => True) ?hr ?hp (fun _ hk => hk) trivial (Below.refl w.heap.size w) (Nat.le_refl _) (by simp) ?_; (case hd => rfl); (case hg => rfl); (case hr => first | (go_simp; done) | (go_simp; rfl)); (case hp => exact (Reps.none _ _)); intro v2 w2 ho2 hb2 hg2 hnew2; clear hg2 hnew2))
  have HO : Aside0 (Out Kd.string 9 w v2 [] w2) := ⟨⟨ho2, hb2⟩⟩
  clear ho2 hb2
  go_loopw [6, 15] (fun v i wr => ∃ (k : Nat), i = .int .i64 k ∧ k ≤ l.length ∧ Aside0 (Out Kd.string 9 w v ((l.take k).map fun x => mk (textF x)) wr)) (fun _ i _ => l.length - (intOf i).toNat)
  case atStart => exact ⟨0, rfl, by omega, HO⟩
  case round =>
    clear HO
    obtain ⟨k, rfl, hk, HO⟩ := hrel
    by_cases hlt : k < l.length
    · have hcell := pw_cell_below HO.out.bel (HC.out k hlt)
      have hxb := HN.out l[k] (List.getElem_mem _)
      have hst : (l.take (k + 1)).map (fun x => mk (textF x)) = (l.take k).map (fun x => mk (textF x)) ++ [mk (textF l[k])] := by rw [List.take_succ_eq_append_getElem hlt, List.map_append]; rfl
      have hol : ((l.take k).map fun x => mk (textF x)).length = k := by simp; omega
      have Hst := Lib.hid hst; clear hst
      generalize (l.take k).map (fun x => mk (textF x)) = o at *
      have HX := Lib.hid (fun W hW => hexF_calls l[k] hxb W hW)
      generalize l[k] = x at *
      clear hxb
      generalize mk (textF x) = tx at *
      have e24 : decide (k < l.length) = true := decide_eq_true hlt
      go_wp2_with fail
      refine (HX.out _ (HV.out.step HO.out.bel)).mono ?_
      rintro e w5 ⟨rfl, hb⟩
      have HO5 := Aside0.mk (HO.out.more hb); clear hb HX HO hcell
      go_wp2_with (first | ((with_reducible refine gate_builtin (b := .append) (xs := #[.tmp 19, .tmp 23]) rfl ?_); at_builtin; refine Kd.R_append Kd.string (w0 := w) w.heap.size rfl (.tmp 19) (.tmp 23) 85 9 (.string ⟨#[]⟩) 16 rfl Tryz.underlying85 PFnExactReadGrain.info9 rfl (by decide) (by omega) u6 o tx [.string tx] (fun _ => True) (fun _ => False) rfl rfl ?aP (fun _ hk => hk.elim) ?aF ?aO ?aB ?aS ?aL ?_; (case aP => exact rfl); (case aB => exact HO5.out.bel); (case aF => exact (fun _ _ => trivial)); (case aO => exact HO5.out.row); (case aS => exact HO5.out.bel.size); (case aL => omega); intro v5 w6 ho5 hb5 hg5 hat5; have HO6 : Aside0 (Out Kd.string 9 w v5 (o ++ [tx]) w6) := ⟨⟨ho5, hb5⟩⟩; clear ho5 hb5 hg5 hat5))
      go_roundw
      case rel => exact ⟨k + 1, by go_num, by omega, by rw [Hst.out]; exact HO6⟩
      case measure => simp [intOf]; omega
    · have ht : l.take k = l := List.take_of_length_le (by omega)
      rw [ht] at HO
      have hne : l.map (fun x => mk (textF x)) ≠ [] := by simpa using hn
      have hle : (l.map (fun x => mk (textF x))).length ≤ 256 := by simpa using hl
      have HJ := Lib.hid (orNone_calls _ _ w wr HO.out hne hle (by
        intro p hp
        simp only [List.mem_map] at hp
        obtain ⟨q, ⟨x, hx, rfl⟩, rfl⟩ := hp
        rw [mk_data, textF_length]; omega))
      have hj : (l.map (fun x => mk (textF x))).map (·.data.toList) = l.map textF := by simp [Function.comp_def, mk_data]
      rw [hj] at HJ
      clear hj hne hle ht
      go_wp2_with fail
      refine HJ.out.mono ?_
      rintro e w5 ⟨rfl, hb⟩
      have HB := Lib.hid (below_then HO.out.bel HO.out.bel.size hb); clear hb
      go_wp2
      go_ret2
      exact ⟨rfl, HB.out⟩

theorem ComplexText2_calls (g c0 : Nat) (l : List (Nat × Nat)) (hn : l ≠ []) (hl : l.length ≤ 256) (hb : ∀ x ∈ l, x.1 < 4294967296 ∧ x.2 < 4294967296) (w : World) (hv : Vars w) (hc : ∀ j (h : j < l.length), w.cell? ⟨g, j, none⟩ = some (.complex .f32 l[j].1 l[j].2)) :
    Calls Tryz.prog 28 #[.slice (some ⟨g, 0, none⟩) l.length c0] w fun e w' => e = .returned (.tuple #[.string (mk (Lib.join (l.map textC) [44])), .bool true]) ∧ Below w.heap.size w w' := by
  have HC := Lib.hid (textOfC2_calls g c0 l hn hl hb w hv hc)
  clear hc
  go_enter Tryz.func28, Tryz.ntmps28
  go_wp2_with fail
  refine HC.out.mono ?_
  rintro e w1 ⟨rfl, hb⟩
  have HB := Lib.hid hb; clear hb
  go_wp2
  go_ret2
  exact ⟨rfl, HB.out⟩
theorem NumbersText2_calls (g c0 : Nat) (l : List Nat) (hn : l ≠ []) (hl : l.length ≤ 256) (hb : ∀ x ∈ l, x < 4294967296) (w : World) (hv : Vars w) (hc : ∀ j (h : j < l.length), w.cell? ⟨g, j, none⟩ = some (.float .f32 l[j])) :
    Calls Tryz.prog 42 #[.slice (some ⟨g, 0, none⟩) l.length c0] w fun e w' => e = .returned (.tuple #[.string (mk (Lib.join (l.map textF) [44])), .bool true]) ∧ Below w.heap.size w w' := by
  have HC := Lib.hid (textOfF2_calls g c0 l hn hl hb w hv hc)
  clear hc
  go_enter Tryz.func42, Tryz.ntmps42
  go_wp2_with fail
  refine HC.out.mono ?_
  rintro e w1 ⟨rfl, hb⟩
  have HB := Lib.hid hb; clear hb
  go_wp2
  go_ret2
  exact ⟨rfl, HB.out⟩

theorem orNone_empty (v : Value) (w0 w : World) (ho : Out Kd.string 9 w0 v [] w) : Calls Tryz.prog 121 #[v, .string ⟨#[44]⟩] w fun e w' => e = .returned (.string (mk Plain.none4)) ∧ w' = w := by
  obtain ⟨A, c, rfl, hc, hC⟩ := ho.reads
  clear ho hC
  go_enter Tryz.func121, Tryz.ntmps121
  go_wp2_with fail
  go_ret
  exact ⟨rfl, rfl⟩

set_option maxHeartbeats 1000000 in
set_option maxRecDepth 100000 in
theorem ComplexText_empty (A : Option Addr) (c0 : Nat) (w : World) : Calls Tryz.prog 28 #[.slice A 0 c0] w fun e w' => e = .returned (.tuple #[.string (mk Plain.none4), .bool true]) ∧ Below w.heap.size w w' := by
  have HT : Hid (∀ w, Calls Tryz.prog 72 #[.slice A 0 c0, .func (.func 73) #[] #[]] w fun e w' => e = .returned (.tuple #[.string (mk Plain.none4), .bool true]) ∧ Below w.heap.size w w') := Lib.hid (fun w => by
    go_enter Tryz.func72, Tryz.ntmps72
    go_wp2_with fail
    refine (fewC_calls A 0 c0 (by decide) w).mono ?_
    rintro e w1 ⟨rfl, rfl⟩
    go_wp2_with (first | ((with_reducible refine gate_dst (N := 12) rfl ?_); refine Kd.R_lit Kd.string w.heap.size 9 ?hg (N := 12) ?hd (xs := ([] : List ByteArray)) (inner := []) (ok := fun _ => True) (okp := fun _ => True) ?hr ?hp (fun _ hk => hk) trivial (Below.refl w.heap.size w) (Nat.le_refl _) (by simp) ?_; (case hd => rfl); (case hg => rfl); (case hr => first | (go_simp; done) | (go_simp; rfl)); (case hp => exact (Reps.none _ _)); intro v2 w2 ho2 hb2 hg2 hnew2; clear hg2 hnew2))
    have HO : Aside0 (Out Kd.string 9 w v2 [] w2) := ⟨⟨ho2, hb2⟩⟩
    clear ho2 hb2
    go_loopw [6, 15] (fun v i wr => i = .int .i64 0 ∧ Aside0 (Out Kd.string 9 w v [] wr)) (fun _ _ _ => 0)
    case atStart => exact ⟨rfl, HO⟩
    case round =>
      clear HO
      obtain ⟨rfl, HO⟩ := hrel
      have HJ := Lib.hid (orNone_empty _ w wr HO.out)
      go_wp2_with fail
      refine HJ.out.mono ?_
      rintro e w5 ⟨rfl, rfl⟩
      go_wp2
      go_ret2
      exact ⟨rfl, HO.out.bel⟩)
  go_enter Tryz.func28, Tryz.ntmps28
  go_wp2_with fail
  refine (HT.out _).mono ?_
  rintro e w1 ⟨rfl, hb⟩
  have HB := Lib.hid hb; clear hb HT
  go_wp2
  go_ret2
  exact ⟨rfl, HB.out⟩

set_option maxHeartbeats 1000000 in
set_option maxRecDepth 100000 in
theorem NumbersText_empty (A : Option Addr) (c0 : Nat) (w : World) : Calls Tryz.prog 42 #[.slice A 0 c0] w fun e w' => e = .returned (.tuple #[.string (mk Plain.none4), .bool true]) ∧ Below w.heap.size w w' := by
  have HT : Hid (∀ w, Calls Tryz.prog 93 #[.slice A 0 c0, .func (.func 74) #[] #[]] w fun e w' => e = .returned (.tuple #[.string (mk Plain.none4), .bool true]) ∧ Below w.heap.size w w') := Lib.hid (fun w => by
    go_enter Tryz.func93, Tryz.ntmps93
    go_wp2_with fail
    refine (fewF_calls A 0 c0 (by decide) w).mono ?_
    rintro e w1 ⟨rfl, rfl⟩
    go_wp2_with (first | ((with_reducible refine gate_dst (N := 12) rfl ?_); refine Kd.R_lit Kd.string w.heap.size 9 ?hg (N := 12) ?hd (xs := ([] : List ByteArray)) (inner := []) (ok := fun _ => True) (okp := fun _ => True) ?hr ?hp (fun _ hk => hk) trivial (Below.refl w.heap.size w) (Nat.le_refl _) (by simp) ?_; (case hd => rfl); (case hg => rfl); (case hr => first | (go_simp; done) | (go_simp; rfl)); (case hp => exact (Reps.none _ _)); intro v2 w2 ho2 hb2 hg2 hnew2; clear hg2 hnew2))
    have HO : Aside0 (Out Kd.string 9 w v2 [] w2) := ⟨⟨ho2, hb2⟩⟩
    clear ho2 hb2
    go_loopw [6, 15] (fun v i wr => i = .int .i64 0 ∧ Aside0 (Out Kd.string 9 w v [] wr)) (fun _ _ _ => 0)
    case atStart => exact ⟨rfl, HO⟩
    case round =>
      clear HO
      obtain ⟨rfl, HO⟩ := hrel
      have HJ := Lib.hid (orNone_empty _ w wr HO.out)
      go_wp2_with fail
      refine HJ.out.mono ?_
      rintro e w5 ⟨rfl, rfl⟩
      go_wp2
      go_ret2
      exact ⟨rfl, HO.out.bel⟩)
  go_enter Tryz.func42, Tryz.ntmps42
  go_wp2_with fail
  refine (HT.out _).mono ?_
  rintro e w1 ⟨rfl, hb⟩
  have HB := Lib.hid hb; clear hb HT
  go_wp2
  go_ret2
  exact ⟨rfl, HB.out⟩
end Go.Proofs.YticfmlohkfoccaaGreatDoor
