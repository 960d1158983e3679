/- The texts of lists of numbers and of a grain, by the program: walked, where the library's variables hold what they are laid with. -/
import Derived.Test.YticfmlohkfoccaaGreatDoorH10
set_option linter.unusedVariables false
set_option linter.unusedSimpArgs false
namespace Go.Proofs.YticfmlohkfoccaaGreatDoor
open Go.RowKit Go.Proofs.YticfmlohkfoccaaGreatDoorW.PrintWords

def textF (n : Nat) : List UInt8 := Plain.hexL 8 (bits n)
def textC (x : Nat × Nat) : List UInt8 := textF x.1 ++ textF x.2
theorem textF_length (n : Nat) : (textF n).length = 8 := Plain.hexL_length 8 _
theorem textC_length (x : Nat × Nat) : (textC x).length = 16 := by simp [textC, textF_length]
theorem hexF_calls (b : Nat) (hb : b < 4294967296) (w : World) (hv : Vars w) : Calls Tryz.prog 74 #[.float .f32 b] w fun e w' => e = .returned (.string (mk (textF b))) ∧ Below w.heap.size w w' := hex_calls b hb w hv
theorem hexC_calls (x : Nat × Nat) (hx : x.1 < 4294967296 ∧ x.2 < 4294967296) (w : World) (hv : Vars w) : Calls Tryz.prog 73 #[.complex .f32 x.1 x.2] w fun e w' => e = .returned (.string (mk (textC x))) ∧ Below w.heap.size w w' := by
  have HV := Lib.hid hv; clear hv
  obtain ⟨a, b⟩ := x
  have HC1 := Lib.hid (fun W hW => hex_calls a hx.1 W hW)
  have HC2 := Lib.hid (fun W hW => hex_calls b hx.2 W hW)
  have s1 : (mk (Plain.hexL 8 (bits a))).size = 8 := by rw [mk_size, Plain.hexL_length]
  have s2 : (mk (Plain.hexL 8 (bits b))).size = 8 := by rw [mk_size, Plain.hexL_length]
  have Ht : Hid (mk (Plain.hexL 8 (bits a)) ++ mk (Plain.hexL 8 (bits b)) = mk (textC (a, b))) := Lib.hid (by rw [mk_append]; rfl)
  dsimp only
  generalize mk (Plain.hexL 8 (bits a)) = A at *
  generalize mk (Plain.hexL 8 (bits b)) = B at *
  go_enter Tryz.func73, Tryz.ntmps73
  go_wp2_with fail
  refine (HC1.out _ HV.out).mono ?_
  rintro e w1 ⟨rfl, hb⟩
  have HB1 := Lib.hid hb; clear hb
  go_wp2_with fail
  refine (HC2.out _ (HV.out.step HB1.out)).mono ?_
  rintro e w2 ⟨rfl, hb⟩
  have HB2 := Lib.hid (below_then HB1.out HB1.out.size hb); clear hb
  have hle := eq_true (show A.size + B.size ≤ 9223372036854775807 from by omega)
  go_wp2
  go_ret
  exact ⟨by rw [← Ht.out]; rfl, HB2.out⟩
theorem join_bound (m : UInt8) (l : List (List UInt8)) (q : Nat) (h : ∀ p ∈ l, p.length ≤ q) : (Lib.join l [m]).length ≤ l.length * (q + 1) := by
  cases l with
  | nil => simp [Lib.join_nil]
  | cons x r =>
    rw [Lib.join_cons, List.length_append, Lib.joinTail_length]
    have h1 : ∀ r : List (List UInt8), (∀ p ∈ r, p.length ≤ q) → Lib.lens r ≤ r.length * q := by
      intro r
      induction r with
      | nil => intro _; simp [Lib.lens]
      | cons y r ih =>
        intro hr
        have := ih (fun p hp => hr p (by simp [hp]))
        have h2 := hr y (by simp)
        simp [Lib.lens, Nat.add_mul] at this ⊢
        omega
    have h2 := h1 r (fun p hp => h p (by simp [hp]))
    have h3 := h x (by simp)
    simp [Nat.add_mul, Nat.mul_add]
    omega
set_option maxHeartbeats 1000000 in
theorem orNone_calls (v : Value) (L : List ByteArray) (w0 w : World) (ho : Out Kd.string 9 w0 v L w) (hn : L ≠ []) (hl : L.length ≤ 256) (hs : ∀ p ∈ L.map (·.data.toList), p.length ≤ 1048576) : Calls Tryz.prog 121 #[v, .string ⟨#[44]⟩] w fun e w' => e = .returned (.string (mk (Lib.join (L.map (·.data.toList)) [44]))) ∧ Below w.heap.size w w' := by
  have hp : 0 < L.length := List.length_pos_iff.2 hn
  obtain ⟨g, cap, rfl, _, hlt, _⟩ := Kd.R_form ho.row hp
  obtain ⟨A, c, hv, hc, hC⟩ := ho.reads
  injection hv with h1 _ h3
  subst h1; subst h3
  have hjb := join_bound 44 (L.map (·.data.toList)) 1048576 hs
  rw [List.length_map] at hjb
  have HJ := Lib.hid (Tryz.strings_Join g 0 cap L ⟨#[44]⟩ w (fun j x hj => by
    obtain ⟨hj1, hj2⟩ := List.getElem?_eq_some_iff.1 hj
    obtain ⟨ad, e, hcell⟩ := lines_cell hC (Below.refl _ _) j hj1
    injection e with e
    subst e
    rw [Lib.add_plain] at hcell
    rw [← hj2]
    exact hcell) hlt (by omega) hc (by
      have : (⟨#[44]⟩ : ByteArray).data.toList = [44] := rfl
      rw [this]
      have : L.length * (1048576 + 1) ≤ 256 * 1048577 := Nat.mul_le_mul hl (by omega)
      omega))
  have hz : ((L.length : Int) == 0) = false := by simp; omega
  clear hjb hC ho
  go_enter Tryz.func121, Tryz.ntmps121
  go_wp2_with fail
  refine HJ.out.mono ?_
  rintro e w1 ⟨rfl, hb⟩
  have HB := Lib.hid hb; clear hb
  go_wp2
  go_ret
  exact ⟨rfl, HB.out⟩
theorem fewC_calls (A : Option Addr) (n c : Nat) (hn : n ≤ 256) (w : World) : Calls Tryz.prog 120 #[.slice A n c] w fun e w' => e = .returned (.bool true) ∧ w = w' := by
  have h : decide ((n : Int) ≤ 256) = true := decide_eq_true (by omega)
  go_enter Tryz.func120, Tryz.ntmps120
  go_wp2
  go_ret
  exact ⟨rfl, rfl⟩
theorem fewF_calls (A : Option Addr) (n c : Nat) (hn : n ≤ 256) (w : World) : Calls Tryz.prog 92 #[.slice A n c] w fun e w' => e = .returned (.bool true) ∧ w = w' := by
  have h : decide ((n : Int) ≤ 256) = true := decide_eq_true (by omega)
  go_enter Tryz.func92, Tryz.ntmps92
  go_wp2
  go_ret
  exact ⟨rfl, rfl⟩

set_option maxHeartbeats 1000000 in
set_option maxRecDepth 100000 in
theorem textOfC_calls (g : Nat) (l : List (Nat × Nat)) (hn : l ≠ []) (hl : l.length ≤ 256) (hb : ∀ x ∈ l, x.1 < 4294967296 ∧ x.2 < 4294967296) (w : World) (hv : Vars w) (hc : ∀ j (h : j < l.length), w.cell? ⟨g, j, none⟩ = some (.complex .f32 l[j].1 l[j].2)) :
    Calls Tryz.prog 72 #[.slice (some ⟨g, 0, none⟩) l.length l.length, .func (.func 73) #[] #[]] w fun e w' => e = .returned (.tuple #[.string (mk (Lib.join (l.map textC) [44])), .bool true]) ∧ Below w.heap.size w w' := by
  have HV := Lib.hid hv; clear hv
  have HC := Lib.hid hc; clear hc
  have HN := Lib.hid hb; clear hb
  go_enter Tryz.func72, Tryz.ntmps72
  go_wp2_with fail
  refine (fewC_calls _ _ _ hl w).mono ?_
  rintro e w1 ⟨rfl, rfl⟩
  go_wp2_with (first | ((with_reducible refine gate_dst (N := 12) rfl ?_); refine Kd.R_lit Kd.string w.heap.size 9 ?hg (N := 12) ?hd (xs := ([] : List ByteArray)) (inner := []) (ok := fun _ => True) (okp := fun _ => True) ?hr ?hp (fun _ hk => hk) trivial (Below.refl w.heap.size w) (Nat.le_refl _) (by simp) ?_; (case hd => rfl); (case hg => rfl); (case hr => first | (go_simp; done) | (go_simp; rfl)); (case hp => exact (Reps.none _ _)); intro v2 w2 ho2 hb2 hg2 hnew2; clear hg2 hnew2))
  have HO : Aside0 (Out Kd.string 9 w v2 [] w2) := ⟨⟨ho2, hb2⟩⟩
  clear ho2 hb2
  go_loopw [6, 15] (fun v i wr => ∃ (k : Nat), i = .int .i64 k ∧ k ≤ l.length ∧ Aside0 (Out Kd.string 9 w v ((l.take k).map fun x => mk (textC x)) wr)) (fun _ i _ => l.length - (intOf i).toNat)
  case atStart => exact ⟨0, rfl, by omega, HO⟩
  case round =>
    clear HO
    obtain ⟨k, rfl, hk, HO⟩ := hrel
    by_cases hlt : k < l.length
    · have hcell := pw_cell_below HO.out.bel (HC.out k hlt)
      have hxb := HN.out l[k] (List.getElem_mem _)
      have hst : (l.take (k + 1)).map (fun x => mk (textC x)) = (l.take k).map (fun x => mk (textC x)) ++ [mk (textC l[k])] := by rw [List.take_succ_eq_append_getElem hlt, List.map_append]; rfl
      have hol : ((l.take k).map fun x => mk (textC x)).length = k := by simp; omega
      have Hst := Lib.hid hst; clear hst
      generalize (l.take k).map (fun x => mk (textC x)) = o at *
      have HX := Lib.hid (fun W hW => hexC_calls l[k] hxb W hW)
      generalize l[k] = x at *
      clear hxb
      generalize mk (textC x) = tx at *
      have e24 : decide (k < l.length) = true := decide_eq_true hlt
      go_wp2_with fail
      refine (HX.out _ (HV.out.step HO.out.bel)).mono ?_
      rintro e w5 ⟨rfl, hb⟩
      have HO5 := Aside0.mk (HO.out.more hb); clear hb HX HO hcell
      go_wp2_with (first | ((with_reducible refine gate_builtin (b := .append) (xs := #[.tmp 19, .tmp 23]) rfl ?_); at_builtin; refine Kd.R_append Kd.string (w0 := w) w.heap.size rfl (.tmp 19) (.tmp 23) 85 9 (.string ⟨#[]⟩) 16 rfl Tryz.underlying85 PFnExactReadGrain.info9 rfl (by decide) (by omega) u6 o tx [.string tx] (fun _ => True) (fun _ => False) rfl rfl ?aP (fun _ hk => hk.elim) ?aF ?aO ?aB ?aS ?aL ?_; (case aP => exact rfl); (case aB => exact HO5.out.bel); (case aF => exact (fun _ _ => trivial)); (case aO => exact HO5.out.row); (case aS => exact HO5.out.bel.size); (case aL => omega); intro v5 w6 ho5 hb5 hg5 hat5; have HO6 : Aside0 (Out Kd.string 9 w v5 (o ++ [tx]) w6) := ⟨⟨ho5, hb5⟩⟩; clear ho5 hb5 hg5 hat5))
      go_roundw
      case rel => exact ⟨k + 1, by go_num, by omega, by rw [Hst.out]; exact HO6⟩
      case measure => simp [intOf]; omega
    · have ht : l.take k = l := List.take_of_length_le (by omega)
      rw [ht] at HO
      have hne : l.map (fun x => mk (textC x)) ≠ [] := by simpa using hn
      have hle : (l.map (fun x => mk (textC x))).length ≤ 256 := by simpa using hl
      have HJ := Lib.hid (orNone_calls _ _ w wr HO.out hne hle (by
        intro p hp
        simp only [List.mem_map] at hp
        obtain ⟨q, ⟨x, hx, rfl⟩, rfl⟩ := hp
        rw [mk_data, textC_length]; omega))
      have hj : (l.map (fun x => mk (textC x))).map (·.data.toList) = l.map textC := by simp [Function.comp_def, mk_data]
      rw [hj] at HJ
      clear hj hne hle ht
      go_wp2_with fail
      refine HJ.out.mono ?_
      rintro e w5 ⟨rfl, hb⟩
      have HB := Lib.hid (below_then HO.out.bel HO.out.bel.size hb); clear hb
      go_wp2
      go_ret2
      exact ⟨rfl, HB.out⟩

set_option maxHeartbeats 1000000 in
set_option maxRecDepth 100000 in
theorem textOfF_calls (g : Nat) (l : List Nat) (hn : l ≠ []) (hl : l.length ≤ 256) (hb : ∀ x ∈ l, x < 4294967296) (w : World) (hv : Vars w) (hc : ∀ j (h : j < l.length), w.cell? ⟨g, j, none⟩ = some (.float .f32 l[j])) :
    Calls Tryz.prog 93 #[.slice (some ⟨g, 0, none⟩) l.length l.length, .func (.func 74) #[] #[]] w fun e w' => e = .returned (.tuple #[.string (mk (Lib.join (l.map textF) [44])), .bool true]) ∧ Below w.heap.size w w' := by
  have HV := Lib.hid hv; clear hv
  have HC := Lib.hid hc; clear hc
  have HN := Lib.hid hb; clear hb
  go_enter Tryz.func93, Tryz.ntmps93
  go_wp2_with fail
  refine (fewF_calls _ _ _ hl w).mono ?_
  rintro e w1 ⟨rfl, rfl⟩
  go_wp2_with (first | ((with_reducible refine gate_dst (N := 12) rfl ?_); refine Kd.R_lit Kd.string w.heap.size 9 ?hg (N := 12) ?hd (xs := ([] : List ByteArray)) (inner := []) (ok := fun _ => True) (okp := fun _ => True) ?hr ?hp (fun _ hk => hk) trivial (Below.refl w.heap.size w) (Nat.le_refl _) (by simp) ?_; (case hd => rfl); (case hg => rfl); (case hr => first | (go_simp; done) | (go_simp; rfl)); (case hp => exact (Reps.none _ _)); intro v2 w2 ho2 hb2 hg2 hnew2; clear hg2 hnew2))
  have HO : Aside0 (Out Kd.string 9 w v2 [] w2) := ⟨⟨ho2, hb2⟩⟩
  clear ho2 hb2
  go_loopw [6, 15] (fun v i wr => ∃ (k : Nat), i = .int .i64 k ∧ k ≤ l.length ∧ Aside0 (Out Kd.string 9 w v ((l.take k).map fun x => mk (textF x)) wr)) (fun _ i _ => l.length - (intOf i).toNat)
  case atStart => exact ⟨0, rfl, by omega, HO⟩
  case round =>
    clear HO
    obtain ⟨k, rfl, hk, HO⟩ := hrel
    by_cases hlt : k < l.length
    · have hcell := pw_cell_below HO.out.bel (HC.out k hlt)
      have hxb := HN.out l[k] (List.getElem_mem _)
      have hst : (l.take (k + 1)).map (fun x => mk (textF x)) = (l.take k).map (fun x => mk (textF x)) ++ [mk (textF l[k])] := by rw [List.take_succ_eq_append_getElem hlt, List.map_append]; rfl
      have hol : ((l.take k).map fun x => mk (textF x)).length = k := by simp; omega
      have Hst := Lib.hid hst; clear hst
      generalize (l.take k).map (fun x => mk (textF x)) = o at *
      have HX := Lib.hid (fun W hW => hexF_calls l[k] hxb W hW)
      generalize l[k] = x at *
      clear hxb
      generalize mk (textF x) = tx at *
      have e24 : decide (k < l.length) = true := decide_eq_true hlt
      go_wp2_with fail
      refine (HX.out _ (HV.out.step HO.out.bel)).mono ?_
      rintro e w5 ⟨rfl, hb⟩
      have HO5 := Aside0.mk (HO.out.more hb); clear hb HX HO hcell
      go_wp2_with (first | ((with_reducible refine gate_builtin (b := .append) (xs := #[.tmp 19, .tmp 23]) rfl ?_); at_builtin; refine Kd.R_append Kd.string (w0 := w) w.heap.size rfl (.tmp 19) (.tmp 23) 85 9 (.string ⟨#[]⟩) 16 rfl Tryz.underlying85 PFnExactReadGrain.info9 rfl (by decide) (by omega) u6 o tx [.string tx] (fun _ => True) (fun _ => False) rfl rfl ?aP (fun _ hk => hk.elim) ?aF ?aO ?aB ?aS ?aL ?_; (case aP => exact rfl); (case aB => exact HO5.out.bel); (case aF => exact (fun _ _ => trivial)); (case aO => exact HO5.out.row); (case aS => exact HO5.out.bel.size); (case aL => omega); intro v5 w6 ho5 hb5 hg5 hat5; have HO6 : Aside0 (Out Kd.string 9 w v5 (o ++ [tx]) w6) := ⟨⟨ho5, hb5⟩⟩; clear ho5 hb5 hg5 hat5))
      go_roundw
      case rel => exact ⟨k + 1, by go_num, by omega, by rw [Hst.out]; exact HO6⟩
      case measure => simp [intOf]; omega
    · have ht : l.take k = l := List.take_of_length_le (by omega)
      rw [ht] at HO
      have hne : l.map (fun x => mk (textF x)) ≠ [] := by simpa using hn
      have hle : (l.map (fun x => mk (textF x))).length ≤ 256 := by simpa using hl
      have HJ := Lib.hid (orNone_calls _ _ w wr HO.out hne hle (by
        intro p hp
        simp only [List.mem_map] at hp
        obtain ⟨q, ⟨x, hx, rfl⟩, rfl⟩ := hp
        rw [mk_data, textF_length]; omega))
      have hj : (l.map (fun x => mk (textF x))).map (·.data.toList) = l.map textF := by simp [Function.comp_def, mk_data]
      rw [hj] at HJ
      clear hj hne hle ht
      go_wp2_with fail
      refine HJ.out.mono ?_
      rintro e w5 ⟨rfl, hb⟩
      have HB := Lib.hid (below_then HO.out.bel HO.out.bel.size hb); clear hb
      go_wp2
      go_ret2
      exact ⟨rfl, HB.out⟩

theorem ComplexText_calls (g : Nat) (l : List (Nat × Nat)) (hn : l ≠ []) (hl : l.length ≤ 256) (hb : ∀ x ∈ l, x.1 < 4294967296 ∧ x.2 < 4294967296) (w : World) (hv : Vars w) (hc : ∀ j (h : j < l.length), w.cell? ⟨g, j, none⟩ = some (.complex .f32 l[j].1 l[j].2)) :
    Calls Tryz.prog 28 #[.slice (some ⟨g, 0, none⟩) l.length l.length] w fun e w' => e = .returned (.tuple #[.string (mk (Lib.join (l.map textC) [44])), .bool true]) ∧ Below w.heap.size w w' := by
  have HC := Lib.hid (textOfC_calls g l hn hl hb w hv hc)
  clear hc
  go_enter Tryz.func28, Tryz.ntmps28
  go_wp2_with fail
  refine HC.out.mono ?_
  rintro e w1 ⟨rfl, hb⟩
  have HB := Lib.hid hb; clear hb
  go_wp2
  go_ret2
  exact ⟨rfl, HB.out⟩
theorem NumbersText_calls (g : Nat) (l : List Nat) (hn : l ≠ []) (hl : l.length ≤ 256) (hb : ∀ x ∈ l, x < 4294967296) (w : World) (hv : Vars w) (hc : ∀ j (h : j < l.length), w.cell? ⟨g, j, none⟩ = some (.float .f32 l[j])) :
    Calls Tryz.prog 42 #[.slice (some ⟨g, 0, none⟩) l.length l.length] w fun e w' => e = .returned (.tuple #[.string (mk (Lib.join (l.map textF) [44])), .bool true]) ∧ Below w.heap.size w w' := by
  have HC := Lib.hid (textOfF_calls g l hn hl hb w hv hc)
  clear hc
  go_enter Tryz.func42, Tryz.ntmps42
  go_wp2_with fail
  refine HC.out.mono ?_
  rintro e w1 ⟨rfl, hb⟩
  have HB := Lib.hid hb; clear hb
  go_wp2
  go_ret2
  exact ⟨rfl, HB.out⟩
end Go.Proofs.YticfmlohkfoccaaGreatDoor
