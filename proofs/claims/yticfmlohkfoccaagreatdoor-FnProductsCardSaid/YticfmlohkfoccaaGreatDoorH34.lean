/- Lists of numbers that the laws draw out of bytes, walked: any bits, as many as asked. -/
import Derived.Test.YticfmlohkfoccaaGreatDoorH33
set_option linter.unusedVariables false
set_option linter.unusedSimpArgs false
namespace Go.Proofs.YticfmlohkfoccaaGreatDoor
open Go.RowKit Go.Proofs.YticfmlohkfoccaaGreatDoorW.PrintWords

def goodF (x : Nat) : Prop := x < 4294967296
def goodC (x : Nat × Nat) : Prop := x.1 < 4294967296 ∧ x.2 < 4294967296

set_option maxHeartbeats 2000000 in
set_option maxRecDepth 100000 in
theorem floats_calls (p n : Nat) (hn : n ≤ 100) (w : World) (hs : Src w p 0) : Calls Tryz.prog 91 #[.pointer (some ⟨p, 0, none⟩), .int .i64 n] w fun e w' => ∃ v o, e = .returned v ∧ o.length = n ∧ (∀ x ∈ o, goodF x) ∧ Kd.R kF 29 w' w.heap.size (fun _ => True) v o ∧ Turned p w w' := by
  have HS := Lib.hid hs
  have hpl := src_lt hs
  have HC1 := Lib.hid (fun W (hs : Src W p 0) => one_calls p 0 4 (by decide) (by decide) (by decide) W hs)
  have HC2 := Lib.hid (fun m W (hm : m < 1000000) hs => float_calls p m (by omega) W hs)
  have HC3 := Lib.hid (fun m W (hm : m < 1000000) hs => plain_calls p m (by omega) W hs)
  clear hs
  go_enter Tryz.func91, Tryz.ntmps91
  go_wp2_with (first | ((with_reducible refine gate_dst (N := 7) rfl ?_); refine Kd.R_lit kF w.heap.size 29 ?hg (N := 7) ?hd (xs := ([] : List Nat)) (inner := []) (ok := fun _ => True) (okp := fun _ => True) ?hr ?hp (fun _ hk => hk) trivial (Below.refl w.heap.size w) (Nat.le_refl _) (by simp) ?_; (case hd => rfl); (case hg => rfl); (case hr => first | (go_simp; done) | (go_simp; rfl)); (case hp => exact (Reps.none _ _)); intro v2 w2 ho2 hb2 hg2 hnew2; clear hg2 hnew2))
  have HF0 : Hid (FWalk kF 29 w p 0 v2 [] w2) := Lib.hid ⟨Kd.R_mono (Kd.R_bound ho2) (fun k hk => by have := hk.2.1; omega), HS.out.grow hb2 hpl, (Turned.refl p w).grow hb2 hpl, hpl⟩
  clear ho2 hb2 HS
  refine (HC1.out _ HF0.out.src).mono ?_
  rintro e w3 ⟨⟨b, rfl⟩, hs3, ht3⟩
  have HF : Aside0 (FWalk kF 29 w p 2 v2 [] w3) := ⟨HF0.out.more hs3 ht3⟩
  clear hs3 ht3 HF0 HC1
  go_wp2_with fail
  go_loopw [1, 5] (fun c v wr => ∃ (k : Nat) (o : List Nat), c = .int .i64 ((n : Int) - (k : Int)) ∧ k ≤ n ∧ o.length = k ∧ Aside0 (∀ x ∈ o, goodF x) ∧ Aside0 (FWalk kF 29 w p (2 + 20 * k) v o wr)) (fun c _ _ => (intOf c).toNat)
  case atStart => exact ⟨0, [], by simp, by omega, rfl, ⟨by simp⟩, HF⟩
  case round =>
    clear HF
    obtain ⟨k, o, rfl, hk, hol, HA, HW⟩ := hrel
    by_cases hlt : k < n
    · have d1 : decide (0 < (n : Int) - (k : Int)) = true := decide_eq_true (by omega)
      have d2 : decide ((k : Int) < (n : Int)) = true := decide_eq_true (by omega)
      have d3 : decide (k < n) = true := decide_eq_true hlt
      cases b with
      | true =>
        go_wp2_with fail
        refine (HC2.out _ _ (by omega) HW.out.src).mono ?_
        rintro e w4 ⟨⟨x, rfl, hx⟩, hs4, ht4⟩
        have HW4 := Aside0.mk (HW.out.more hs4 ht4)
        have HA4 : Aside0 (∀ z ∈ o ++ [x], goodF z) := ⟨fun z hz => by
          rcases List.mem_append.1 hz with hz | hz
          · exact HA.out z hz
          · rw [List.mem_singleton.1 hz]; exact hx⟩
        clear hs4 ht4 HW HA
        go_wp2_with (first | ((with_reducible refine gate_builtin (b := .append) (xs := #[.tmp 15, .tmp 18]) rfl ?_); at_builtin; refine Kd.R_append kF (w0 := w4) w.heap.size rfl (.tmp 15) (.tmp 18) 63 29 (.float .f32 0) 4 rfl Tryz.underlying63 info29 rfl (by decide) (by omega) u5 o (x) [.float .f32 x] (fun k => k ≠ p) (fun _ => False) rfl rfl ?aP (fun _ hk => hk.elim) ?aF ?aO ?aB ?aS ?aL ?_; (case aP => exact rfl); (case aB => exact Below.refl _ _); (case aF => exact HW4.out.fresh); (case aO => exact HW4.out.row); (case aS => exact HW4.out.tur.siz); (case aL => omega); intro v5 w5 ho5 hb5 hg5 hat5; have HW5 := Aside0.mk (HW4.out.next ho5 hb5); clear ho5 hb5 hg5 hat5))
        go_roundw
        case rel => exact ⟨k + 1, o ++ [x], congrArg (Value.int IntKind.i64) (by omega), by omega, by simp; omega, HA4, ⟨⟨HW5.out.row, HW5.out.src.le (by omega), HW5.out.tur, HW5.out.lt⟩⟩⟩
        case measure => simp [intOf]; omega
      | false =>
        go_wp2_with fail
        refine (HC3.out _ _ (by omega) HW.out.src).mono ?_
        rintro e w4 ⟨⟨x, rfl, hx⟩, hs4, ht4⟩
        have HW4 := Aside0.mk (HW.out.more hs4 ht4)
        have HA4 : Aside0 (∀ z ∈ o ++ [x], goodF z) := ⟨fun z hz => by
          rcases List.mem_append.1 hz with hz | hz
          · exact HA.out z hz
          · rw [List.mem_singleton.1 hz]; exact hx⟩
        clear hs4 ht4 HW HA
        go_wp2_with (first | ((with_reducible refine gate_builtin (b := .append) (xs := #[.tmp 20, .tmp 23]) rfl ?_); at_builtin; refine Kd.R_append kF (w0 := w4) w.heap.size rfl (.tmp 20) (.tmp 23) 63 29 (.float .f32 0) 4 rfl Tryz.underlying63 info29 rfl (by decide) (by omega) u5 o (x) [.float .f32 x] (fun k => k ≠ p) (fun _ => False) rfl rfl ?aP (fun _ hk => hk.elim) ?aF ?aO ?aB ?aS ?aL ?_; (case aP => exact rfl); (case aB => exact Below.refl _ _); (case aF => exact HW4.out.fresh); (case aO => exact HW4.out.row); (case aS => exact HW4.out.tur.siz); (case aL => omega); intro v5 w5 ho5 hb5 hg5 hat5; have HW5 := Aside0.mk (HW4.out.next ho5 hb5); clear ho5 hb5 hg5 hat5))
        go_roundw
        case rel => exact ⟨k + 1, o ++ [x], congrArg (Value.int IntKind.i64) (by omega), by omega, by simp; omega, HA4, ⟨⟨HW5.out.row, HW5.out.src.le (by omega), HW5.out.tur, HW5.out.lt⟩⟩⟩
        case measure => simp [intOf]; omega
    · have d1 : decide (0 < (n : Int) - (k : Int)) = false := decide_eq_false (by omega)
      have d2 : decide ((k : Int) < (n : Int)) = false := decide_eq_false (by omega)
      have d3 : decide (k < n) = false := decide_eq_false hlt
      have Hol : Hid (o.length = n) := Lib.hid (by omega)
      go_wp2_with fail
      go_ret
      exact ⟨_, o, rfl, Hol.out, HA.out, Kd.R_mono HW.out.row (fun _ _ => trivial), HW.out.tur⟩

set_option maxHeartbeats 2000000 in
set_option maxRecDepth 100000 in
theorem complexes_calls (p n : Nat) (hn : n ≤ 100) (w : World) (hs : Src w p 0) : Calls Tryz.prog 71 #[.pointer (some ⟨p, 0, none⟩), .int .i64 n] w fun e w' => ∃ v o, e = .returned v ∧ o.length = n ∧ (∀ x ∈ o, goodC x) ∧ Kd.R kC 28 w' w.heap.size (fun _ => True) v o ∧ Turned p w w' := by
  have HS := Lib.hid hs
  have hpl := src_lt hs
  have HC1 := Lib.hid (fun W (hs : Src W p 0) => one_calls p 0 5 (by decide) (by decide) (by decide) W hs)
  have HC2 := Lib.hid (fun m W (hm : m < 1000000) hs => complex_calls p m hm W hs)
  have HC3 := Lib.hid (fun m W (hm : m < 1000000) hs => fine_calls p m hm W hs)
  clear hs
  go_enter Tryz.func71, Tryz.ntmps71
  go_wp2_with (first | ((with_reducible refine gate_dst (N := 7) rfl ?_); refine Kd.R_lit kC w.heap.size 28 ?hg (N := 7) ?hd (xs := ([] : List (Nat × Nat))) (inner := []) (ok := fun _ => True) (okp := fun _ => True) ?hr ?hp (fun _ hk => hk) trivial (Below.refl w.heap.size w) (Nat.le_refl _) (by simp) ?_; (case hd => rfl); (case hg => rfl); (case hr => first | (go_simp; done) | (go_simp; rfl)); (case hp => exact (Reps.none _ _)); intro v2 w2 ho2 hb2 hg2 hnew2; clear hg2 hnew2))
  have HF0 : Hid (FWalk kC 28 w p 0 v2 [] w2) := Lib.hid ⟨Kd.R_mono (Kd.R_bound ho2) (fun k hk => by have := hk.2.1; omega), HS.out.grow hb2 hpl, (Turned.refl p w).grow hb2 hpl, hpl⟩
  clear ho2 hb2 HS
  refine (HC1.out _ HF0.out.src).mono ?_
  rintro e w3 ⟨⟨b, rfl⟩, hs3, ht3⟩
  have HF : Aside0 (FWalk kC 28 w p 2 v2 [] w3) := ⟨HF0.out.more hs3 ht3⟩
  clear hs3 ht3 HF0 HC1
  go_wp2_with fail
  go_loopw [1, 5] (fun c v wr => ∃ (k : Nat) (o : List (Nat × Nat)), c = .int .i64 ((n : Int) - (k : Int)) ∧ k ≤ n ∧ o.length = k ∧ Aside0 (∀ x ∈ o, goodC x) ∧ Aside0 (FWalk kC 28 w p (2 + 20 * k) v o wr)) (fun c _ _ => (intOf c).toNat)
  case atStart => exact ⟨0, [], by simp, by omega, rfl, ⟨by simp⟩, HF⟩
  case round =>
    clear HF
    obtain ⟨k, o, rfl, hk, hol, HA, HW⟩ := hrel
    by_cases hlt : k < n
    · have d1 : decide (0 < (n : Int) - (k : Int)) = true := decide_eq_true (by omega)
      have d2 : decide ((k : Int) < (n : Int)) = true := decide_eq_true (by omega)
      have d3 : decide (k < n) = true := decide_eq_true hlt
      cases b with
      | true =>
        go_wp2_with fail
        refine (HC2.out _ _ (by omega) HW.out.src).mono ?_
        rintro e w4 ⟨⟨x, y, rfl, hx, hy⟩, hs4, ht4⟩
        have HW4 := Aside0.mk (HW.out.more hs4 ht4)
        have HA4 : Aside0 (∀ z ∈ o ++ [(x, y)], goodC z) := ⟨fun z hz => by
          rcases List.mem_append.1 hz with hz | hz
          · exact HA.out z hz
          · rw [List.mem_singleton.1 hz]; exact ⟨hx, hy⟩⟩
        clear hs4 ht4 HW HA
        go_wp2_with (first | ((with_reducible refine gate_builtin (b := .append) (xs := #[.tmp 15, .tmp 18]) rfl ?_); at_builtin; refine Kd.R_append kC (w0 := w4) w.heap.size rfl (.tmp 15) (.tmp 18) 37 28 (.complex .f32 0 0) 8 rfl Tryz.underlying37 info28 rfl (by decide) (by omega) u5 o ((x, y)) [.complex .f32 x y] (fun k => k ≠ p) (fun _ => False) rfl rfl ?aP (fun _ hk => hk.elim) ?aF ?aO ?aB ?aS ?aL ?_; (case aP => exact rfl); (case aB => exact Below.refl _ _); (case aF => exact HW4.out.fresh); (case aO => exact HW4.out.row); (case aS => exact HW4.out.tur.siz); (case aL => omega); intro v5 w5 ho5 hb5 hg5 hat5; have HW5 := Aside0.mk (HW4.out.next ho5 hb5); clear ho5 hb5 hg5 hat5))
        go_roundw
        case rel => exact ⟨k + 1, o ++ [(x, y)], congrArg (Value.int IntKind.i64) (by omega), by omega, by simp; omega, HA4, ⟨⟨HW5.out.row, HW5.out.src.le (by omega), HW5.out.tur, HW5.out.lt⟩⟩⟩
        case measure => simp [intOf]; omega
      | false =>
        go_wp2_with fail
        refine (HC3.out _ _ (by omega) HW.out.src).mono ?_
        rintro e w4 ⟨⟨x, y, rfl, hx, hy⟩, hs4, ht4⟩
        have HW4 := Aside0.mk (HW.out.more hs4 ht4)
        have HA4 : Aside0 (∀ z ∈ o ++ [(x, y)], goodC z) := ⟨fun z hz => by
          rcases List.mem_append.1 hz with hz | hz
          · exact HA.out z hz
          · rw [List.mem_singleton.1 hz]; exact ⟨hx, hy⟩⟩
        clear hs4 ht4 HW HA
        go_wp2_with (first | ((with_reducible refine gate_builtin (b := .append) (xs := #[.tmp 20, .tmp 23]) rfl ?_); at_builtin; refine Kd.R_append kC (w0 := w4) w.heap.size rfl (.tmp 20) (.tmp 23) 37 28 (.complex .f32 0 0) 8 rfl Tryz.underlying37 info28 rfl (by decide) (by omega) u5 o ((x, y)) [.complex .f32 x y] (fun k => k ≠ p) (fun _ => False) rfl rfl ?aP (fun _ hk => hk.elim) ?aF ?aO ?aB ?aS ?aL ?_; (case aP => exact rfl); (case aB => exact Below.refl _ _); (case aF => exact HW4.out.fresh); (case aO => exact HW4.out.row); (case aS => exact HW4.out.tur.siz); (case aL => omega); intro v5 w5 ho5 hb5 hg5 hat5; have HW5 := Aside0.mk (HW4.out.next ho5 hb5); clear ho5 hb5 hg5 hat5))
        go_roundw
        case rel => exact ⟨k + 1, o ++ [(x, y)], congrArg (Value.int IntKind.i64) (by omega), by omega, by simp; omega, HA4, ⟨⟨HW5.out.row, HW5.out.src.le (by omega), HW5.out.tur, HW5.out.lt⟩⟩⟩
        case measure => simp [intOf]; omega
    · have d1 : decide (0 < (n : Int) - (k : Int)) = false := decide_eq_false (by omega)
      have d2 : decide ((k : Int) < (n : Int)) = false := decide_eq_false (by omega)
      have d3 : decide (k < n) = false := decide_eq_false hlt
      have Hol : Hid (o.length = n) := Lib.hid (by omega)
      go_wp2_with fail
      go_ret
      exact ⟨_, o, rfl, Hol.out, HA.out, Kd.R_mono HW.out.row (fun _ _ => trivial), HW.out.tur⟩
end Go.Proofs.YticfmlohkfoccaaGreatDoor
