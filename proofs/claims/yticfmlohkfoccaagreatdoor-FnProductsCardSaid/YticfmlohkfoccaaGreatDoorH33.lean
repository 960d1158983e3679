/- Lists and single numbers that the laws draw out of bytes, walked: any bits, as many as asked. -/
import Derived.Test.YticfmlohkfoccaaGreatDoorH32
set_option linter.unusedVariables false
set_option linter.unusedSimpArgs false
namespace Go.Proofs.YticfmlohkfoccaaGreatDoor
open Go.RowKit Go.Proofs.YticfmlohkfoccaaGreatDoorW.PrintWords

theorem Src.grow {W W2 : World} {p m B : Nat} (h : Src W p m) (k : Below B W W2) (hB : p < B) : Src W2 p m := by
  obtain ⟨A, n, c, a, z, h1, h2, h3, h4, h5⟩ := h.box
  refine ⟨A, n, c, a, z, (k.block p hB).trans h1, h2, h3, h4, fun i hi => ?_⟩
  obtain ⟨ad, b, e1, e2, e3, e4⟩ := h5 i hi
  exact ⟨ad, b, e1, e2, by rw [k.cell (p := ad.add i) (by rw [add_block]; omega)]; exact e3, e4⟩
theorem Turned.grow {p : Nat} {w W W2 : World} (h : Turned p w W) (k : Below w.heap.size W W2) (hp : p < w.heap.size) : Turned p w W2 :=
  ⟨Nat.le_trans h.siz k.size, fun j hj hl => (k.block j hl).trans (h.oth j hj hl), fun B w0 hb hB => (h.bel B w0 hb hB).trans ⟨k.os, k.tape, k.output, k.size, fun j hj => k.block j (by omega)⟩⟩
/-- A row that grows while a source is drawn from. -/
structure FWalk {α : Type} (d : Kd α) (e : Nat) (w : World) (p m : Nat) (v : Value) (o : List α) (W : World) : Prop where
  row : Kd.R d e W w.heap.size (fun k => k ≠ p) v o
  src : Src W p m
  tur : Turned p w W
  lt : p < w.heap.size
section
variable {α : Type} {d : Kd α} {e : Nat} {w W W2 : World} {p m m' : Nat} {v v1 : Value} {o o1 : List α}
theorem FWalk.more (h : FWalk d e w p m v o W) (hs : Src W2 p m') (ht : Turned p W W2) : FWalk d e w p m' v o W2 :=
  ⟨Kd.R_step h.row (fun k hk hl => ht.oth k hk hl), hs, h.tur.trans ht, h.lt⟩
theorem FWalk.next (h : FWalk d e w p m v o W) (ho : Kd.R d e W2 w.heap.size (fun k => k ≠ p) v1 o1) (hb : Below w.heap.size W W2) : FWalk d e w p m v1 o1 W2 :=
  ⟨ho, h.src.grow hb h.lt, h.tur.grow hb h.lt, h.lt⟩
theorem FWalk.fresh (h : FWalk d e w p m v o W) : ∀ k, W.heap.size ≤ k → k ≠ p := fun k hk => by
  have h1 := h.tur.siz
  have h2 := h.lt
  omega
end
/-- Some complex number of 32-bit parts. -/
def AnyC (e : Ending) : Prop := ∃ a b : Nat, e = .returned (.complex .f32 a b) ∧ a < 4294967296 ∧ b < 4294967296
set_option maxHeartbeats 1000000 in
set_option maxRecDepth 100000 in
theorem complex_calls (p m : Nat) (hm : m < 1000000) (w : World) (hs : Src w p m) : Calls Tryz.prog 84 #[.pointer (some ⟨p, 0, none⟩)] w (Draws p (m + 20) w AnyC) := by
  have HC := Lib.hid (fun m W (hm : m < 10000000) hs => float_calls p m hm W hs)
  have HS := Lib.hid hs
  clear hs
  go_enter Tryz.func84, Tryz.ntmps84
  go_wp2_with fail
  refine (HC.out m _ (by omega) HS.out).mono ?_
  rintro e w1 ⟨⟨a, rfl, ha⟩, hs1, ht1⟩
  have HS1 := Lib.hid hs1
  have HT1 := Lib.hid ht1
  clear hs1 ht1 HS
  go_wp2_with fail
  refine (HC.out _ _ (by omega) HS1.out).mono ?_
  rintro e w2 ⟨⟨b, rfl, hb⟩, hs2, ht2⟩
  have HS2 := Lib.hid hs2
  have HT2 := Lib.hid (HT1.out.trans ht2)
  clear hs2 ht2 HS1 HT1 HC
  go_wp2_with fail
  go_ret
  exact ⟨⟨a, b, rfl, ha, hb⟩, HS2.out.le (by omega), HT2.out⟩
set_option maxHeartbeats 1000000 in
set_option maxRecDepth 100000 in
theorem fine_calls (p m : Nat) (hm : m < 1000000) (w : World) (hs : Src w p m) : Calls Tryz.prog 85 #[.pointer (some ⟨p, 0, none⟩)] w (Draws p (m + 20) w AnyC) := by
  have HC := Lib.hid (fun m W (hm : m < 1000000000) hs => pick_calls p m 65 (by decide) (by decide) hm W hs)
  have HS := Lib.hid hs
  clear hs
  have hq := fun z W => run_fop Tryz.prog .quo (by simp) 29 .f32 z 1098907648 W
  go_enter Tryz.func85, Tryz.ntmps85
  go_wp2_with fail
  refine (HC.out m _ (by omega) HS.out).mono ?_
  rintro e w1 ⟨⟨r, rfl, hr⟩, hs1, ht1⟩
  have HS1 := Lib.hid hs1
  have HT1 := Lib.hid ht1
  clear hs1 ht1 HS
  obtain ⟨n1, hn1⟩ := fow_drawn .quo .f32 (floatOfInt .f32 ((r : Int) - 32)) 1098907648 w1
  have hl1 := fop_lt .quo (floatOfInt .f32 ((r : Int) - 32)) 1098907648 w1
  have HS1a := Lib.hid (HS1.out.more (pw_below_drewN (Below.refl _ _) n1))
  have HT1a := Lib.hid (HT1.out.trans (Turned.drawn p w1 n1))
  clear HS1 HT1
  go_wp2_with fail
  clear hn1
  generalize fop .quo .f32 (floatOfInt .f32 ((r : Int) - 32)) 1098907648 w1 = x1 at *
  generalize w1.drewN n1 = w2 at *
  refine (HC.out _ _ (by omega) HS1a.out).mono ?_
  rintro e w3 ⟨⟨r3, rfl, hr3⟩, hs3, ht3⟩
  have HS3 := Lib.hid hs3
  have HT3 := Lib.hid (HT1a.out.trans ht3)
  clear hs3 ht3 HS1a HT1a HC
  obtain ⟨n3, hn3⟩ := fow_drawn .quo .f32 (floatOfInt .f32 ((r3 : Int) - 32)) 1098907648 w3
  have hl3 := fop_lt .quo (floatOfInt .f32 ((r3 : Int) - 32)) 1098907648 w3
  go_wp2_with fail
  go_ret
  exact ⟨⟨_, _, rfl, hl1, hl3⟩, (HS3.out.more (pw_below_drewN (Below.refl _ _) n3)).le (by omega), HT3.out.trans (Turned.drawn p w3 n3)⟩
end Go.Proofs.YticfmlohkfoccaaGreatDoor
