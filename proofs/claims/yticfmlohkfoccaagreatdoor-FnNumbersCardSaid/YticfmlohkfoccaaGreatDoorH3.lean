/- strconv.FormatInt in base 16 and the program's hex, walked: for every number of 32 bits, where the library's table of bits.TrailingZeros64 holds what it is laid with. -/
import Derived.Test.YticfmlohkfoccaaGreatDoorH1
import Derived.Test.YticfmlohkfoccaaGreatDoorH2
import Derived.Test.YticfmlohkfoccaaGreatDoorPFnExactReadGrainx1
import Derived.Deep.RegionHeld3
import Derived.Deep.LoopGhost
import Derived.Deep.QuietTactic
import Derived.BigQuiet
import Derived.Lib.FrozenHead
import Derived.Lib.Builder
import Derived.Lib.ConvBytes
import Derived.Laws.BitsAllLaws
import Derived.Laws.IdiomStrings
set_option linter.unusedVariables false
set_option linter.unusedSimpArgs false
namespace Go.Proofs.YticfmlohkfoccaaGreatDoor
open Go.RowKit Go.Proofs.YticfmlohkfoccaaGreatDoorW.PrintWords

/-- What the library's variables hold. -/
def Vars (w : World) : Prop := (∃ m, w.cell? ⟨1, 0, none⟩ = some (.int .i64 m)) ∧ w.cell? ⟨8, 15, none⟩ = some (.int .u8 4)
theorem cell_lt {w : World} {b o : Nat} {v : Value} (h : w.cell? ⟨b, o, none⟩ = some v) : b < w.heap.size := by
  rcases Nat.lt_or_ge b w.heap.size with hl | hl
  · exact hl
  · simp [World.cell?, Array.getElem?_eq_none hl] at h
theorem Vars.below {B : Nat} {w W : World} (h : Vars w) (hb : Below B w W) (hB : w.heap.size ≤ B) : Vars W := by
  obtain ⟨⟨m, hm⟩, ht⟩ := h
  have h1 := cell_lt hm
  have h8 := cell_lt ht
  exact ⟨⟨m, (hb.cell (p := ⟨1, 0, none⟩) (by show 1 < B; omega)).trans hm⟩, (hb.cell (p := ⟨8, 15, none⟩) (by show 8 < B; omega)).trans ht⟩
theorem Vars.step {w W : World} (h : Vars w) (hb : Below w.heap.size w W) : Vars W := h.below hb (Nat.le_refl _)

set_option maxRecDepth 100000 in
theorem tz64_calls (w : World) (hv : Vars w) : Calls Tryz.prog 222 #[.int .u64 16] w fun e w' => e = .returned (.int .i64 4) ∧ w' = w := by
  have hc := hv.2
  have e : IntKind.u64.wrap (Go.bits BinOp.and IntKind.u64 16 (IntKind.u64.wrap (-16)) * 285870213051353865) / 288230376151711744 = 15 := by decide +kernel
  go_enter Tryz.func222, Tryz.ntmps222
  go_wp2
  go_ret
  exact ⟨rfl, rfl⟩
set_option maxRecDepth 100000 in
theorem tz_calls (w : World) (hv : Vars w) : Calls Tryz.prog 210 #[.int .u64 16] w fun e w' => e = .returned (.int .i64 4) ∧ w' = w := by
  go_enter Tryz.func210, Tryz.ntmps210
  go_wp2_with fail
  refine (tz64_calls w hv).mono ?_
  rintro e w1 ⟨rfl, rfl⟩
  go_wp2
  go_ret
  exact ⟨rfl, rfl⟩
set_option maxRecDepth 100000 in
theorem power2_calls (w : World) : Calls Tryz.prog 209 #[.int .i64 16] w fun e w' => e = .returned (.bool true) ∧ w' = w := by
  go_enter Tryz.func209, Tryz.ntmps209
  go_wp2
  go_ret
  exact ⟨rfl, rfl⟩

/-- The digits behind place i of the array. -/
def Digits (W : World) (g i : Nat) (ds : List UInt8) : Prop := ∃ C : Array Value, W.heap[g]? = some (.cells C 215 (0, 0)) ∧ C.size = 65 ∧ i + ds.length = 65 ∧ ∀ j b, ds[j]? = some b → C[i + j]? = some (.int .u8 b.toNat)

theorem heap_setCell {W : World} {g i : Nat} {C : Array Value} {T : TypeId} (v : Value) (h : W.heap[g]? = some (.cells C T (0, 0))) : (W.setCell ⟨g, i, none⟩ v).heap[g]? = some (.cells (C.setIfInBounds i v) T (0, 0)) := by
  obtain ⟨hlt, h'⟩ := Array.getElem?_eq_some_iff.1 h
  show (W.heap.modify g _)[g]? = _
  rw [Array.getElem?_eq_getElem (by simpa using hlt), Array.getElem_modify_self, h']
  rfl
theorem Digits.put {W : World} {g p : Nat} {ds : List UInt8} (h : Digits W g p ds) (hp : 1 ≤ p) (b : UInt8) : Digits (W.setCell ⟨g, p - 1, none⟩ (.int .u8 b.toNat)) g (p - 1) (b :: ds) := by
  obtain ⟨C, hC, hs, hl, hd⟩ := h
  refine ⟨_, heap_setCell _ hC, by simp [hs], by simp; omega, fun j x hj => ?_⟩
  rw [Array.getElem?_setIfInBounds]
  cases j with
  | zero =>
    simp at hj
    subst hj
    rw [if_pos (by omega), if_pos (by omega)]
  | succ j =>
    rw [if_neg (by omega), show p - 1 + (j + 1) = p + j from by omega]
    exact hd j x (by simpa using hj)
theorem Digits.put' {W : World} {g p : Nat} {ds : List UInt8} (h : Digits W g p ds) (hp : 1 ≤ p) (b x : UInt8) (e : x = b) : Digits (W.setCell ⟨g, p - 1, none⟩ (.int .u8 x.toNat)) g (p - 1) (b :: ds) := by
  subst e; exact h.put hp x
theorem Digits.cell {W : World} {g p : Nat} {ds : List UInt8} (h : Digits W g p ds) (hp : 1 ≤ p) : (∃ v, W.cell? ⟨g, p - 1, none⟩ = some v) ∧ W.frozen? ⟨g, p - 1, none⟩ = false := by
  obtain ⟨C, hC, hs, hl, hd⟩ := h
  refine ⟨?_, Lib.frozen_of_heap hC _⟩
  rw [Lib.cell_of_heap hC]
  exact ⟨C[p - 1]'(by omega), Array.getElem?_eq_getElem (by omega)⟩
theorem Digits.text {W : World} {g p : Nat} {ds : List UInt8} (h : Digits W g p ds) : (convert 35 9 (.slice (some ⟨g, p, none⟩) (65 - p) (65 - p))).run Tryz.prog W = .ok (.string ⟨ds.toArray⟩) W := by
  obtain ⟨C, hC, hs, hl, hd⟩ := h
  have := run_convert_bytes_back (P := Tryz.prog) W 35 9 5 ⟨g, p, none⟩ (65 - p) ds Tryz.underlying35 Tryz.underlying5 Tryz.underlying9 (fun j hj => by
    rw [Lib.add_plain, Lib.cell_of_heap hC]
    exact hd j _ (List.getElem?_eq_getElem hj))
  rw [show ds.length = 65 - p from by omega] at this
  exact this
def hexStr : ByteArray := ⟨#[48, 49, 50, 51, 52, 53, 54, 55, 56, 57, 97, 98, 99, 100, 101, 102, 103, 104, 105, 106, 107, 108, 109, 110, 111, 112, 113, 114, 115, 116, 117, 118, 119, 120, 121, 122]⟩
theorem digit_at (r : Nat) (h : r < 16) (h' : r < hexStr.size) : hexStr[r]'h' = Plain.dg r := by
  have key : ∀ r : Fin 16, hexStr.data[r.val]? = some (Plain.dg r.val) := by decide
  exact Option.some.inj ((Array.getElem?_eq_getElem (xs := hexStr.data) h').symm.trans (key ⟨r, h⟩))
theorem and15 (q : Nat) (h : q < 4294967296) : Go.bits .and .u64 (q : Int) 15 = ((q % 16 : Nat) : Int) := by
  rw [show (15 : Int) = ((15 : Nat) : Int) from rfl, u64_and_nat q 15 (by omega) (by decide), show (15 : Nat) = 2 ^ 4 - 1 from rfl, Nat.and_two_pow_sub_one_eq_mod]

set_option maxHeartbeats 2000000 in
set_option maxRecDepth 100000 in
theorem bits16_calls (n : Nat) (hn : n < 4294967296) (w : World) (hv : Vars w) : Calls Tryz.prog 184 #[.slice none 0 0, .int .u64 n, .int .i64 16, .bool false, .bool false] w fun e w' => e = .returned (.tuple #[.slice none 0 0, .string ⟨(Plain.fmt16 n).toArray⟩]) ∧ Below w.heap.size w w' := by
  have HV := Lib.hid hv; clear hv
  go_enter Tryz.func184, Tryz.ntmps184
  go_wp2_with fail
  refine (power2_calls _).mono ?_
  rintro e w1 ⟨rfl, rfl⟩
  have HB0 : Aside0 (Below w.heap.size w (w.alloc (.cells Tryz.zeroCells215 215 (0, 0)))) := ⟨(Below.refl w.heap.size w).alloc (Nat.le_refl _) _⟩
  have HD0 : Aside0 (Digits (w.alloc (.cells Tryz.zeroCells215 215 (0, 0))) w.heap.size 65 []) := ⟨⟨Tryz.zeroCells215, heap_alloc_new w _, by kernel_rfl, rfl, fun j b h => by cases h⟩⟩
  have hv1 := HV.out.step HB0.out
  generalize (w.alloc (.cells Tryz.zeroCells215 215 (0, 0))) = w1 at *
  go_wp2_with fail
  refine (tz_calls _ hv1).mono ?_
  rintro e w2 ⟨rfl, rfl⟩
  clear hv1
  go_wp2_with fail
  go_loopw [1, 13] (fun u i wr => ∃ (q p : Nat) (ds : List UInt8), u = .int .u64 q ∧ i = .int .i64 p ∧ q < 4294967296 ∧ 58 ≤ p ∧ p ≤ 65 ∧ Aside0 (q < 16 ^ (p - 57)) ∧ Aside0 (Plain.fmt16 n = Plain.fmt16 q ++ ds) ∧ Aside0 (Digits wr w.heap.size p ds) ∧ Aside0 (Below w.heap.size w wr)) (fun u _ _ => (intOf u).toNat)
  case atStart => exact ⟨n, 65, [], rfl, rfl, hn, by omega, by omega, ⟨by simpa using hn⟩, ⟨by simp⟩, HD0, HB0⟩
  case round =>
    clear HB0 HD0
    obtain ⟨q, p, ds, rfl, rfl, hq, hp0, hp1, HQ, HF, HD, HB⟩ := hrel
    by_cases h16 : 16 ≤ q
    · have hb := and15 q hq
      have hd : decide ((16 : Int) ≤ (q : Int)) = true := decide_eq_true (by omega)
      obtain ⟨⟨cv, hcell⟩, hfz⟩ := HD.out.cell (by omega)
      have hq1 : q % 16 < 16 := Nat.mod_lt _ (by decide)
      have hpe : (p : Int) - 1 = ((p - 1 : Nat) : Int) := by omega
      have hp9 : 59 ≤ p := by
        have := HQ.out
        rcases Nat.lt_or_ge p 59 with h | h
        · have h2 : p = 58 := by omega
          subst h2
          simp at this; omega
        · exact h
      have HQ2 : Aside0 (q / 16 < 16 ^ (p - 1 - 57)) := ⟨by
        have := HQ.out
        rw [show p - 57 = (p - 1 - 57) + 1 from by omega, Nat.pow_succ] at this
        omega⟩
      have HF2 : Aside0 (Plain.fmt16 n = Plain.fmt16 (q / 16) ++ (Plain.dg (q % 16) :: ds)) := ⟨by rw [HF.out, Plain.fmt16_high (by omega)]; simp⟩
      have HD3 := Aside0.mk (HD.out.put' (by omega) _ _ (digit_at (q % 16) hq1 (by show q % 16 < 36; omega)))
      go_wp2_with fail
      refine ⟨⟨q / 16, p - 1, Plain.dg (q % 16) :: ds, by simp, rfl, by omega, by omega, by omega, HQ2, HF2, ?_, ?_⟩, by simp [intOf]; omega⟩
      · exact HD3
      · exact ⟨HB.out.setCell (p := ⟨w.heap.size, p - 1, none⟩) (Nat.le_refl _) _⟩
    · have hd : decide ((16 : Int) ≤ (q : Int)) = false := decide_eq_false (by omega)
      obtain ⟨⟨cv, hcell⟩, hfz⟩ := HD.out.cell (by omega)
      have hq1 : q < 16 := by omega
      have hpe : (p : Int) - 1 = ((p - 1 : Nat) : Int) := by omega
      have HE := (HD.out.put' (by omega) _ _ (digit_at q hq1 (by show q < 36; omega))).text
      have hsl := fun W => run_sliceAt_array_l (P := Tryz.prog) (w := W) 215 ⟨w.heap.size, 0, none⟩ Tryz.underlying215 .i64 ((p - 1 : Nat) : Int) (by omega) (by rw [show Tryz.prog.arrayLen 215 = 65 from by kernel_rfl]; omega)
      have HT : Aside0 (Plain.fmt16 n = Plain.dg q :: ds) := ⟨by rw [HF.out, Plain.fmt16_low hq1]; rfl⟩
      unfold hexStr at HE
      go_wp2_with fail
      go_ret2
      refine ⟨by rw [HT.out]; rfl, HB.out.setCell (p := ⟨w.heap.size, p - 1, none⟩) (Nat.le_refl _) _⟩

set_option maxHeartbeats 1000000 in
set_option maxRecDepth 100000 in
theorem format16i_calls (n : Nat) (hn : n < 4294967296) (w : World) (hv : Vars w) : Calls Tryz.prog 150 #[.int .i64 n, .int .i64 16] w fun e w' => e = .returned (.string ⟨(Plain.fmt16 n).toArray⟩) ∧ Below w.heap.size w w' := by
  have hw : IntKind.u64.wrap (n : Int) = (n : Int) := by show (n : Int) % 18446744073709551616 = n; omega
  have HV := Lib.hid hv; clear hv
  go_enter Tryz.func150, Tryz.ntmps150
  go_wp2_with fail
  refine (bits16_calls n hn w HV.out).mono ?_
  rintro e w1 ⟨rfl, hb⟩
  have HB := Lib.hid hb; clear hb
  go_wp2
  go_ret
  exact ⟨rfl, HB.out⟩
theorem format16_calls (n : Nat) (hn : n < 4294967296) (w : World) (hv : Vars w) : Calls Tryz.prog 122 #[.int .i64 n, .int .i64 16] w fun e w' => e = .returned (.string ⟨(Plain.fmt16 n).toArray⟩) ∧ Below w.heap.size w w' := by
  have HV := Lib.hid hv; clear hv
  go_enter Tryz.func122, Tryz.ntmps122
  go_wp2_with fail
  refine (format16i_calls n hn w HV.out).mono ?_
  rintro e w1 ⟨rfl, hb⟩
  have HB := Lib.hid hb; clear hb
  go_wp2
  go_ret
  exact ⟨rfl, HB.out⟩

theorem bits_lt {b : Nat} (h : b < 4294967296) : bits b < 4294967296 := by unfold bits; split <;> omega
/-- Bytes as a string. -/
def mk (l : List UInt8) : ByteArray := ⟨l.toArray⟩
theorem mk_data (l : List UInt8) : (mk l).data.toList = l := by simp [mk]
theorem mk_of (s : ByteArray) : mk s.data.toList = s := by obtain ⟨⟨l⟩⟩ := s; rfl
theorem mk_size (l : List UInt8) : (mk l).size = l.length := by simp [mk, ByteArray.size]
theorem mk_append (a b : List UInt8) : mk a ++ mk b = mk (a ++ b) := by rw [← mk_of (mk a ++ mk b)]; simp [mk]

set_option maxHeartbeats 1000000 in
set_option maxRecDepth 100000 in
/-- The program's hex: the eight digits of a number's bits. -/
theorem hex_calls (b : Nat) (hb : b < 4294967296) (w : World) (hv : Vars w) : Calls Tryz.prog 74 #[.float .f32 b] w fun e w' => e = .returned (.string (mk (Plain.hexL 8 (bits b)))) ∧ Below w.heap.size w w' := by
  have HV := Lib.hid hv; clear hv
  have hl := bits_lt hb
  have hp := Plain.fmt16_pad 7 (bits b) (by simpa using hl)
  have HC := Lib.hid (fun W hW => format16_calls (bits b) hl W hW)
  have HBi := Lib.hid (bitsOf_calls b hb w)
  generalize bits b = n at *
  obtain ⟨hp1, hp2⟩ := hp
  have HP := Lib.hid hp2; clear hp2
  have hsz : (mk (Plain.fmt16 n)).size = (Plain.fmt16 n).length := mk_size _
  have e1 : (⟨(Plain.fmt16 n).toArray⟩ : ByteArray) = mk (Plain.fmt16 n) := rfl
  rw [e1] at HC
  have hrep : ∀ c, Lib.repeatL [48] c = List.replicate c 48 := by
    intro c
    induction c with
    | zero => rfl
    | succ c ih => rw [Lib.repeatL, ih, List.replicate_succ]; rfl
  have HR := Lib.hid (fun (c : Nat) (hc : c ≤ 8) W => Tryz.strings_Repeat ⟨#[48]⟩ c W (by omega) (by show 1 * c ≤ _; omega))
  generalize hG : mk (Plain.fmt16 n) = G at *
  have HG := Lib.hid hG; clear hG
  generalize hm : (Plain.fmt16 n).length = m at *
  have Hm := Lib.hid hm; clear hm e1
  have hrs : (8 : Int) - (m : Int) = ((8 - m : Nat) : Int) := by omega
  go_enter Tryz.func74, Tryz.ntmps74
  go_wp2_with fail
  refine (HBi.out).mono ?_
  rintro e w1 ⟨rfl, rfl⟩
  go_wp2_with fail
  refine (HC.out _ HV.out).mono ?_
  rintro e w2 ⟨rfl, hb2⟩
  have HB2 := Lib.hid hb2; clear hb2
  go_wp2_with fail
  refine (HR.out (8 - m) (by omega) w2).mono ?_
  rintro e w3 ⟨rfl, hb3⟩
  have HB3 := Lib.hid (below_then HB2.out HB2.out.size hb3); clear hb3
  have e2 : (⟨(Lib.repeatL (⟨#[48]⟩ : ByteArray).data.toList (8 - m)).toArray⟩ : ByteArray) = mk (List.replicate (8 - m) 48) := by
    rw [show (⟨#[48]⟩ : ByteArray).data.toList = [48] from rfl, hrep]; rfl
  rw [e2]
  have hs1 : (mk (List.replicate (8 - m) 48)).size = 8 - m := by rw [mk_size]; simp
  have Hf : Hid (mk (List.replicate (8 - m) 48) ++ G = mk (Plain.hexL 8 n)) := Lib.hid (by rw [← HG.out, mk_append]; exact congrArg mk HP.out)
  generalize mk (List.replicate (8 - m) 48) = R at *
  have hle := eq_true (show R.size + G.size ≤ 9223372036854775807 from by omega)
  go_wp2
  go_ret
  exact ⟨by rw [← Hf.out]; rfl, HB3.out⟩
end Go.Proofs.YticfmlohkfoccaaGreatDoor
