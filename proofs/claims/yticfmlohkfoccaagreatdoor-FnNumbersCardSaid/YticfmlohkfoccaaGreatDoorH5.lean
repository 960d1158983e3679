/- The program's fromHex and the reference's l01Digits, walked: both find the number with eight digits, and no other text. -/
import Derived.Test.YticfmlohkfoccaaGreatDoorH4
set_option linter.unusedVariables false
set_option linter.unusedSimpArgs false
namespace Go.Proofs.YticfmlohkfoccaaGreatDoor
open Go.RowKit Go.Proofs.YticfmlohkfoccaaGreatDoorW.PrintWords

theorem isEmpty_mk (l : List UInt8) : (mk l).toList.isEmpty = l.isEmpty := by rw [ByteArray.toList_eq, mk_data]
theorem toList_beq (a b : ByteArray) : (a.toList == b.toList) = decide (a = b) := by
  rw [ByteArray.toList_eq, ByteArray.toList_eq, Bool.eq_iff_iff, beq_iff_eq, decide_eq_true_iff]
  constructor
  · intro h; rw [← mk_of a, ← mk_of b, h]
  · intro h; rw [h]

theorem pow8 : (16 : Nat) ^ 8 = 4294967296 := by decide
theorem hex8_inj {a b : Nat} (ha : a < 4294967296) (hb : b < 4294967296) (h : Plain.hexL 8 a = Plain.hexL 8 b) : a = b :=
  Plain.hexL_inj (k := 8) (by rw [pow8]; exact ha) (by rw [pow8]; exact hb) h

set_option maxHeartbeats 2000000 in
set_option maxRecDepth 100000 in
theorem fromHex_calls (s : ByteArray) (hs : s.size ≤ 9223372036854775807) (w : World) (hv : Vars w) : Calls Tryz.prog 77 #[.string s] w fun e w' => (∃ x, x < 4294967296 ∧ e = .returned (.tuple #[.float .f32 x, .bool (num8 s.data.toList).isSome]) ∧ (∀ n, num8 s.data.toList = some n → x = n)) ∧ Below w.heap.size w w' := by
  have HV := Lib.hid hv; clear hv
  by_cases h8 : s.size = 8
  · have HT := Lib.hid (trim_calls s hs w)
    have hth := Plain.trim_hex s.data.toList
    have hdl : s.data.toList.length = 8 := by simpa using h8
    have h8' : ((s.size : Int) != 8) = false := by simp [h8]
    cases hh : Plain.hexN 0 s.data.toList with
    | none =>
      have HA : Hid (num8 s.data.toList = none) := Lib.hid (by unfold num8; rw [if_pos hdl, hh])
      have hne : (Lib.trimS s.data.toList Plain.hexCs).isEmpty = false := by
        cases ht : Lib.trimS s.data.toList Plain.hexCs with
        | nil => have := hth.1 ht; rw [hh] at this; cases this
        | cons => rfl
      rw [← isEmpty_mk] at hne
      clear hth hh hdl
      generalize mk (Lib.trimS s.data.toList Plain.hexCs) = tr at *
      go_enter Tryz.func77, Tryz.ntmps77
      go_wp2_with fail
      refine HT.out.mono ?_
      rintro e w1 ⟨rfl, hb⟩
      have HB := Lib.hid hb; clear hb HT
      go_wp2
      go_ret2
      exact ⟨⟨0, by decide, by rw [HA.out]; rfl, fun n h => by rw [HA.out] at h; cases h⟩, HB.out⟩
    | some n =>
      have HA : Hid (num8 s.data.toList = if bits n = n then some n else none) := Lib.hid (by unfold num8; rw [if_pos hdl, hh])
      have hnl := Plain.hexN_lt _ _ _ hh
      have hn : n < 4294967296 := by
        rw [hdl] at hnl
        have e : (16 : Nat) ^ 8 = 4294967296 := by decide
        omega
      have hne : (Lib.trimS s.data.toList Plain.hexCs).isEmpty = true := by rw [hth.2 (by rw [hh]; rfl)]; rfl
      rw [← isEmpty_mk] at hne
      have HP := Lib.hid (fun W => parse16_calls s n h8 hh W)
      have HX := Lib.hid (fun W hW => hex_calls n hn W hW)
      have hL := Plain.hexL_hexN 8 _ n hdl hh
      have hcmp : ((mk (Plain.hexL 8 (bits n))).toList == s.toList) = decide (bits n = n) := by
        rw [toList_beq]
        congr 1
        rw [eq_iff_iff]
        constructor
        · intro h
          have h2 := congrArg (·.data.toList) h
          simp only [mk_data] at h2
          rw [← hL] at h2
          exact hex8_inj (bits_lt hn) hn h2
        · intro h
          rw [h, hL, mk_of]
      have hx := f32from n
      have hw : IntKind.u32.wrap (n : Int) = (n : Int) := by show (n : Int) % 4294967296 = n; omega
      clear hth hh hdl hnl hL
      generalize mk (Lib.trimS s.data.toList Plain.hexCs) = tr at *
      generalize mk (Plain.hexL 8 (bits n)) = hxs at *
      go_enter Tryz.func77, Tryz.ntmps77
      go_wp2_with fail
      refine HT.out.mono ?_
      rintro e w1 ⟨rfl, hb⟩
      have HB := Lib.hid hb; clear hb HT
      go_wp2_with fail
      refine (HP.out w1).mono ?_
      rintro e w2 ⟨rfl, hb⟩
      have HB2 := Lib.hid (below_then HB.out HB.out.size hb); clear hb HB HP
      go_wp2_with fail
      refine (HX.out w2 (HV.out.step HB2.out)).mono ?_
      rintro e w3 ⟨rfl, hb⟩
      have HB3 := Lib.hid (below_then HB2.out HB2.out.size hb); clear hb HB2 HX
      go_wp2
      go_ret2
      refine ⟨⟨n, hn, ?_, fun m h => ?_⟩, HB3.out⟩
      · rw [HA.out]
        by_cases hb : bits n = n
        · rw [if_pos hb]; simp [hb]
        · rw [if_neg hb]; simp [hb]
      · rw [HA.out] at h
        split at h
        · injection h
        · cases h
  · have HA : Hid (num8 s.data.toList = none) := Lib.hid (by unfold num8; rw [if_neg (by simpa using h8)])
    have h8' : ((s.size : Int) != 8) = true := by simp; omega
    go_enter Tryz.func77, Tryz.ntmps77
    go_wp2
    go_ret2
    exact ⟨⟨0, by decide, by rw [HA.out]; rfl, fun n h => by rw [HA.out] at h; cases h⟩, Below.refl _ _⟩

/-! ### The reference's l01Digits -/
theorem hexN_stop {l : List UInt8} (k : Nat) (hk : k < l.length) (q : Nat) (hq : Plain.hexN 0 (l.take k) = some q) (hd : Plain.dig l[k] = none) : Plain.hexN 0 l = none := by
  have key : ∀ (a b : List UInt8) (x : Nat), Plain.hexN x a = none → Plain.hexN x (a ++ b) = none := by
    intro a
    induction a with
    | nil => intro b x hx; cases hx
    | cons c a ih =>
      intro b x hx
      simp only [Plain.hexN, List.cons_append] at hx ⊢
      cases hc : Plain.dig c with
      | none => rfl
      | some d => rw [hc] at hx; exact ih b _ hx
  have h0 : l = l.take (k + 1) ++ l.drop (k + 1) := (List.take_append_drop _ _).symm
  rw [h0]
  apply key
  rw [List.take_succ_eq_append_getElem hk, Plain.hexN_snoc, hq, hd]; rfl
theorem hexN_next {l : List UInt8} (k : Nat) (hk : k < l.length) (q d : Nat) (hq : Plain.hexN 0 (l.take k) = some q) (hd : Plain.dig l[k] = some d) : Plain.hexN 0 (l.take (k + 1)) = some (16 * q + d) := by
  rw [List.take_succ_eq_append_getElem hk, Plain.hexN_snoc, hq, hd]; rfl
theorem num8_none {l : List UInt8} (h : Plain.hexN 0 l = none) : num8 l = none := by unfold num8; split; rw [h]; rfl
theorem hex_bound {l : List UInt8} (hl : l.length = 8) (k : Nat) (hk : k ≤ 8) (q : Nat) (hq : Plain.hexN 0 (l.take k) = some q) : q < 4294967296 := by
  have h1 := Plain.hexN_lt _ _ _ hq
  have h2 : (16 : Nat) ^ k ≤ 16 ^ 8 := Nat.pow_le_pow_right (by decide) hk
  rw [List.length_take, Nat.min_eq_left (by omega)] at h1
  rw [pow8] at h2
  omega
theorem byte_at (s : ByteArray) (k : Nat) (h : k < s.size) : s[k] = s.data.toList[k]'(by simpa using h) := rfl
/-- What a byte's tests say. -/
structure DigTest (x : Int) (o : Option Nat) : Prop where
  digit : ∀ d, o = some d → (48 ≤ x ∧ x ≤ 57 ∧ x - 48 = (d : Int)) ∨ (97 ≤ x ∧ x ≤ 102 ∧ x - 97 + 10 = (d : Int))
  other : o = none → ¬ (48 ≤ x ∧ x ≤ 57) ∧ ¬ (97 ≤ x ∧ x ≤ 102)
theorem dig_test (b : UInt8) : DigTest (b.toNat : Int) (Plain.dig b) := by
  unfold Plain.dig
  refine ⟨fun d h => ?_, fun h => ?_⟩
  · split at h
    · injection h; left; omega
    · split at h
      · injection h; right; omega
      · cases h
  · split at h
    · cases h
    · split at h
      · cases h
      · omega

set_option maxHeartbeats 4000000 in
set_option maxRecDepth 100000 in
theorem l01Digits_calls (s : ByteArray) (hs : s.size = 8) (w : World) : Calls Tryz.prog 139 #[.string s] w fun e w' => (∃ x, x < 4294967296 ∧ e = .returned (.tuple #[.float .f32 x, .bool (num8 s.data.toList).isSome]) ∧ (∀ n, num8 s.data.toList = some n → x = n)) ∧ w = w' := by
  have hl : s.data.toList.length = 8 := by simpa using hs
  have hsz : (s.size : Int) = 8 := by omega
  go_enter Tryz.func139, Tryz.ntmps139
  go_wp2_with fail
  go_loopw [4, 5] (fun m i wr => ∃ (q k : Nat), m = .int .i64 q ∧ i = .int .i64 k ∧ k ≤ 8 ∧ Aside0 (Plain.hexN 0 (s.data.toList.take k) = some q) ∧ w = wr) (fun _ i _ => 8 - (intOf i).toNat)
  case atStart => exact ⟨0, 0, rfl, rfl, by omega, ⟨rfl⟩, rfl⟩
  case round =>
    obtain ⟨q, k, rfl, rfl, hk, HQ, rfl⟩ := hrel
    by_cases hk8 : k < 8
    · have hks : k < s.size := by omega
      have ht := dig_test (s.data.toList[k])
      have hq := hex_bound hl k hk q HQ.out
      rw [← byte_at s k hks] at ht
      have hxr := UInt8.toNat_lt s[k]
      cases hd : Plain.dig (s.data.toList[k]) with
      | none =>
        have HA : Hid (num8 s.data.toList = none) := Lib.hid (num8_none (hexN_stop k (by omega) q HQ.out hd))
        rw [byte_at s k hks, hd] at ht
        have ho := ht.other rfl
        rw [← byte_at s k hks] at ho
        clear ht hd
        generalize hx : ((s[k].toNat : Nat) : Int) = x at *
        go_wp2_with fail
        all_goals (
          go_ret2
          exact ⟨⟨0, by decide, by rw [HA.out]; rfl, fun n h => by rw [HA.out] at h; cases h⟩, rfl⟩)
      | some d =>
        rw [byte_at s k hks, hd] at ht
        have ho := ht.digit d rfl
        rw [← byte_at s k hks] at ho
        have HQ2 := Aside0.mk (hexN_next k (by omega) q d HQ.out hd)
        clear ht hd
        generalize hx : ((s[k].toNat : Nat) : Int) = x at *
        rcases ho with ⟨h1, h2, h3⟩ | ⟨h1, h2, h3⟩
        · go_wp2_with fail
          exact ⟨⟨16 * q + d, k + 1, by simp, rfl, by omega, HQ2, trivial⟩, by simp [intOf]; omega⟩
        · go_wp2_with fail
          exact ⟨⟨16 * q + d, k + 1, by simp, rfl, by omega, HQ2, trivial⟩, by simp [intOf]; omega⟩
    · have hq := hex_bound hl k hk q HQ.out
      have hh := HQ.out
      rw [List.take_of_length_le (by omega)] at hh
      have HA : Hid (num8 s.data.toList = if bits q = q then some q else none) := Lib.hid (by unfold num8; rw [if_pos hl, hh])
      clear hh
      have HF := Lib.hid (fun W => l01From_calls q hq W)
      have HBt := Lib.hid (fun W => l01Bits_calls q hq W)
      have hbl := bits_lt hq
      generalize bits q = z at *
      go_wp2_with fail
      refine (HF.out _).mono ?_
      rintro e w1 ⟨rfl, rfl⟩
      go_wp2_with fail
      refine (HBt.out _).mono ?_
      rintro e w1 ⟨rfl, rfl⟩
      by_cases hz : z = q
      · have hc : ((z : Int) != (q : Int)) = false := by simp [hz]
        go_wp2_with fail
        go_ret2
        refine ⟨⟨q, hq, by rw [HA.out, if_pos hz]; rfl, fun n h => ?_⟩, rfl⟩
        rw [HA.out, if_pos hz] at h
        injection h
      · have hc : ((z : Int) != (q : Int)) = true := by simp; omega
        go_wp2_with fail
        go_ret2
        refine ⟨⟨0, by decide, by rw [HA.out, if_neg hz]; rfl, fun n h => ?_⟩, rfl⟩
        rw [HA.out, if_neg hz] at h
        cases h
end Go.Proofs.YticfmlohkfoccaaGreatDoor
