/- strconv.ParseUint in base 16 at eight digits, strings.Trim at the set of hexadecimal digits, the program's fromHex and the reference's l01Digits: walked. -/
import Derived.Test.YticfmlohkfoccaaGreatDoorH3
import Derived.Shelf.Strings.SlTrimAscii
set_option linter.unusedVariables false
set_option linter.unusedSimpArgs false
namespace Go.Proofs.YticfmlohkfoccaaGreatDoor
open Go.RowKit Go.Proofs.YticfmlohkfoccaaGreatDoorW.PrintWords

theorem hexN_take {l : List UInt8} {n : Nat} (h : Plain.hexN 0 l = some n) (k : Nat) (hk : k < l.length) (m : Nat) (hm : Plain.hexN 0 (l.take k) = some m) : ∃ d, Plain.dig l[k] = some d ∧ Plain.hexN 0 (l.take (k + 1)) = some (16 * m + d) := by
  have h0 : l = l.take (k + 1) ++ l.drop (k + 1) := (List.take_append_drop _ _).symm
  rw [List.take_succ_eq_append_getElem hk] at h0 ⊢
  rw [Plain.hexN_snoc, hm]
  cases hd : Plain.dig l[k] with
  | some d => exact ⟨d, rfl, rfl⟩
  | none =>
    exfalso
    have key : ∀ (a b : List UInt8) (x : Nat), Plain.hexN x a = none → Plain.hexN x (a ++ b) = none := by
      intro a
      induction a with
      | nil => intro b x hx; cases hx
      | cons c a ih =>
        intro b x hx
        simp only [Plain.hexN, List.cons_append] at hx ⊢
        cases hc : Plain.dig c with
        | none => rfl
        | some d => rw [hc] at hx; exact ih b _ hx
    have h1 : Plain.hexN 0 (l.take k ++ [l[k]]) = none := by rw [Plain.hexN_snoc, hm, hd]; rfl
    have h2 := key _ (l.drop (k + 1)) 0 h1
    rw [← h0, h] at h2
    cases h2
theorem lower_at (c : Nat) (h0 : 97 ≤ c) (h1 : c ≤ 102) : Go.bits .or .u8 (c : Int) 32 = (c : Int) := by
  have key : ∀ c : Fin 6, Go.bits .or .u8 ((c.val + 97 : Nat) : Int) 32 = ((c.val + 97 : Nat) : Int) := by decide +kernel
  have := key ⟨c - 97, by omega⟩
  simpa [Nat.sub_add_cancel h0] using this

set_option maxHeartbeats 2000000 in
set_option maxRecDepth 100000 in
theorem parse16i_calls (s : ByteArray) (n : Nat) (hs : s.size = 8) (hn : Plain.hexN 0 s.data.toList = some n) (w : World) : Calls Tryz.prog 164 #[.string s, .int .i64 16, .int .i64 32] w fun e w' => e = .returned (.tuple #[.int .u64 n, .nilIface]) ∧ Below w.heap.size w w' := by
  have hl : s.data.toList.length = 8 := by simpa using hs
  have he : s.toList.isEmpty = false := by
    rw [ByteArray.toList_eq]
    cases h : s.data.toList with
    | nil => rw [h] at hl; cases hl
    | cons => rfl
  have hn8 := Plain.hexN_lt _ _ _ hn
  rw [hl] at hn8
  have HN := Lib.hid hn; clear hn
  have hconv := fun W => Lib.run_convert_string_bytes (P := Tryz.prog) W 9 35 5 s Tryz.underlying9 Tryz.underlying35 Tryz.underlying5
  have HX := Lib.hid (Lib.bytesWorld_cell w 5 s)
  have HB : Hid (Below w.heap.size w (Lib.bytesWorld w 5 s)) := Lib.hid ⟨rfl, rfl, rfl, by rw [Lib.bytesWorld_size]; omega, fun i hi => Lib.bytesWorld_at_old w 5 s i hi⟩
  go_enter Tryz.func164, Tryz.ntmps164
  go_wp2_with fail
  clear hconv
  generalize Lib.bytesWorld w 5 s = W1 at *
  go_loopw [12, 13, 101] (fun un m i wr => ∃ (q k : Nat), un = .bool false ∧ m = .int .u64 q ∧ i = .int .i64 k ∧ k ≤ 8 ∧ Aside0 (Plain.hexN 0 (s.data.toList.take k) = some q) ∧ W1 = wr) (fun _ _ i _ => 8 - (intOf i).toNat)
  case atStart => exact ⟨0, 0, rfl, rfl, rfl, by omega, ⟨rfl⟩, rfl⟩
  case round =>
    obtain ⟨q, k, rfl, rfl, rfl, hk, HQ, rfl⟩ := hrel
    by_cases hk8 : k < 8
    · obtain ⟨d, hd, hq2⟩ := hexN_take HN.out k (by omega) q HQ.out
      have hcell := HX.out k (by omega)
      have hql := Plain.hexN_lt _ _ _ HQ.out
      have hq3 := Plain.hexN_lt _ _ _ hq2
      have hpw : (16 : Nat) ^ (k + 1) ≤ 16 ^ 8 := Nat.pow_le_pow_right (by decide) (by omega)
      rw [List.length_take, Nat.min_eq_left (by omega)] at hq3
      have hq4 : 16 * q + d < 4294967296 := by
        have : (16 : Nat) ^ 8 = 4294967296 := by decide
        omega
      clear hql hq3 hpw
      have HQ2 := Aside0.mk hq2; clear hq2
      rw [List.getD_eq_getElem?_getD, List.getElem?_eq_getElem (by omega), Option.getD_some] at hcell
      generalize s.data.toList[k] = b at *
      have hd16 := (Plain.dg_dig hd).2
      unfold Plain.dig at hd
      generalize b.toNat = c at *
      split at hd
      · rename_i hc
        injection hd with hd
        have t1 : ((c : Int) == 95) = false := by simp; omega
        have t2 : decide ((48 : Int) ≤ (c : Int)) = true := decide_eq_true (by omega)
        have t3 : decide ((c : Int) ≤ 57) = true := decide_eq_true (by omega)
        obtain ⟨x, hx⟩ : ∃ x : Int, (c : Int) = x := ⟨_, rfl⟩
        have t4 : x - 48 = (d : Int) := by omega
        rw [hx] at hcell t1 t2 t3
        have hx0 : x = (d : Int) + 48 := by omega
        have t5 : IntKind.u8.wrap (d : Int) = (d : Int) := by show (d : Int) % 256 = d; omega
        have t6 : decide ((16 : Int) ≤ (d : Int)) = false := decide_eq_false (by omega)
        have c1 : decide ((1152921504606846976 : Int) ≤ (q : Int)) = false := decide_eq_false (by omega)
        have c2 : IntKind.u64.wrap ((q : Int) * 16) = (q : Int) * 16 := by show ((q : Int) * 16) % 18446744073709551616 = _; omega
        have c3 : IntKind.u64.wrap ((q : Int) * 16 + (d : Int)) = (q : Int) * 16 + (d : Int) := by show ((q : Int) * 16 + (d : Int)) % 18446744073709551616 = _; omega
        have c4 : decide ((q : Int) * 16 + (d : Int) < (q : Int) * 16) = false := decide_eq_false (by omega)
        have c5 : decide ((4294967295 : Int) < (q : Int) * 16 + (d : Int)) = false := decide_eq_false (by omega)
        have Hx := Lib.hid hx0; clear hx0 hx hd hc
        go_wp2_with fail
        exact ⟨⟨q * 16 + d, k + 1, rfl, by simp, rfl, by omega, ⟨by rw [Nat.mul_comm]; exact HQ2.out⟩, trivial⟩, by simp [intOf]; omega⟩
      · split at hd
        · rename_i hc0 hc
          injection hd with hd
          have t1 : ((c : Int) == 95) = false := by simp; omega
          have t2 : decide ((48 : Int) ≤ (c : Int)) = true := decide_eq_true (by omega)
          have t3 : decide ((c : Int) ≤ 57) = false := decide_eq_false (by omega)
          have t7 : decide ((97 : Int) ≤ (c : Int)) = true := decide_eq_true (by omega)
          have t8 : decide ((c : Int) ≤ 122) = true := decide_eq_true (by omega)
          have t9 := lower_at c (by omega) (by omega)
          obtain ⟨x, hx⟩ : ∃ x : Int, (c : Int) = x := ⟨_, rfl⟩
          obtain ⟨y, hy⟩ : ∃ y : Int, (d : Int) = y + 10 := ⟨(d : Int) - 10, by omega⟩
          have t4 : x - 97 = y := by omega
          have t10 : y + 10 = (d : Int) := hy.symm
          have t11 : IntKind.u8.wrap y = y := by show y % 256 = y; omega
          rw [hx] at hcell t1 t2 t3 t7 t8 t9
          have t5 : IntKind.u8.wrap (d : Int) = (d : Int) := by show (d : Int) % 256 = d; omega
          have t6 : decide ((16 : Int) ≤ (d : Int)) = false := decide_eq_false (by omega)
          have c1 : decide ((1152921504606846976 : Int) ≤ (q : Int)) = false := decide_eq_false (by omega)
          have c2 : IntKind.u64.wrap ((q : Int) * 16) = (q : Int) * 16 := by show ((q : Int) * 16) % 18446744073709551616 = _; omega
          have c3 : IntKind.u64.wrap ((q : Int) * 16 + (d : Int)) = (q : Int) * 16 + (d : Int) := by show ((q : Int) * 16 + (d : Int)) % 18446744073709551616 = _; omega
          have c4 : decide ((q : Int) * 16 + (d : Int) < (q : Int) * 16) = false := decide_eq_false (by omega)
          have c5 : decide ((4294967295 : Int) < (q : Int) * 16 + (d : Int)) = false := decide_eq_false (by omega)
          clear hx hy hd hc hc0
          go_wp2_with (go_at_call 193; refine (Tryz.internal_strconv_lower x _).mono ?_; rintro e w1 ⟨rfl, rfl⟩)
          exact ⟨⟨q * 16 + d, k + 1, rfl, by simp, rfl, by omega, ⟨by rw [Nat.mul_comm]; exact HQ2.out⟩, trivial⟩, by simp [intOf]; omega⟩
        · cases hd
    · have hq : n = q := by
        have h1 := HQ.out
        rw [List.take_of_length_le (by omega), HN.out] at h1
        exact Option.some.inj h1
      subst hq
      go_wp2_with fail
      go_ret2
      exact ⟨rfl, HB.out⟩
set_option maxHeartbeats 1000000 in
theorem parse16_calls (s : ByteArray) (n : Nat) (hs : s.size = 8) (hn : Plain.hexN 0 s.data.toList = some n) (w : World) : Calls Tryz.prog 126 #[.string s, .int .i64 16, .int .i64 32] w fun e w' => e = .returned (.tuple #[.int .u64 n, .nilIface]) ∧ Below w.heap.size w w' := by
  have HC := Lib.hid (parse16i_calls s n hs hn w)
  clear hn
  go_enter Tryz.func126, Tryz.ntmps126
  go_wp2_with fail
  refine HC.out.mono ?_
  rintro e w1 ⟨rfl, hb⟩
  have HB := Lib.hid hb; clear hb
  go_wp2
  go_ret2
  exact ⟨rfl, HB.out⟩

/-! ### fromHex -/
/-- Eight digits of the bits of a number, one word for all NaNs. -/
def num8 (l : List UInt8) : Option Nat := if l.length = 8 then match Plain.hexN 0 l with
  | some n => if bits n = n then some n else none
  | none => none else none
theorem num8_lt {l : List UInt8} {n : Nat} (h : num8 l = some n) : n < 4294967296 ∧ bits n = n ∧ l.length = 8 ∧ Plain.hexN 0 l = some n ∧ Plain.hexL 8 n = l := by
  unfold num8 at h
  split at h
  · rename_i hl
    cases hh : Plain.hexN 0 l with
    | none => rw [hh] at h; cases h
    | some m =>
      rw [hh] at h
      simp only at h
      split at h
      · rename_i hb
        injection h with h
        subst h
        have := Plain.hexN_lt _ _ _ hh
        rw [hl] at this
        refine ⟨by have e : (16 : Nat) ^ 8 = 4294967296 := by decide
                   omega, hb, hl, rfl, Plain.hexL_hexN 8 l m hl hh⟩
      · cases h
  · cases h
set_option maxHeartbeats 1000000 in
theorem trim_calls (s : ByteArray) (hs : s.size ≤ 9223372036854775807) (w : World) : Calls Tryz.prog 125 #[.string s, .string ⟨#[48, 49, 50, 51, 52, 53, 54, 55, 56, 57, 97, 98, 99, 100, 101, 102]⟩] w fun e w' => e = .returned (.string (mk (Lib.trimS s.data.toList Plain.hexCs))) ∧ Below w.heap.size w w' := by
  have := Any.strings_Trim_laid Tryz.lays160 (by kernel_rfl) s ⟨#[48, 49, 50, 51, 52, 53, 54, 55, 56, 57, 97, 98, 99, 100, 101, 102]⟩ w hs (by decide) (ascii_of_all (by decide))
  exact this
end Go.Proofs.YticfmlohkfoccaaGreatDoor
