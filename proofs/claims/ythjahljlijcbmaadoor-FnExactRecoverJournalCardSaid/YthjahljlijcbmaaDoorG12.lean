/- The law FnExactRecoverJournal, walked: for every text it returns true, and what was there stays as it was. -/
import Derived.Test.YthjahljlijcbmaaDoorG11
import Derived.Test.YthjahljlijcbmaaDoorPFnExactRecoverJournalx1
import Derived.Test.YthjahljlijcbmaaDoorPFnExactRecoverJournalx39
import Derived.Test.YthjahljlijcbmaaDoorPFnExactRecoverJournalx40
set_option linter.unusedVariables false
set_option linter.unusedSimpArgs false
namespace Go.Proofs.YthjahljlijcbmaaDoor
open Go.RowKit Go.Proofs.YthjahljlijcbmaaDoorW.PrintWords
open PFnExactRecoverJournal (laws_eqStringS.f laws_eqStringS.l0 laws_eqStringS.calls laws_markText.f laws_markText.l0 laws_markStringS.f laws_markStringS.l0 laws_markStringS.calls laws_heldStringS.f laws_heldStringS.l0 laws_heldStringS.calls)

/-! ### eqStringS -/
theorem eqs_loop (l : List ByteArray) (hl : l.length ≤ 1048576) (d : Nat) : ∀ (i k : Nat), i ≤ l.length → l.length - i = d → d < k →
    laws_eqStringS.l0 k l l i = some true := by
  induction d with
  | zero =>
    intro i k hi hd hk
    obtain ⟨k, rfl⟩ : ∃ m, k = m + 1 := ⟨k - 1, by omega⟩
    simp only [laws_eqStringS.l0]
    rw [if_neg (by omega)]
  | succ d ih =>
    intro i k hi hd hk
    obtain ⟨k, rfl⟩ : ∃ m, k = m + 1 := ⟨k - 1, by omega⟩
    simp only [laws_eqStringS.l0]
    rw [if_pos (by omega), if_pos (by omega), if_pos (by omega), if_pos trivial, w64' (a := (i : Int) + 1) (by omega) (by omega)]
    exact ih (i + 1) k (by omega) (by omega) (by omega)
theorem eqs_f (l : List ByteArray) (hl : l.length ≤ 1048576) : laws_eqStringS.f (l.length + 1) l l = some true := by
  unfold laws_eqStringS.f
  rw [if_pos rfl]
  exact eqs_loop l (by omega) l.length 0 (l.length + 1) (by omega) (by omega) (by omega)

/-! ### markText -/
def digs (u : Nat) : List UInt8 := if u = 0 then [] else Lib.decDigits u
theorem digs_step (u : Nat) (h : 0 < u) : digs u = digs (u / 10) ++ [UInt8.ofNat (48 + u % 10)] := by
  unfold digs
  rw [if_neg (by omega)]
  by_cases h10 : u < 10
  · rw [if_pos (by omega), Lib.decDigits_one h10, show u % 10 = u from by omega]; rfl
  · rw [if_neg (by omega), Lib.decDigits, dif_neg h10]
theorem digs_len (u : Nat) : ∀ d, u < 10 ^ d → (digs u).length ≤ d := by
  induction u using Nat.strongRecOn with
  | _ u ih =>
    intro d hd
    rcases Nat.eq_zero_or_pos u with h | h
    · subst h; simp [digs]
    · cases d with
      | zero => simp at hd; omega
      | succ d =>
        rw [digs_step u h]
        have := ih (u / 10) (by omega) d (by rw [Nat.pow_succ] at hd; omega)
        simp
        exact this
theorem mark_loop (u : Nat) : ∀ (xs : List UInt8) (k : Nat), u < 1000000000 → xs.length + (digs u).length ≤ 100 → (digs u).length + 1 ≤ k →
    laws_markText.l0 k u (mk xs) = some (mk (109 :: (digs u ++ xs))) := by
  induction u using Nat.strongRecOn with
  | _ u ih =>
    intro xs k hu hl hk
    obtain ⟨k, rfl⟩ : ∃ m, k = m + 1 := ⟨k - 1, by omega⟩
    simp only [laws_markText.l0]
    rcases Nat.eq_zero_or_pos u with h | h
    · subst h
      rw [if_neg (by omega), if_pos (by rw [mk_size]; omega)]
      rfl
    · have e1 : Int.tmod (u : Int) 10 = ((u % 10 : Nat) : Int) := by rw [tmod_eq (by omega)]; omega
      have e2 : Int.tdiv (u : Int) 10 = ((u / 10 : Nat) : Int) := by rw [Int.tdiv_eq_ediv_of_nonneg (by omega)]; omega
      have a1 : wrap64 (48 + ((u % 10 : Nat) : Int)) = 48 + ((u % 10 : Nat) : Int) := w64' (by omega) (by omega)
      have a2 : (UInt8.ofNat (48 + u % 10)).toNat = 48 + u % 10 := by
        rw [UInt8.toNat_ofNat']
        exact Nat.mod_eq_of_lt (by have := Nat.mod_lt u (show 0 < 10 by decide); omega)
      have e4 : strOfNums [wrap64 (48 + ((u % 10 : Nat) : Int)) % 256] = mk [UInt8.ofNat (48 + u % 10)] := by
        have : wrap64 (48 + ((u % 10 : Nat) : Int)) % 256 = ((UInt8.ofNat (48 + u % 10)).toNat : Int) := by rw [a1, a2]; omega
        rw [this]
        exact strOfNums_bytes [UInt8.ofNat (48 + u % 10)]
      rw [digs_step u h] at hl hk
      simp only [List.length_append, List.length_cons, List.length_nil] at hl hk
      rw [if_pos (by omega), e1, e2, w64' (a := ((u / 10 : Nat) : Int)) (by omega) (by omega)]
      simp only [Option.bind_some]
      rw [e4, if_pos (by rw [mk_size, mk_size]; simp; omega)]
      have e5 : mk [UInt8.ofNat (48 + u % 10)] ++ mk xs = mk (UInt8.ofNat (48 + u % 10) :: xs) := by
        rw [← mk_of (mk [UInt8.ofNat (48 + u % 10)] ++ mk xs)]
        congr 1
      rw [e5, ih (u / 10) (by omega) _ k (by omega) (by simp; omega) (by omega), digs_step u h]
      try simp
/-- The text of a mark. -/
def mt (u : Nat) : ByteArray := mk (109 :: digs u)
theorem mt_f (u k : Nat) (h0 : 0 < u) (h1 : u < 1000000000) (hk : 12 ≤ k) : laws_markText.f k u = some (mt u) := by
  have hl := digs_len u 9 (by omega)
  unfold laws_markText.f
  rw [if_neg (by omega)]
  have := mark_loop u [] k h1 (by simp; omega) (by omega)
  rw [show (⟨#[]⟩ : ByteArray) = mk [] from rfl, this]
  simp [mt]
def ms (n : Nat) : List ByteArray := (List.range n).map fun i => mt (i + 1)
theorem ms_length (n : Nat) : (ms n).length = n := by simp [ms]
theorem ms_succ (n : Nat) : ms (n + 1) = ms n ++ [mt (n + 1)] := by simp [ms, List.range_succ]
theorem ms_get (n i : Nat) (h : i < (ms n).length) : (ms n)[i] = mt (i + 1) := by simp [ms]

theorem marks_loop (l : List ByteArray) (hl : l.length ≤ 1048576) (d : Nat) : ∀ (i k : Nat), i ≤ l.length → l.length - i = d → d + 13 ≤ k →
    laws_markStringS.l0 k (ms i ++ l.drop i) ((i + 1 : Nat) : Int) i = some (((l.length + 1 : Nat) : Int), ms l.length) := by
  induction d with
  | zero =>
    intro i k hi hd hk
    obtain ⟨k, rfl⟩ : ∃ m, k = m + 1 := ⟨k - 1, by omega⟩
    have : i = l.length := by omega
    subst this
    simp only [laws_markStringS.l0]
    rw [List.drop_length, List.append_nil, ms_length, if_neg (by omega)]
  | succ d ih =>
    intro i k hi hd hk
    obtain ⟨k, rfl⟩ : ∃ m, k = m + 1 := ⟨k - 1, by omega⟩
    have hlt : i < l.length := by omega
    simp only [laws_markStringS.l0]
    rw [if_pos (by simp [ms_length]; omega), mt_f (i + 1) k (by omega) (by omega) (by omega)]
    simp only [Option.bind_some]
    rw [if_pos (by omega), w64' (a := ((i + 1 : Nat) : Int) + 1) (by omega) (by omega), w64' (a := (i : Int) + 1) (by omega) (by omega), Int.toNat_natCast]
    have e : (ms i ++ l.drop i).set i (mt (i + 1)) = ms (i + 1) ++ l.drop (i + 1) := by
      rw [List.set_append_right _ _ (by rw [ms_length]; omega), ms_length, Nat.sub_self, List.drop_eq_getElem_cons hlt, List.set_cons_zero, ms_succ, List.append_assoc]
      rfl
    rw [e]
    exact ih (i + 1) k (by omega) (by omega) (by omega)
theorem marks_f (l : List ByteArray) (hl : l.length ≤ 1048576) : laws_markStringS.f (l.length + 13) l 1 = some (((l.length + 1 : Nat) : Int), ms l.length) := by
  have := marks_loop l hl l.length 0 (l.length + 13) (by omega) (by omega) (by omega)
  unfold laws_markStringS.f
  simpa [ms] using this
theorem held_loop (n : Nat) (hn : n ≤ 1048576) (d : Nat) : ∀ (i k : Nat), i ≤ n → n - i = d → d + 13 ≤ k →
    laws_heldStringS.l0 k (ms n) ((i + 1 : Nat) : Int) i = some ((n + 1 : Nat) : Int) := by
  induction d with
  | zero =>
    intro i k hi hd hk
    obtain ⟨k, rfl⟩ : ∃ m, k = m + 1 := ⟨k - 1, by omega⟩
    have : i = n := by omega
    subst this
    simp only [laws_heldStringS.l0]
    rw [ms_length, if_neg (by omega)]
  | succ d ih =>
    intro i k hi hd hk
    obtain ⟨k, rfl⟩ : ∃ m, k = m + 1 := ⟨k - 1, by omega⟩
    have hlt : i < (ms n).length := by rw [ms_length]; omega
    simp only [laws_heldStringS.l0]
    rw [if_pos (by rw [ms_length]; omega), if_pos (by omega), mt_f (i + 1) k (by omega) (by omega) (by omega)]
    simp only [Option.bind_some]
    rw [rd_get (ms n) i hlt, ms_get, if_pos rfl, w64' (a := ((i + 1 : Nat) : Int) + 1) (by omega) (by omega), w64' (a := (i : Int) + 1) (by omega) (by omega)]
    exact ih (i + 1) k (by omega) (by omega) (by omega)
theorem held_f (n : Nat) (hn : n ≤ 1048576) : laws_heldStringS.f (n + 13) (ms n) 1 = some ((n + 1 : Nat) : Int) := by
  have := held_loop n hn n 0 (n + 13) (by omega) (by omega) (by omega)
  unfold laws_heldStringS.f
  simpa using this
theorem recAns_len (s : ByteArray) (hs : s.size ≤ 1048576) : (recAns s).1.length ≤ 1048576 := by
  unfold recAns
  split
  · simp
  · have h : ∀ (L : List (List UInt8)) n, (Plain.recov n L).1.length ≤ L.length := by
      intro L
      induction L with
      | nil => intro n; simp [Plain.recov]
      | cons x r ih =>
        intro n
        simp only [Plain.recov]
        rcases Lib.cut x [32] with ⟨p, q, b⟩
        cases b with
        | false => simp
        | true =>
          simp only
          split
          · have := ih (Plain.chk n q); simp; omega
          · simp
    have h1 := h (Plain.lns s.data.toList) 0
    have h2 := sum_len (Plain.lns s.data.toList)
    have h3 := lns_sum s.data.toList
    simp at h3 ⊢
    omega

/-! ### The law -/
theorem Out.reads {w W : World} {v : Value} {o : List ByteArray} (h : Out w v o W) : ∃ A c, v = .slice A o.length c ∧ o.length ≤ c ∧ Kd.C Kd.string W A o.length o := Kd.R_reads h.row

set_option maxHeartbeats 4000000 in
set_option maxRecDepth 100000 in
theorem recLaw_calls (s : ByteArray) (hs0 : s.size ≤ 9223372036854775807) (w : World) (hv : Vars w) :
    Calls Tryd.prog 4 #[.string s] w fun e w' => e = .returned (.bool true) ∧ Below w.heap.size w w' := by
  have HV := Lib.hid hv; clear hv
  by_cases hbig : 1048576 < s.size
  · go_enter Tryd.func4, Tryd.ntmps4
    go_wp2
    go_ret
    exact ⟨rfl, Below.refl _ _⟩
  · have hs : s.size ≤ 1048576 := by omega
    have HSp := Lib.hid (fun W => spec_Recover s hs W)
    have HIm := Lib.hid (fun W => impl_Recover s hs W)
    have hL := recAns_len s hs
    generalize hRa : recAns s = ra at *
    clear hRa
    obtain ⟨R, n, ok⟩ := ra
    simp only at HSp HIm hL
    have HEQ := Lib.hid (eqs_f R hL)
    have HMK := Lib.hid (marks_f R hL)
    have HHD := Lib.hid (held_f R.length hL)
    have hnn : ((n : Int) != (n : Int)) = false := by simp
    have hoo : (ok != ok) = false := by simp
    have hmm : ((((R.length + 1 : Nat) : Int)) != (((R.length + 1 : Nat) : Int))) = false := by simp
    have hneg : decide (((R.length + 1 : Nat) : Int) < 0) = false := by simp; omega
    clear hs0
    go_enter Tryd.func4, Tryd.ntmps4
    go_wp2_with fail
    refine (HSp.out _).mono ?_
    rintro e w1 ⟨v0, rfl, ho0⟩
    obtain ⟨A0, c0, rfl, hc0, hr0⟩ := ho0.reads
    have HB1 := Lib.hid ho0.bel
    have HR0 := Lib.hid hr0
    clear ho0 hr0
    go_wp2_with fail
    refine (HIm.out _ (HV.out.below HB1.out (Nat.le_refl _))).mono ?_
    rintro e w2 ⟨v1, rfl, ho1⟩
    have HO1 := Lib.hid ho1
    obtain ⟨A1, c1, rfl, hc1, hr1⟩ := ho1.reads
    have HR1 := Lib.hid hr1
    have HB2 : Hid (Below w1.heap.size w1 w2) := Lib.hid ho1.bel
    clear ho1 hr1
    go_wp2_with fail
    refine (laws_eqStringS.calls _ A1 c1 R A0 c0 R true _ HR1.out hc1 (Kd.C_below HR0.out HB2.out) hc0 HEQ.out).mono ?_
    rintro e w3 ⟨rfl, ⟨nd, rfl⟩⟩
    have HO3 := Lib.hid (HO1.out.drawn nd)
    clear HO1 HR1 HB2
    generalize w2.drewN nd = w3 at *
    go_wp2_with fail
    refine (laws_markStringS.calls _ (fun _ => True) (.slice A1 R.length c1) R 1 _ _ w1 w3 HO3.out.bel HO3.out.row HMK.out).mono ?_
    rintro e w4 ⟨rfl, hk4, hb4, hkp⟩
    obtain ⟨hzz, hcm, hcr⟩ := Kd.R_reads' hk4
    have hml := ms_length R.length
    have HRm : Hid (Kd.C Kd.string w4 A1 (ms R.length).length (ms R.length)) := Lib.hid hcr
    have hcm' : (ms R.length).length ≤ c1 := by rw [hml]; exact hcm
    have HB4 := Lib.hid hb4
    clear hk4 hb4 hcr hcm HO3 hzz hkp
    have HH1 := Lib.hid (fun W (hW : Below w4.heap.size w4 W) => laws_heldStringS.calls _ A1 c1 (ms R.length) 1 _ W (Kd.C_below HRm.out hW) hcm' HHD.out)
    rw [hml] at HH1
    clear hml hcm'
    go_wp2_with fail
    refine (HH1.out _ (Below.refl _ _)).mono ?_
    rintro e w5 ⟨rfl, hb5⟩
    have HB45 := Lib.hid hb5
    have HB5 := Lib.hid (below_then HB4.out HB4.out.size hb5)
    clear hb5
    go_wp2_with fail
    refine (HIm.out _ (HV.out.below (below_then HB1.out HB1.out.size HB5.out) (Nat.le_refl _))).mono ?_
    rintro e w6 ⟨v6, rfl, ho6⟩
    obtain ⟨A6, c6, rfl, hc6, hr6⟩ := ho6.reads
    have HR6 := Lib.hid hr6
    have HB46 := Lib.hid (below_then HB45.out HB45.out.size ho6.bel)
    have HB6 := Lib.hid (below_then HB5.out HB5.out.size ho6.bel)
    clear ho6 hr6
    go_wp2_with fail
    refine (laws_eqStringS.calls _ A6 c6 R A0 c0 R true _ HR6.out hc6 (Kd.C_below HR0.out HB6.out) hc0 HEQ.out).mono ?_
    rintro e w7 ⟨rfl, ⟨nd, rfl⟩⟩
    have HB47 := Lib.hid (pw_below_drewN HB46.out nd)
    have HB7 := Lib.hid (pw_below_drewN HB6.out nd)
    generalize w6.drewN nd = w7 at *
    go_wp2_with fail
    refine (HH1.out _ HB47.out).mono ?_
    rintro e w8 ⟨rfl, hb8⟩
    have HB8 := Lib.hid (below_then HB1.out HB1.out.size (below_then HB7.out HB7.out.size hb8))
    clear hb8
    go_wp2
    go_ret
    exact ⟨rfl, HB8.out⟩
end Go.Proofs.YthjahljlijcbmaaDoor
