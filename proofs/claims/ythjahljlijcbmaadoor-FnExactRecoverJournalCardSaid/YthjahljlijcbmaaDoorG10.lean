/- The reference's l01Cut, l08Lines, l08Recover and RecoverJournal, walked: they return what Plain.recov finds in the lines of a text, for every text of at most 2^40 bytes. -/
import Derived.Test.YthjahljlijcbmaaDoorG3
import Derived.Test.YthjahljlijcbmaaDoorG9
import Derived.Test.YthjahljlijcbmaaDoorPFnExactRecoverJournalx4
import Derived.Deep.QuietTactic
import Derived.BigQuiet
import Derived.IntWalk
set_option linter.unusedVariables false
set_option linter.unusedSimpArgs false
namespace Go.Proofs.YthjahljlijcbmaaDoor
open Go.RowKit Go.Proofs.YthjahljlijcbmaaDoorW.PrintWords
open PFnExactRecoverJournal (spec_l01Cut.f spec_l01Cut.l0 spec_l01Cut.calls)

theorem w64' {a : Int} (h0 : -9223372036854775808 ≤ a) (h1 : a ≤ 9223372036854775807) : wrap64 a = a := by unfold wrap64; omega
/-- Bytes as a string. -/
def mk (l : List UInt8) : ByteArray := ⟨l.toArray⟩
theorem mk_data (l : List UInt8) : (mk l).data.toList = l := by simp [mk]
theorem mk_of (s : ByteArray) : mk s.data.toList = s := by obtain ⟨⟨l⟩⟩ := s; rfl
theorem mk_size (l : List UInt8) : (mk l).size = l.length := by simp [mk, ByteArray.size]
theorem extract_mk (s : ByteArray) (a b : Nat) : s.extract a b = mk ((s.data.toList.drop a).take (b - a)) := by
  rw [← Lib.extract_data, mk_of]

theorem cutting (s : ByteArray) (m : UInt8) (hs : s.size ≤ 1099511627776) (d : Nat) : ∀ (i from_ k : Nat) (out : List ByteArray), i ≤ s.size → from_ ≤ i → s.size - i = d → d + 2 ≤ k → out.length ≤ i →
    spec_l01Cut.l0 k s (m.toNat : Int) out from_ i = some (out ++ (Plain.glue ((s.data.toList.take i).drop from_) (Plain.cutAll m (s.data.toList.drop i))).map mk) := by
  induction d with
  | zero =>
    intro i from_ k out hi hf hd hk ho
    obtain ⟨k, rfl⟩ : ∃ m, k = m + 2 := ⟨k - 2, by omega⟩
    have : i = s.size := by omega
    subst this
    simp only [spec_l01Cut.l0]
    rw [if_pos (by omega), if_pos trivial, if_pos (by omega), if_pos (by omega), if_pos (by omega), w64' (by omega) (by omega), if_neg (by omega), Int.toNat_natCast, Int.toNat_natCast, extract_mk]
    rw [show s.data.toList.drop s.size = [] from List.drop_eq_nil_of_le (by simp)]
    simp only [Plain.cutAll, Plain.glue, List.append_nil, List.map_cons, List.map_nil]
    rw [List.drop_take]
  | succ d ih =>
    intro i from_ k out hi hf hd hk ho
    obtain ⟨k, rfl⟩ : ∃ m, k = m + 1 := ⟨k - 1, by omega⟩
    have hlt : i < s.size := by omega
    have hl : i < s.data.toList.length := by simpa using hlt
    have hdr : s.data.toList.drop i = s.data.toList[i] :: s.data.toList.drop (i + 1) := List.drop_eq_getElem_cons hl
    have htk : (s.data.toList.take (i + 1)).drop from_ = (s.data.toList.take i).drop from_ ++ [s.data.toList[i]] := by
      rw [take_snoc _ i hl, List.drop_append_of_le_length (by simp; omega)]
    simp only [spec_l01Cut.l0]
    rw [if_pos (by omega), if_neg (by omega), if_pos (by omega), if_pos (by omega), bt_get s i hlt]
    by_cases hb : s.data.toList[i] = m
    · rw [if_pos (by rw [hb]), if_pos (by omega), if_pos (by omega), if_pos (by omega), w64' (by omega) (by omega), Int.toNat_natCast, Int.toNat_natCast, extract_mk]
      have := ih (i + 1) (i + 1) k (out ++ [mk ((s.data.toList.drop from_).take (i - from_))]) (by omega) (by omega) (by omega) (by omega) (by simp; omega)
      rw [show ((i : Int) + 1) = ((i + 1 : Nat) : Int) from by omega, this, hdr, hb, Plain.cutAll_mark]
      rw [show (s.data.toList.take (i + 1)).drop (i + 1) = [] from List.drop_eq_nil_of_le (by simp; omega), Plain.glue_nil _ (Plain.cutAll_ne _ _), ← List.drop_take]
      simp [Plain.glue]
    · rw [if_neg (by intro h; exact hb (UInt8.toNat_inj.1 (by omega))), w64' (by omega) (by omega)]
      have := ih (i + 1) from_ k out (by omega) (by omega) (by omega) (by omega) (by omega)
      rw [show ((i : Int) + 1) = ((i + 1 : Nat) : Int) from by omega, this, hdr, Plain.cutAll_other _ _ _ hb, htk, Plain.glue_glue]
theorem cutting_f (s : ByteArray) (m : UInt8) (hs : s.size ≤ 1099511627776) : spec_l01Cut.f (s.size + 2) s (m.toNat : Int) = some ((Plain.cutAll m s.data.toList).map mk) := by
  unfold spec_l01Cut.f
  have := cutting s m hs s.size 0 0 (s.size + 2) [] (by omega) (by omega) (by omega) (by omega) (by simp)
  simpa [Plain.glue_nil _ (Plain.cutAll_ne _ _)] using this

/-- A row that is read, made shorter. -/
theorem C_short {w : World} {A : Option Addr} {l : List ByteArray} (h : Kd.C Kd.string w A l.length l) (k : Nat) (hk : k ≤ l.length) : Kd.C Kd.string w A (l.take k).length (l.take k) := by
  refine ⟨rfl, by have := h.2.1; simp; omega, fun hp => ?_⟩
  obtain ⟨ad, e, hc⟩ := h.2.2 (by simp at hp; omega)
  refine ⟨ad, e, fun j p hj => hc j p ?_⟩
  rw [List.getElem?_take] at hj
  split at hj
  · exact hj
  · cases hj

set_option maxHeartbeats 2000000 in
set_option maxRecDepth 100000 in
theorem lines_calls (s : ByteArray) (hs : s.size ≤ 1099511627776) (w : World) :
    Calls Tryd.prog 29 #[.string s] w fun e w' => ∃ A c x, e = .returned (.tuple #[.slice A ((Plain.lns s.data.toList).map mk).length c, .string x]) ∧ ((Plain.lns s.data.toList).map mk).length ≤ c ∧ Kd.C Kd.string w' A ((Plain.lns s.data.toList).map mk).length ((Plain.lns s.data.toList).map mk) ∧ Below w.heap.size w w' := by
  have hf := cutting_f s 10 hs
  have hne := Plain.cutAll_ne 10 s.data.toList
  have hln := Plain.cutAll_length 10 s.data.toList
  have hlns : (Plain.lns s.data.toList).map mk = ((Plain.cutAll 10 s.data.toList).map mk).take ((Plain.cutAll 10 s.data.toList).length - 1) := by
    unfold Plain.lns
    rw [List.dropLast_eq_take, List.map_take]
  rw [hlns]
  clear hlns
  have hl1 : 1 ≤ ((Plain.cutAll 10 s.data.toList).map mk).length := by
    rw [List.length_map]
    cases h : Plain.cutAll 10 s.data.toList with
    | nil => exact absurd h hne
    | cons => simp
  have hl2 : ((Plain.cutAll 10 s.data.toList).map mk).length ≤ 1099511627777 := by rw [List.length_map]; simp at hln; omega
  have hl3 : (Plain.cutAll 10 s.data.toList).length = ((Plain.cutAll 10 s.data.toList).map mk).length := by simp
  rw [hl3]
  generalize ((Plain.cutAll 10 s.data.toList).map mk) = L at *
  clear hne hln hl3
  have HF := Lib.hid hf; clear hf
  go_enter Tryd.func29, Tryd.ntmps29
  go_wp2_with fail
  refine (spec_l01Cut.calls _ s _ L _ HF.out).mono ?_
  rintro e w1 ⟨v, rfl, hk, hb⟩
  obtain ⟨A, c, rfl, hc, hr⟩ := Kd.R_reads hk
  clear hk
  obtain ⟨ad, rfl, hcell⟩ := lines_cell hr (Below.refl _ _) (L.length - 1) (by omega)
  have HB := Lib.hid hb; clear hb
  have HC := Lib.hid (C_short hr (L.length - 1) (by omega)); clear hr
  obtain ⟨n, hn⟩ : ∃ n, L.length = n + 1 := ⟨L.length - 1, by omega⟩
  have hc' : n + 1 ≤ c := by omega
  have hnb : n ≤ 1099511627777 := by omega
  generalize hx : L[L.length - 1] = x at *
  clear hx
  rw [show L.length - 1 = n from by omega] at *
  have hT : (L.take n).length = n := by simp; omega
  rw [hT] at *
  clear hT
  rw [hn]
  have Hn := Lib.hid hn; clear hn
  go_wp2_with fail
  have hn1 : IntKind.i64.wrap (n : Int) = (n : Int) := IntWalk.i64_in _ (by omega)
  have hn0 : (0 : Int) ≤ (n : Int) := by omega
  have hn2 : (n : Int) ≤ (c : Int) := by omega
  have hn3 : (n : Int) < (n : Int) + 1 := by omega
  have hn4 : decide (n ≤ c) = true := by simp; omega
  go_quiet (fail)
  clear hn1 hn0 hn2 hn3 hn4
  go_wp2
  go_ret2
  rw [show L.length - 1 = n from by have := Hn.out; omega, show (List.take n L).length = n from by have := Hn.out; simp; omega]
  have hC := Kd.C_below HC.out (pw_below_drewN (Below.refl w1.heap.size w1) nq)
  rw [show (List.take n L).length = n from by have := Hn.out; simp; omega] at hC
  exact ⟨some ad, c, x, rfl, by omega, hC, pw_below_drewN HB.out _⟩

/-! ### l08Recover -/
/-- What a call has made so far: a row of lines, and nothing else has turned. -/
structure Out (w : World) (v : Value) (o : List ByteArray) (W : World) : Prop where
  row : Kd.R Kd.string 9 W w.heap.size (fun _ => True) v o
  bel : Below w.heap.size w W
theorem Out.more {w W W2 : World} {v : Value} {o : List ByteArray} (h : Out w v o W) (k : Below W.heap.size W W2) : Out w v o W2 := ⟨Kd.R_below h.row k, below_then h.bel h.bel.size k⟩
theorem Out.drawn {w W : World} {v : Value} {o : List ByteArray} (h : Out w v o W) (n : Nat) : Out w v o (W.drewN n) := h.more (pw_below_drewN (Below.refl _ _) n)

theorem Out.lift {w w1 W : World} {v : Value} {o : List ByteArray} (hb : Below w.heap.size w w1) (h : Out w1 v o W) : Out w v o W := ⟨Kd.R_lower h.row hb.size, below_then hb hb.size h.bel⟩

theorem cut_at (l : List UInt8) (m : UInt8) (j : Nat) (hj : j < l.length) (hm : l[j] = m) (hn : ∀ i (h : i < l.length), i < j → l[i] ≠ m) : Lib.cut l [m] = (l.take j, l.drop (j + 1), true) := by
  induction l generalizing j with
  | nil => simp at hj
  | cons b l ih =>
    rw [Plain.cut_cons]
    cases j with
    | zero => simp at hm; simp [hm]
    | succ j =>
      have h0 := hn 0 (by simp) (by omega)
      simp at h0
      rw [if_neg h0, ih j (by simpa using hj) (by simpa using hm) (fun i h hi => by have := hn (i + 1) (by simpa using h) (by omega); simpa using this)]
      simp
theorem cut_at_end (l : List UInt8) (m : UInt8) (hn : ∀ i (h : i < l.length), l[i] ≠ m) : Lib.cut l [m] = (l, [], false) := by
  induction l with
  | nil => exact Plain.cut_nil m
  | cons b l ih =>
    rw [Plain.cut_cons]
    have h0 := hn 0 (by simp)
    simp at h0
    rw [if_neg h0, ih (fun i h => by have := hn (i + 1) (by simpa using h); simpa using this)]

/-- The bytes before place j are not blank. -/
def NoBlank (s : ByteArray) (j : Nat) : Prop := ∀ i (h : i < s.size), i < j → ¬ s[i].toNat = 32
theorem data_get (s : ByteArray) (i : Nat) (h : i < s.size) : s.data.toList[i]'(by simpa using h) = s[i] := rfl

/-- From line k on, with the check number n, still to come: what adds up to the whole answer. -/
def Todo (L : List ByteArray) (full : List (List UInt8) × Nat) (k : Nat) (n : Int) (o : List ByteArray) (b : Nat) : Prop :=
  full.1.map mk = o ++ (Plain.recov n ((L.drop k).map (·.data.toList))).1.map mk ∧ full.2 = b + (Plain.recov n ((L.drop k).map (·.data.toList))).2
theorem Todo.stop {L : List ByteArray} {full : List (List UInt8) × Nat} {k : Nat} {n : Int} {o : List ByteArray} {b : Nat} (h : Todo L full k n o b) (hr : Plain.recov n ((L.drop k).map (·.data.toList)) = ([], 0)) : full.1.map mk = o ∧ full.2 = b := by
  obtain ⟨h1, h2⟩ := h
  rw [hr] at h1 h2
  simpa using And.intro h1 h2
theorem Todo.next {L : List ByteArray} {full : List (List UInt8) × Nat} {k : Nat} {n n' : Int} {o : List ByteArray} {b : Nat} {q : List UInt8} (h : Todo L full k n o b) (hk : k < L.length)
    (hr : Plain.recov n ((L.drop k).map (·.data.toList)) = (q :: (Plain.recov n' ((L.drop (k + 1)).map (·.data.toList))).1, (Plain.recov n' ((L.drop (k + 1)).map (·.data.toList))).2 + (L[k].size + 1))) : Todo L full (k + 1) n' (o ++ [mk q]) (b + (L[k].size + 1)) := by
  obtain ⟨h1, h2⟩ := h
  rw [hr] at h1 h2
  refine ⟨by rw [h1]; simp, by rw [h2]; omega⟩
theorem recov_at (L : List ByteArray) (k : Nat) (h : k < L.length) (n : Int) : Plain.recov n ((L.drop k).map (·.data.toList)) = Plain.recov n (L[k].data.toList :: (L.drop (k + 1)).map (·.data.toList)) := by
  rw [List.drop_eq_getElem_cons h, List.map_cons]

theorem cutAll_sum (m : UInt8) (l : List UInt8) : ((Plain.cutAll m l).map (fun x => x.length + 1)).sum = l.length + 1 := by
  induction l with
  | nil => rfl
  | cons b l ih =>
    by_cases h : b = m
    · subst h; rw [Plain.cutAll_mark]; simp [ih]; omega
    · rw [Plain.cutAll_other m b l h]
      cases hc : Plain.cutAll m l with
      | nil => exact absurd hc (Plain.cutAll_ne m l)
      | cons x r =>
        rw [hc] at ih
        simp [Plain.glue] at ih ⊢
        omega
theorem lns_sum (l : List UInt8) : ((Plain.lns l).map (fun x => x.length + 1)).sum ≤ l.length := by
  have h := cutAll_sum 10 l
  unfold Plain.lns
  have hne := Plain.cutAll_ne 10 l
  rw [← List.dropLast_concat_getLast hne] at h
  simp only [List.map_append, List.sum_append, List.map_cons, List.map_nil, List.sum_cons, List.sum_nil] at h
  omega
theorem recov_le (L : List (List UInt8)) : ∀ n, (Plain.recov n L).2 ≤ (L.map (fun x => x.length + 1)).sum := by
  induction L with
  | nil => intro n; simp [Plain.recov]
  | cons s r ih =>
    intro n
    simp only [Plain.recov]
    rcases Lib.cut s [32] with ⟨p, q, b⟩
    cases b with
    | false => simp
    | true =>
      simp only
      split
      · have := ih (Plain.chk n q)
        simp
        omega
      · simp
theorem sum_get {L : List (List UInt8)} (k : Nat) (h : k < L.length) : L[k].length + 1 ≤ (L.map (fun x => x.length + 1)).sum := by
  induction L generalizing k with
  | nil => simp at h
  | cons s r ih =>
    cases k with
    | zero => simp
    | succ k =>
      have := ih k (by simpa using h)
      simp at this ⊢
      omega
theorem sum_len (L : List (List UInt8)) : L.length ≤ (L.map (fun x => x.length + 1)).sum := by
  induction L with
  | nil => simp
  | cons s r ih => simp at ih ⊢; omega

/-- What one line that is one of a journal gives. -/
theorem recov_yes (L : List ByteArray) (k : Nat) (h : k < L.length) (n : Int) (j : Nat) (hj : j < L[k].size) (h32 : L[k][j].toNat = 32) (hn : NoBlank L[k] j) (he : L[k].extract 0 j = Plain.dec (Plain.chk n (L[k].extract (j + 1) L[k].size).data.toList)) :
    Plain.recov n ((L.drop k).map (·.data.toList)) = ((L[k].extract (j + 1) L[k].size).data.toList :: (Plain.recov (Plain.chk n (L[k].extract (j + 1) L[k].size).data.toList) ((L.drop (k + 1)).map (·.data.toList))).1, (Plain.recov (Plain.chk n (L[k].extract (j + 1) L[k].size).data.toList) ((L.drop (k + 1)).map (·.data.toList))).2 + (L[k].size + 1)) := by
  have hl : j < L[k].data.toList.length := by simpa using hj
  have hcut := cut_at L[k].data.toList 32 j hl (UInt8.toNat_inj.1 h32) (fun i hi hlt e => hn i (by simpa using hi) hlt (by rw [← data_get L[k] i (by simpa using hi), e]; rfl))
  have hq : (L[k].extract (j + 1) L[k].size).data.toList = L[k].data.toList.drop (j + 1) := by
    rw [Lib.extract_data, List.take_of_length_le (by simp)]
  have hp : (L[k].extract 0 j).data.toList = L[k].data.toList.take j := by rw [Lib.extract_data]; simp
  rw [he] at hp
  rw [recov_at L k h]
  simp only [Plain.recov]
  rw [hcut]
  simp only
  rw [if_pos (by rw [← hp, hq]; simp [Plain.dec]), ← hq]
  simp
theorem recov_no (L : List ByteArray) (k : Nat) (h : k < L.length) (n : Int) (j : Nat) (hj : j < L[k].size) (h32 : L[k][j].toNat = 32) (hn : NoBlank L[k] j) (he : ¬ L[k].extract 0 j = Plain.dec (Plain.chk n (L[k].extract (j + 1) L[k].size).data.toList)) :
    Plain.recov n ((L.drop k).map (·.data.toList)) = ([], 0) := by
  have hl : j < L[k].data.toList.length := by simpa using hj
  have hcut := cut_at L[k].data.toList 32 j hl (UInt8.toNat_inj.1 h32) (fun i hi hlt e => hn i (by simpa using hi) hlt (by rw [← data_get L[k] i (by simpa using hi), e]; rfl))
  have hq : (L[k].extract (j + 1) L[k].size).data.toList = L[k].data.toList.drop (j + 1) := by
    rw [Lib.extract_data, List.take_of_length_le (by simp)]
  have hp : (L[k].extract 0 j).data.toList = L[k].data.toList.take j := by rw [Lib.extract_data]; simp
  rw [recov_at L k h]
  simp only [Plain.recov]
  rw [hcut]
  simp only
  rw [if_neg]
  intro e
  apply he
  rw [hq, ← mk_of (L[k].extract 0 j), hp, e]
  rfl
theorem recov_end (L : List ByteArray) (k : Nat) (h : k < L.length) (n : Int) (hn : NoBlank L[k] L[k].size) : Plain.recov n ((L.drop k).map (·.data.toList)) = ([], 0) := by
  rw [recov_at L k h]
  simp only [Plain.recov]
  rw [cut_at_end L[k].data.toList 32 (fun i hi e => hn i (by simpa using hi) (by simpa using hi) (by rw [← data_get L[k] i (by simpa using hi), e]; rfl))]

set_option maxHeartbeats 4000000 in
set_option maxRecDepth 100000 in
theorem recover_calls (s : ByteArray) (hs : s.size ≤ 1099511627776) (w : World) :
    Calls Tryd.prog 20 #[.string s] w fun e w' => ∃ v, e = .returned (.tuple #[v, .int .i64 (Plain.recov 0 (Plain.lns s.data.toList)).2]) ∧ Out w v ((Plain.recov 0 (Plain.lns s.data.toList)).1.map mk) w' := by
  have hfb : (Plain.recov 0 (Plain.lns s.data.toList)).2 ≤ 1099511627776 := by
    have h1 := recov_le (Plain.lns s.data.toList) 0
    have h2 := lns_sum s.data.toList
    simp at h2
    omega
  generalize hfull : Plain.recov 0 (Plain.lns s.data.toList) = full at *
  have HL := Lib.hid (fun W => lines_calls s hs W)
  have hsz : ∀ k (h : k < ((Plain.lns s.data.toList).map mk).length), ((Plain.lns s.data.toList).map mk)[k].size ≤ 1099511627776 := by
    intro k h
    have h1 := sum_get (L := Plain.lns s.data.toList) k (by simpa using h)
    have h2 := lns_sum s.data.toList
    rw [List.getElem_map, mk_size]
    simp at h2
    omega
  have hlen : ((Plain.lns s.data.toList).map mk).length ≤ 1099511627776 := by
    have h1 := sum_len (Plain.lns s.data.toList)
    have h2 := lns_sum s.data.toList
    simp at h2 ⊢
    omega
  have hT0 : Todo ((Plain.lns s.data.toList).map mk) full 0 0 [] 0 := by
    have e : (((Plain.lns s.data.toList).map mk).drop 0).map (·.data.toList) = Plain.lns s.data.toList := by
      simp [Function.comp_def, mk_data]
    unfold Todo
    rw [e, hfull]
    simp
  clear hfull
  generalize (Plain.lns s.data.toList).map mk = L at *
  have HSZ := Lib.hid hsz; clear hsz
  have HT0 := Lib.hid hT0; clear hT0
  go_enter Tryd.func20, Tryd.ntmps20
  go_wp2_with fail
  refine (HL.out _).mono ?_
  rintro e w1 ⟨A, c, x, rfl, hc, hr, hb⟩
  have HR := Lib.hid hr
  have HB := Lib.hid hb
  clear hr hb HL
  go_wp2_with (first | ((with_reducible refine gate_dst (N := 17) rfl ?_); refine Kd.R_lit Kd.string w1.heap.size 9 ?hg (N := 17) ?hd (xs := ([] : List ByteArray)) (inner := []) (ok := fun _ => True) (okp := fun _ => True) ?hr ?hp (fun _ hk => hk) trivial (Below.refl w1.heap.size w1) (Nat.le_refl _) (by simp) ?_; (case hd => rfl); (case hg => rfl); (case hr => first | (go_simp; done) | (go_simp; rfl)); (case hp => exact (Reps.none _ _)); intro v2 w2 ho2 hb2 hg2 hnew2; clear hg2 hnew2))
  have HO : Aside0 (Out w1 v2 [] w2) := ⟨⟨ho2, hb2⟩⟩
  clear ho2 hb2
  go_loopw [6, 7, 8, 9] (fun v n b i wr => ∃ (k : Nat) (cn : Int) (o : List ByteArray) (bb : Nat), k ≤ L.length ∧ i = .int .i64 k ∧ n = .int .i64 cn ∧ b = .int .i64 bb ∧ 0 ≤ cn ∧ cn < 65003 ∧ o.length ≤ k ∧ Aside0 (Out w1 v o wr) ∧ Aside0 (Todo L full k cn o bb)) (fun _ _ _ i _ => L.length - (intOf i).toNat)
  case atStart => exact ⟨0, 0, [], 0, Nat.zero_le _, rfl, rfl, rfl, by omega, by omega, by simp, HO, ⟨HT0.out⟩⟩
  case round =>
    clear HO HT0
    obtain ⟨k, cn, o, bb, hk, rfl, rfl, rfl, hcn0, hcn1, hol, HO, HT⟩ := hrel
    have hbb : bb ≤ 1099511627776 := by have := HT.out.2; omega
    by_cases hlt : k < L.length
    · obtain ⟨ad, rfl, hcell⟩ := lines_cell HR.out HO.out.bel k hlt
      have hsk := HSZ.out k hlt
      go_wp2
      go_loopw [10] (fun j W => ∃ m : Nat, m ≤ L[k].size ∧ j = .int .i64 m ∧ Aside0 (NoBlank L[k] m) ∧ wr = W) (fun j _ => L[k].size - (intOf j).toNat)
      case atStart => exact ⟨0, Nat.zero_le _, rfl, ⟨fun i h hi => absurd hi (by omega)⟩, rfl⟩
      case round =>
        obtain ⟨m, hm, rfl, HN, rfl⟩ := hrel
        by_cases hml : m < L[k].size
        · by_cases h32 : L[k][m].toNat = 32
          · have hb : ((L[k][m].toNat : Int) == 32) = true := by simp [h32]
            have hbn : ((L[k][m].toNat : Int) != 32) = false := by simp [h32]
            have HY := Lib.hid (fun (h : L[k].extract 0 m = _) => recov_yes L k hlt cn m hml h32 HN.out h)
            have HNo := Lib.hid (fun (h : ¬ L[k].extract 0 m = _) => recov_no L k hlt cn m hml h32 HN.out h)
            clear h32
            have hne : ((m : Int) == (L[k].size : Int)) = false := by simp; omega
            have hne2 : (m == L[k].size) = false := by simp; omega
            have hls : (L[k].extract (m + 1) L[k].size).size ≤ 1099511627776 := by rw [ByteArray.size_extract]; omega
            have HCk := Lib.hid (fun W => check_calls cn (L[k].extract (m + 1) L[k].size) hcn0 hcn1 hls W)
            have hck := Plain.chk_range (L[k].extract (m + 1) L[k].size).data.toList cn hcn0 hcn1
            obtain ⟨hck0, hck1⟩ := hck
            go_wp2_with fail
            refine (HCk.out _).mono ?_
            rintro e W2 ⟨rfl, ⟨nd, rfl⟩⟩
            have HO2 : Aside0 (Out w1 u6 o (wr.drewN nd)) := ⟨HO.out.drawn nd⟩
            clear HO
            generalize hW : wr.drewN nd = W2 at *
            clear hW hcell
            obtain ⟨ad', e', hcell2⟩ := lines_cell HR.out HO2.out.bel k hlt
            cases e'
            have Hd : Hid (∀ W, Calls Tryd.prog 24 #[.int .i64 (Plain.chk cn (L[k].extract (m + 1) L[k].size).data.toList)] W fun e w' => e = .returned (.string (Plain.dec (Plain.chk cn (L[k].extract (m + 1) L[k].size).data.toList))) ∧ Below W.heap.size W w') := Lib.hid (fun W => dec_calls _ hck0 hck1 W)
            have HMK := Lib.hid (mk_of (L[k].extract (m + 1) L[k].size))
            generalize hck : Plain.chk cn (L[k].extract (m + 1) L[k].size).data.toList = ck at *
            have Hck := Lib.hid hck; clear hck
            generalize hdn : Plain.dec ck = dn at *
            clear hdn HCk
            have hcd : W2.drew.cell? (ad.add k) = some (.string L[k]) := by simpa using hcell2
            have hod : Aside0 (Out w1 u6 o W2.drew) := ⟨HO2.out.drawn 1⟩
            have hlim : L[k].size ≤ 9223372036854775807 := by omega
            by_cases heq : L[k].extract 0 m = dn
            · have HT2 : Aside0 (Todo L full (k + 1) ck (o ++ [L[k].extract (m + 1) L[k].size]) (bb + (L[k].size + 1))) := ⟨by
                have := HT.out.next hlt (HY.out heq)
                rw [HMK.out] at this
                exact this⟩
              have hs1 : ((L[k].extract 0 m).toList == dn.toList) = true := by rw [heq]; simp
              clear heq HY HNo
              have htx : o.length ≤ 1099511627776 := by omega
              go_wp2_with fail
              go_region_held3 (fun W => W.cell? (ad.add k) = some (.string L[k]) ∧ Aside0 (Out w1 u6 o W)) (first | exact ⟨hcd, hod⟩ | exact ⟨c2, b2⟩ | assumption)
                (first | (go_at_call 24; refine (Hd.out _).mono ?_; rintro e w2 ⟨rfl, hb2⟩; have c2 := pw_cell_below hb2 hcd; have b2 : Aside0 (Out w1 u6 o w2) := ⟨hod.out.more hb2⟩))
              go_wp2_with (first | ((with_reducible refine gate_builtin (b := .append) (xs := #[.tmp 68, .tmp 70]) rfl ?_); at_builtin; refine Kd.R_append Kd.string (w0 := w1) w1.heap.size rfl (.tmp 68) (.tmp 70) 22 9 (.string ⟨#[]⟩) 16 rfl Tryd.underlying22 PFnExactRecoverJournal.info9 rfl (by decide) (by omega) u6 o (L[k].extract (m + 1) L[k].size) [.string (L[k].extract (m + 1) L[k].size)] (fun _ => True) (fun _ => False) rfl rfl ?aP (fun _ hk => hk.elim) ?aF ?aO ?aB ?aS ?aL ?_; (case aP => exact rfl); (case aB => exact b2.out.bel); (case aF => exact (fun _ _ => trivial)); (case aO => exact b2.out.row); (case aS => exact b2.out.bel.size); (case aL => omega); intro v3 w3 ho3 hb3 hg3 hat3; obtain ⟨ad3, e3, hcell3⟩ := lines_cell HR.out hb3 k hlt; cases e3; have HO3 : Aside0 (Out w1 v3 (o ++ [L[k].extract (m + 1) L[k].size]) w3) := ⟨⟨ho3, hb3⟩⟩; clear ho3 hb3 hg3 hat3))
              go_roundw
              case rel => exact ⟨k + 1, ck, o ++ [L[k].extract (m + 1) L[k].size], bb + (L[k].size + 1), by omega, by go_num, rfl, by go_num, hck0, hck1, by simp; omega, HO3, HT2⟩
              case measure => simp [intOf]; omega
            · have hS := HT.out.stop (HNo.out heq)
              have hs1 : ((L[k].extract 0 m).toList == dn.toList) = false := by
                rw [beq_eq_false_iff_ne]
                intro h
                apply heq
                rw [ByteArray.toList_eq, ByteArray.toList_eq] at h
                rw [← mk_of (L[k].extract 0 m), h, mk_of]
              have HS := Lib.hid hS
              clear heq HY HNo hS
              go_wp2_with fail
              go_region_held3 (fun W => W.cell? (ad.add k) = some (.string L[k]) ∧ Aside0 (Out w1 u6 o W)) (first | exact ⟨hcd, hod⟩ | exact ⟨c2, b2⟩ | assumption)
                (first | (go_at_call 24; refine (Hd.out _).mono ?_; rintro e w2 ⟨rfl, hb2⟩; have c2 := pw_cell_below hb2 hcd; have b2 : Aside0 (Out w1 u6 o w2) := ⟨hod.out.more hb2⟩))
              go_wp2
              go_ret2
              exact ⟨u6, by rw [HS.out.2]; rfl, by rw [HS.out.1]; exact b2.out.lift HB.out⟩
          · have hb : ((L[k][m].toNat : Int) == 32) = false := by simp; omega
            have hbn : ((L[k][m].toNat : Int) != 32) = true := by simp; omega
            have HN2 : Aside0 (NoBlank L[k] (m + 1)) := ⟨fun i h hi => by
              by_cases e : i = m
              · subst e; exact h32
              · exact HN.out i h (by omega)⟩
            clear h32
            go_wp2
            go_roundw
            case rel => exact ⟨m + 1, by omega, by go_num, HN2, trivial⟩
            case measure => simp [intOf]; omega
        · have hme : m = L[k].size := by omega
          have HS := Lib.hid (HT.out.stop (recov_end L k hlt cn (by rw [← hme]; exact HN.out)))
          subst hme
          have hne : ((L[k].size : Int) == (L[k].size : Int)) = true := by simp
          go_wp2
          go_ret2
          exact ⟨u6, by rw [HS.out.2]; rfl, by rw [HS.out.1]; exact HO.out.lift HB.out⟩
    · have hz : L.drop k = [] := List.drop_eq_nil_of_le (by omega)
      have HS := Lib.hid (HT.out.stop (by rw [hz]; rfl))
      clear hz
      go_wp2
      go_ret2
      exact ⟨u6, by rw [HS.out.2]; rfl, by rw [HS.out.1]; exact HO.out.lift HB.out⟩
end Go.Proofs.YthjahljlijcbmaaDoor
