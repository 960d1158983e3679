/- Heaps of grains, walked: l02Give of the reference, checked and ReadHeap of the program. -/
import Derived.Test.YticfmlohkfoccaaGreatDoorH19
set_option linter.unusedVariables false
set_option linter.unusedSimpArgs false
namespace Go.Proofs.YticfmlohkfoccaaGreatDoor
open Go.RowKit Go.Proofs.YticfmlohkfoccaaGreatDoorW.PrintWords

def nilS : Value := .slice none 0 0
def putH (W : World) (p : Nat) (v : Value) : World := W.setCell ⟨p, 0, none⟩ v
theorem BoxH.put {W : World} {p : Nat} {v : Value} (h : BoxH W p v) (v' : Value) : BoxH (putH W p v') p v' := by
  unfold BoxH
  have : #[v'] = (#[v] : Array Value).setIfInBounds 0 v' := by simp
  rw [this]
  exact heap_setCell (i := 0) _ h
theorem load_heap {W : World} {p : Nat} {v : Value} (h : BoxH W p v) : (loadVar 73 ⟨p, 0, none⟩).run Tryz.prog W = .ok (.agg #[v]) W := by
  have q0 := h.at
  simp [go_sem, loadVar, *]
theorem ret_heap {fn : Func} (h : fn.results = #[.cell 2 73, .tmp 3]) {W : World} {p : Nat} {v : Value} (hx : BoxH W p v) {tmps : Array Value} (h2 : tmps.getD 2 undef = .pointer (some ⟨p, 0, none⟩)) {b : Bool} (h3 : tmps.getD 3 undef = .bool b) :
    (results fn tmps).run Tryz.prog W = .ok (.tuple #[.agg #[v], .bool b]) W := by
  rw [results_cell_tmp h, h2, h3]
  rw [show (asAddr (Value.pointer (some ⟨p, 0, none⟩))).run Tryz.prog W = .ok ⟨p, 0, none⟩ W from rfl]
  simp only [Result.andThen]
  rw [load_heap hx]

set_option maxHeartbeats 1000000 in
set_option maxRecDepth 100000 in
theorem l02Give_calls (A : Option Addr) (c : Nat) (l : List G) (w : World) (hr : GRow w A l) (hl : l.length ≤ 2000000) (hok : ∀ x ∈ l, x.ok = true) :
    Calls Tryz.prog 137 #[.agg #[.slice A l.length c]] w fun e w' => e = .returned (.tuple #[.agg #[if l.length ≤ 24 then .slice A l.length c else nilS], .bool (decide (l.length ≤ 24))]) ∧ Below w.heap.size w w' := by
  have hb0 : Below w.heap.size w (w.alloc (.cells #[.slice A l.length c] 73)) := (Below.refl w.heap.size w).alloc (Nat.le_refl _) _
  have hb1 : Below w.heap.size w ((w.alloc (.cells #[.slice A l.length c] 73)).alloc (.cells #[nilS] 73)) := hb0.alloc hb0.size _
  have HX1 : Hid (BoxH ((w.alloc (.cells #[.slice A l.length c] 73)).alloc (.cells #[nilS] 73)) w.heap.size (.slice A l.length c)) := Lib.hid ((BoxH.new w _).more ((Below.refl _ _).alloc (Nat.le_refl _) _))
  have HX2 : Hid (BoxH ((w.alloc (.cells #[.slice A l.length c] 73)).alloc (.cells #[nilS] 73)) (w.heap.size + 1) nilS) := Lib.hid (by
    have e : (w.alloc (.cells #[.slice A l.length c] 73)).heap.size = w.heap.size + 1 := by simp
    rw [← e]; exact BoxH.new _ _)
  have HB := Lib.hid hb1
  have HC := Lib.hid (l02Is_calls A c l w.heap.size _ HX1.out (hr.more hb1) hl hok)
  clear hb0 hb1 hr hl hok
  generalize hv : Value.slice A l.length c = v at *
  go_enter Tryz.func137, Tryz.ntmps137
  go_wp2_with fail
  change Calls Tryz.prog 171 _ ((w.alloc (.cells #[v] 73)).alloc (.cells #[nilS] 73)) _
  refine HC.out.mono ?_
  rintro e W1 ⟨rfl, n, rfl⟩
  have hb : Below ((w.alloc (.cells #[v] 73)).alloc (.cells #[nilS] 73)).heap.size ((w.alloc (.cells #[v] 73)).alloc (.cells #[nilS] 73)) (((w.alloc (.cells #[v] 73)).alloc (.cells #[nilS] 73)).drewN n) := pw_below_drewN (Below.refl _ _) n
  have HY1 := Lib.hid (HX1.out.more hb)
  have HY2 := Lib.hid (HX2.out.more hb)
  have HD := Lib.hid (below_then HB.out HB.out.size hb)
  clear hb HX1 HX2 HB HC
  generalize (((w.alloc (.cells #[v] 73)).alloc (.cells #[nilS] 73)).drewN n) = W1 at *
  have q1 := HY1.out.at
  have q2 := HY2.out.at
  have f2 := HY2.out.thaw
  by_cases h24 : l.length ≤ 24
  · rw [decide_eq_true h24]
    have H24 := Lib.hid h24; clear h24
    subst hv
    go_wp2_with fail
    refine bodyPost_ret (v := .tuple #[.agg #[.slice A l.length c], .bool true]) (ret_heap Tryz.results137 (HY2.out.put (.slice A l.length c)) rfl rfl) rfl ⟨rfl, HD.out.setCell (p := ⟨w.heap.size + 1, 0, none⟩) (Nat.le_succ _) _⟩
  · rw [decide_eq_false h24]
    have H24 := Lib.hid h24; clear h24
    go_wp2_with fail
    refine bodyPost_ret (v := .tuple #[.agg #[nilS], .bool false]) (ret_heap Tryz.results137 (HY2.out.put nilS) rfl rfl) rfl ⟨rfl, HD.out.setCell (p := ⟨w.heap.size + 1, 0, none⟩) (Nat.le_succ _) _⟩

set_option maxHeartbeats 1000000 in
set_option maxRecDepth 100000 in
/-- The closure within ValidHeap. -/
theorem notValid_calls (g : G) (hg : g.ok = true) (w : World) : Calls Tryz.prog 173 #[.agg #[.complex .f32 g.a g.b, .complex .f32 g.c g.d, .float .f32 g.r, .float .f32 g.m, .float .f32 g.t, .float .f32 g.s, .bool g.h]] w fun e w' => e = .returned (.bool false) ∧ Below w.heap.size w w' := by
  have hb0 : Below w.heap.size w (w.alloc (.cells g.cells 31)) := (Below.refl w.heap.size w).alloc (Nat.le_refl _) _
  have hx : Boxed (w.alloc (.cells g.cells 31)) w.heap.size g := heap_alloc_new w _
  have hc := fun W => validGrain_calls g W
  rw [hg] at hc
  have HC := Lib.hid hc; clear hc
  have HB := Lib.hid hb0; clear hb0
  obtain ⟨q0, q1, q2, q3, q4, q5, q6⟩ := hx.at
  unfold G.cells at q0 q1 q2 q3 q4 q5 q6
  clear hx hg
  go_enter Tryz.func173, Tryz.ntmps173
  go_wp2_with fail
  change Calls Tryz.prog 60 #[.agg g.cells] (w.alloc (.cells g.cells 31)) _
  refine (HC.out _).mono ?_
  rintro e W1 ⟨rfl, hb⟩
  have HB1 := Lib.hid (below_then HB.out HB.out.size hb); clear hb HB q0 q1 q2 q3 q4 q5 q6
  go_wp2
  go_ret
  exact ⟨rfl, HB1.out⟩

set_option maxHeartbeats 1000000 in
set_option maxRecDepth 100000 in
theorem indexG_calls (A : Option Addr) (c : Nat) (l : List G) (w : World) (hr : GRow w A l) (hl : l.length ≤ 24) (hok : ∀ x ∈ l, x.ok = true) :
    Calls Tryz.prog 199 #[.slice A l.length c, .func (.func 173) #[] #[]] w fun e w' => e = .returned (.int .i64 (-1)) ∧ Below w.heap.size w w' := by
  have HR : Hid (∀ W, Below w.heap.size w W → GRow W A l) := Lib.hid (fun W h => hr.more h)
  have HK := Lib.hid hok
  clear hr hok
  go_enter Tryz.func199, Tryz.ntmps199
  go_wp2_with fail
  go_loopw [8] (fun i wr => ∃ (k : Nat), i = .int .i64 k ∧ k ≤ l.length ∧ Aside0 (Below w.heap.size w wr)) (fun i _ => l.length - (intOf i).toNat)
  case atStart => exact ⟨0, rfl, by omega, ⟨Below.refl _ _⟩⟩
  case round =>
    obtain ⟨k, rfl, hk, HW⟩ := hrel
    by_cases hlt : k < l.length
    · have d1 : decide ((k : Int) < (l.length : Int)) = true := decide_eq_true (by omega)
      have d1' : decide (k < l.length) = true := decide_eq_true hlt
      obtain ⟨g, rfl, hat⟩ := (HR.out wr HW.out).get k hlt
      have HC := Lib.hid (fun W => notValid_calls l[k] (HK.out _ (List.getElem_mem hlt)) W)
      obtain ⟨q0, q1, q2, q3, q4, q5, q6⟩ := hat
      generalize l[k] = x at *
      go_wp2_with fail
      refine (HC.out _).mono ?_
      rintro e W1 ⟨rfl, hb⟩
      have HW2 : Aside0 (Below w.heap.size w W1) := ⟨below_then HW.out HW.out.size hb⟩
      clear hb q0 q1 q2 q3 q4 q5 q6 HC
      go_wp2
      go_roundw
      case rel => exact ⟨k + 1, by go_num, by omega, HW2⟩
      case measure => simp [intOf]; omega
    · have d1 : decide ((k : Int) < (l.length : Int)) = false := decide_eq_false (by omega)
      have d1' : decide (k < l.length) = false := decide_eq_false hlt
      go_wp2_with fail
      go_ret
      exact ⟨rfl, HW.out⟩
set_option maxHeartbeats 1000000 in
theorem containsG_calls (A : Option Addr) (c : Nat) (l : List G) (w : World) (hr : GRow w A l) (hl : l.length ≤ 24) (hok : ∀ x ∈ l, x.ok = true) :
    Calls Tryz.prog 172 #[.slice A l.length c, .func (.func 173) #[] #[]] w fun e w' => e = .returned (.bool false) ∧ Below w.heap.size w w' := by
  have HC := Lib.hid (indexG_calls A c l w hr hl hok); clear hr hok hl
  go_enter Tryz.func172, Tryz.ntmps172
  go_wp2_with fail
  refine HC.out.mono ?_
  rintro e w1 ⟨rfl, hw⟩
  have HW := Lib.hid hw; clear hw
  go_wp2
  go_ret
  exact ⟨rfl, HW.out⟩
set_option maxHeartbeats 1000000 in
set_option maxRecDepth 100000 in
theorem validHeap_calls (A : Option Addr) (c : Nat) (l : List G) (w : World) (hr : GRow w A l) (hl : l.length ≤ 24) (hok : ∀ x ∈ l, x.ok = true) :
    Calls Tryz.prog 138 #[.agg #[.slice A l.length c]] w fun e w' => e = .returned (.bool true) ∧ Below w.heap.size w w' := by
  have hb0 : Below w.heap.size w (w.alloc (.cells #[.slice A l.length c] 73)) := (Below.refl w.heap.size w).alloc (Nat.le_refl _) _
  have q0 := (BoxH.new w (.slice A l.length c)).at
  have HB := Lib.hid hb0
  have HC := Lib.hid (containsG_calls A c l _ (hr.more hb0) hl hok)
  have d2 : decide ((l.length : Int) ≤ 24) = true := decide_eq_true (by omega)
  have d2' : decide (l.length ≤ 24) = true := decide_eq_true hl
  clear hb0 hr hok
  go_enter Tryz.func138, Tryz.ntmps138
  go_wp2_with fail
  refine HC.out.mono ?_
  rintro e W1 ⟨rfl, hb⟩
  have HB1 := Lib.hid (below_then HB.out HB.out.size hb); clear hb HB HC q0
  go_wp2
  go_ret
  exact ⟨rfl, HB1.out⟩
set_option maxHeartbeats 1000000 in
set_option maxRecDepth 100000 in
theorem checked_calls (A : Option Addr) (c : Nat) (l : List G) (w : World) (hr : GRow w A l) (hl : l.length ≤ 24) (hok : ∀ x ∈ l, x.ok = true) :
    Calls Tryz.prog 103 #[.agg #[.slice A l.length c]] w fun e w' => e = .returned (.tuple #[.agg #[.slice A l.length c], .bool true]) ∧ Below w.heap.size w w' := by
  have hb0 : Below w.heap.size w (w.alloc (.cells #[.slice A l.length c] 73)) := (Below.refl w.heap.size w).alloc (Nat.le_refl _) _
  have hb1 : Below w.heap.size w ((w.alloc (.cells #[.slice A l.length c] 73)).alloc (.cells #[nilS] 73)) := hb0.alloc hb0.size _
  have HX1 : Hid (BoxH ((w.alloc (.cells #[.slice A l.length c] 73)).alloc (.cells #[nilS] 73)) w.heap.size (.slice A l.length c)) := Lib.hid ((BoxH.new w _).more ((Below.refl _ _).alloc (Nat.le_refl _) _))
  have HX2 : Hid (BoxH ((w.alloc (.cells #[.slice A l.length c] 73)).alloc (.cells #[nilS] 73)) (w.heap.size + 1) nilS) := Lib.hid (by
    have e : (w.alloc (.cells #[.slice A l.length c] 73)).heap.size = w.heap.size + 1 := by simp
    rw [← e]; exact BoxH.new _ _)
  have HB := Lib.hid hb1
  have HC := Lib.hid (validHeap_calls A c l _ (hr.more hb1) hl hok)
  have q1 := HX1.out.at
  clear hb0 hb1 hr hl hok
  go_enter Tryz.func103, Tryz.ntmps103
  go_wp2_with fail
  change Calls Tryz.prog 138 _ ((w.alloc (.cells #[.slice A l.length c] 73)).alloc (.cells #[nilS] 73)) _
  refine HC.out.mono ?_
  rintro e W1 ⟨rfl, hb⟩
  have HY1 := Lib.hid (HX1.out.more hb)
  have HY2 := Lib.hid (HX2.out.more hb)
  have HD := Lib.hid (below_then HB.out HB.out.size hb)
  clear hb HX1 HX2 HB HC q1
  have q1 := HY1.out.at
  have q2 := HY2.out.at
  have f2 := HY2.out.thaw
  go_wp2_with fail
  refine bodyPost_ret (v := .tuple #[.agg #[.slice A l.length c], .bool true]) (ret_heap Tryz.results103 (HY2.out.put (.slice A l.length c)) rfl rfl) rfl ⟨rfl, HD.out.setCell (p := ⟨w.heap.size + 1, 0, none⟩) (Nat.le_succ _) _⟩
/-- What both readers of heaps return. -/
def GivesH (r : Option (List G)) (w : World) (e : Ending) (W : World) : Prop := ∃ v, e = .returned (.tuple #[.agg #[v], .bool r.isSome]) ∧ Out kG 31 w v (r.getD []) W
theorem readAll_ok : ∀ (P : List (List UInt8)) (l : List G), Plain.readAll readG P = some l → ∀ x ∈ l, x.ok = true
  | [], l, h, x, hx => by simp [Plain.readAll] at h; subst h; cases hx
  | p :: r, l, h, x, hx => by
    simp only [Plain.readAll] at h
    cases hp : readG p with
    | none => rw [hp] at h; cases h
    | some y =>
      rw [hp] at h
      simp only at h
      cases hq : Plain.readAll readG r with
      | none => rw [hq] at h; cases h
      | some ys =>
        rw [hq] at h
        injection h with h
        subst h
        rcases List.mem_cons.1 hx with rfl | hx
        · unfold readG at hp
          split at hp
          · split at hp
            · split at hp
              · split at hp
                · split at hp
                  · rename_i hok
                    injection hp with hp
                    rw [← hp]; exact hok
                  · cases hp
                · cases hp
              · cases hp
            · cases hp
          · cases hp
        · exact readAll_ok r ys hq x hx
theorem readH_ok {t : List UInt8} {l : List G} (h : readH t = some l) : l.length ≤ 24 ∧ ∀ x ∈ l, x.ok = true := by
  unfold readH at h
  split at h
  · injection h with h; subst h; simp
  · split at h
    · cases h
    · exact ⟨by rw [Plain.readAll_length _ _ _ h]; omega, readAll_ok _ _ h⟩

set_option maxHeartbeats 1000000 in
set_option maxRecDepth 100000 in
theorem implReadHeap_calls (t : ByteArray) (ht : t.size ≤ 1048576) (w : World) (hv : Vars w) : Calls Tryz.prog 50 #[.string t] w fun e w' => GivesH (readH t.data.toList) w e w' := by
  have HV := Lib.hid hv; clear hv
  have HC := Lib.hid (fun W hW => listG_calls t ht W hW)
  have hb0 : Below w.heap.size w (w.alloc (.cells #[nilS] 73)) := (Below.refl w.heap.size w).alloc (Nat.le_refl _) _
  have HX0 := Lib.hid (BoxH.new w nilS)
  have HB0 := Lib.hid hb0; clear hb0
  have hrk := fun l h => @readH_ok t.data.toList l h
  generalize readH t.data.toList = r at *
  go_enter Tryz.func50, Tryz.ntmps50
  go_wp2_with fail
  change Calls Tryz.prog 102 _ (w.alloc (.cells #[nilS] 73)) _
  refine (HC.out _ (HV.out.step HB0.out)).mono ?_
  rintro e W1 ⟨v, rfl, ho⟩
  have HO := Lib.hid (ho.lift HB0.out)
  have HX1 := Lib.hid (HX0.out.more ho.bel)
  clear ho HX0 HC
  cases r with
  | none =>
    have q1 := HX1.out.at
    have f1 := HX1.out.thaw
    go_wp2_with fail
    refine bodyPost_ret (v := .tuple #[.agg #[nilS], .bool false]) (ret_heap Tryz.results50 (HX1.out.put nilS) rfl rfl) rfl ⟨nilS, rfl, Kd.R_nil _ _ _ _ _, HO.out.bel.setCell (p := ⟨w.heap.size, 0, none⟩) (Nat.le_refl _) _⟩
  | some l =>
    obtain ⟨h24, hok⟩ := hrk l rfl
    obtain ⟨A, c, rfl, hc, hg⟩ := rowG HO.out.row
    dsimp only [Option.getD_some, Option.isSome_some] at *
    have HC := Lib.hid (checked_calls A c l W1 hg h24 hok)
    clear hg hok hrk h24
    go_wp2_with fail
    refine HC.out.mono ?_
    rintro e W2 ⟨rfl, hb⟩
    have HO2 := Lib.hid (HO.out.more hb)
    have HX2 := Lib.hid (HX1.out.more hb)
    clear hb HO HX1 HC
    have q1 := HX2.out.at
    have f1 := HX2.out.thaw
    go_wp2_with fail
    refine bodyPost_ret (v := .tuple #[.agg #[.slice A l.length c], .bool true]) (ret_heap Tryz.results50 (HX2.out.put (.slice A l.length c)) rfl rfl) rfl ⟨.slice A l.length c, rfl, ?_, HO2.out.bel.setCell (p := ⟨w.heap.size, 0, none⟩) (Nat.le_refl _) _⟩
    exact Kd.R_set HO2.out.row HX2.out (by intro q hq; simp [kG] at hq; omega) 0 _
end Go.Proofs.YticfmlohkfoccaaGreatDoor
