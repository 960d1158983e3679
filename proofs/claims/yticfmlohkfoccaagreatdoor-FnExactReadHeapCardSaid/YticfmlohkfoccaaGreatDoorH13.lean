/- ReadGrain of the program and of the reference, walked: both return the grain that a text holds, for every text of at most 2^20 bytes. -/
import Derived.Test.YticfmlohkfoccaaGreatDoorH12b
import Derived.Deep.RegionHeld3
import Derived.BigRegion
import Derived.Laws.ResultCell
set_option linter.unusedVariables false
set_option linter.unusedSimpArgs false
namespace Go.Proofs.YticfmlohkfoccaaGreatDoor
open Go.RowKit Go.Proofs.YticfmlohkfoccaaGreatDoorW.PrintWords
open PFnExactReadGrain (spec_l01Cut.f spec_l01Cut.l0 spec_l01Cut.calls)

def G0 : G := ⟨0, 0, 0, 0, 0, 0, 0, 0, false⟩
def mkG (x y : Nat × Nat) (r m t s : Nat) (h : Bool) : G := ⟨x.1, x.2, y.1, y.2, r, m, t, s, h⟩
/-- The grain with a text. -/
def readG (t : List UInt8) : Option G := match Plain.cutAll 58 t with
  | [w0, w1, w2] => if w2 = freeT ∨ w2 = heldT then match Plain.readList readC w0 with
    | some [x, y] => match Plain.readList num8 w1 with
      | some [r, m, u, s] => if (mkG x y r m u s (decide (w2 = heldT))).ok then some (mkG x y r m u s (decide (w2 = heldT))) else none
      | _ => none
    | _ => none else none
  | _ => none

theorem len2 {α : Type} : ∀ {l : List α}, l.length = 2 → ∃ a b, l = [a, b]
  | [a, b], _ => ⟨a, b, rfl⟩
  | [], h => by simp at h
  | [_], h => by simp at h
  | _ :: _ :: _ :: _, h => by simp at h
theorem len3 {α : Type} : ∀ {l : List α}, l.length = 3 → ∃ a b c, l = [a, b, c]
  | [a, b, c], _ => ⟨a, b, c, rfl⟩
  | [], h => by simp at h
  | [_], h => by simp at h
  | [_, _], h => by simp at h
  | _ :: _ :: _ :: _ :: _, h => by simp at h
theorem len4 {α : Type} : ∀ {l : List α}, l.length = 4 → ∃ a b c d, l = [a, b, c, d]
  | [a, b, c, d], _ => ⟨a, b, c, d, rfl⟩
  | [], h => by simp at h
  | [_], h => by simp at h
  | [_, _], h => by simp at h
  | [_, _, _], h => by simp at h
  | _ :: _ :: _ :: _ :: _ :: _, h => by simp at h
/-! ### Grains that are stored and returned -/
def putG (W : World) (p : Nat) (g : G) : World := ((((((W.setCell ⟨p, 0, none⟩ (.complex .f32 g.a g.b)).setCell ⟨p, 1, none⟩ (.complex .f32 g.c g.d)).setCell ⟨p, 2, none⟩ (.float .f32 g.r)).setCell ⟨p, 3, none⟩ (.float .f32 g.m)).setCell ⟨p, 4, none⟩ (.float .f32 g.t)).setCell ⟨p, 5, none⟩ (.float .f32 g.s)).setCell ⟨p, 6, none⟩ (.bool g.h)
theorem cells_put (g g' : G) : (((((((g.cells.setIfInBounds 0 (.complex .f32 g'.a g'.b)).setIfInBounds 1 (.complex .f32 g'.c g'.d)).setIfInBounds 2 (.float .f32 g'.r)).setIfInBounds 3 (.float .f32 g'.m)).setIfInBounds 4 (.float .f32 g'.t)).setIfInBounds 5 (.float .f32 g'.s)).setIfInBounds 6 (.bool g'.h)) = g'.cells := by
  simp [G.cells]
theorem Boxed.put {W : World} {p : Nat} {g : G} (h : Boxed W p g) (g' : G) : Boxed (putG W p g') p g' := by
  unfold Boxed
  rw [← cells_put g g']
  exact heap_setCell (i := 6) _ (heap_setCell (i := 5) _ (heap_setCell (i := 4) _ (heap_setCell (i := 3) _ (heap_setCell (i := 2) _ (heap_setCell (i := 1) _ (heap_setCell (i := 0) _ h))))))
theorem below_put {B : Nat} {w W : World} (hb : Below B w W) {p : Nat} (hp : B ≤ p) (g : G) : Below B w (putG W p g) :=
  ((((((hb.setCell (p := ⟨p, 0, none⟩) hp _).setCell (p := ⟨p, 1, none⟩) hp _).setCell (p := ⟨p, 2, none⟩) hp _).setCell (p := ⟨p, 3, none⟩) hp _).setCell (p := ⟨p, 4, none⟩) hp _).setCell (p := ⟨p, 5, none⟩) hp _).setCell (p := ⟨p, 6, none⟩) hp _
theorem Boxed.thaw {W : World} {p : Nat} {g : G} (h : Boxed W p g) (j : Nat) : W.frozen? ⟨p, j, none⟩ = false := Lib.frozen_of_heap h j
theorem load_grain {W : World} {p : Nat} {g : G} (h : Boxed W p g) : (loadVar 31 ⟨p, 0, none⟩).run Tryz.prog W = .ok (.agg g.cells) W := by
  obtain ⟨q0, q1, q2, q3, q4, q5, q6⟩ := h.at
  unfold G.cells
  simp [go_sem, loadVar, *]
theorem ret_grain {fn : Func} (h : fn.results = #[.cell 2 31, .tmp 3]) {W : World} {p : Nat} {g : G} (hx : Boxed W p g) {tmps : Array Value} (h2 : tmps.getD 2 undef = .pointer (some ⟨p, 0, none⟩)) {b : Bool} (h3 : tmps.getD 3 undef = .bool b) :
    (results fn tmps).run Tryz.prog W = .ok (.tuple #[.agg g.cells, .bool b]) W := by
  rw [results_cell_tmp h, h2, h3]
  rw [show (asAddr (Value.pointer (some ⟨p, 0, none⟩))).run Tryz.prog W = .ok ⟨p, 0, none⟩ W from rfl]
  simp only [Result.andThen]
  rw [load_grain hx]
theorem store_c (W : World) (a : Addr) (x y : Nat) (v : Value) (h : W.cell? a = some v) (hf : W.frozen? a = false) : (store a (.complex .f32 x y)).run Tryz.prog W = .ok () (W.setCell a (.complex .f32 x y)) := by
  rw [run_store Tryz.prog W a _ _ rfl, h]; simp [hf]
theorem store_f (W : World) (a : Addr) (x : Nat) (v : Value) (h : W.cell? a = some v) (hf : W.frozen? a = false) : (store a (.float .f32 x)).run Tryz.prog W = .ok () (W.setCell a (.float .f32 x)) := by
  rw [run_store Tryz.prog W a _ _ rfl, h]; simp [hf]
theorem store_cm (W : World) (a : Addr) (x y : Nat) : (store a (.complex .f32 x y)).run Tryz.prog W = match W.cell? a with
      | some _ => if W.frozen? a then .halt (.unsupported (.unsafePointer "a write to bytes that a string shares")) W else .ok () (W.setCell a (.complex .f32 x y))
      | none => match W.farStore Tryz.prog a (.complex .f32 x y) (Mode.plain == .atomic) with
        | .ok (w', _) => .ok () w'
        | .error h => .halt h W := run_store Tryz.prog W a _ _ rfl
theorem store_fm (W : World) (a : Addr) (x : Nat) : (store a (.float .f32 x)).run Tryz.prog W = match W.cell? a with
      | some _ => if W.frozen? a then .halt (.unsupported (.unsafePointer "a write to bytes that a string shares")) W else .ok () (W.setCell a (.float .f32 x))
      | none => match W.farStore Tryz.prog a (.float .f32 x) (Mode.plain == .atomic) with
        | .ok (w', _) => .ok () w'
        | .error h => .halt h W := run_store Tryz.prog W a _ _ rfl
theorem pieces_of (t : ByteArray) (m : UInt8) : (Lib.splitB ⟨#[m]⟩ 0 (Lib.countB t ⟨#[m]⟩) t).map (·.data.toList) = Plain.cutAll m t.data.toList ∧ (Plain.cutAll m t.data.toList).length = Lib.countB t ⟨#[m]⟩ + 1 := by
  have hc : (Plain.cutAll m t.data.toList).length = Lib.countB t ⟨#[m]⟩ + 1 := by
    rw [Plain.cutAll_count, ← Lib.count_one]
  refine ⟨?_, hc⟩
  rw [Lib.splitB_data]
  exact Plain.splitK_cutAll m _ _ (by omega)

theorem kC_cell {W : World} {g n c : Nat} {xs : List (Nat × Nat)} (h : Kd.C kC W (some ⟨g, 0, none⟩) n xs) (j : Nat) (hj : j < n) (x : Nat × Nat) (hx : xs[j]? = some x) : W.cell? ⟨g, j, none⟩ = some (.complex .f32 x.1 x.2) := by
  obtain ⟨ad, cs, e, hcl, hK, hc⟩ := Kd.C_get h (0, 0) (j : Int) (by omega) (by omega)
  injection e with e
  subst e
  have hk : cs = [.complex .f32 x.1 x.2] := by
    have : xs.getD (j : Int).toNat (0, 0) = x := by rw [Int.toNat_natCast, List.getD_eq_getElem?_getD, hx]; rfl
    rw [this] at hK
    exact hK
  have := hc 0 (.complex .f32 x.1 x.2) (by rw [hk]; rfl)
  rw [Lib.add_plain, show kC.sz = 1 from rfl, Int.toNat_natCast] at this
  simpa using this
theorem kF_cell {W : World} {g n c : Nat} {xs : List Nat} (h : Kd.C kF W (some ⟨g, 0, none⟩) n xs) (j : Nat) (hj : j < n) (x : Nat) (hx : xs[j]? = some x) : W.cell? ⟨g, j, none⟩ = some (.float .f32 x) := by
  obtain ⟨ad, cs, e, hcl, hK, hc⟩ := Kd.C_get h 0 (j : Int) (by omega) (by omega)
  injection e with e
  subst e
  have hk : cs = [.float .f32 x] := by
    have : xs.getD (j : Int).toNat 0 = x := by rw [Int.toNat_natCast, List.getD_eq_getElem?_getD, hx]; rfl
    rw [this] at hK
    exact hK
  have := hc 0 (.float .f32 x) (by rw [hk]; rfl)
  rw [Lib.add_plain, show kF.sz = 1 from rfl, Int.toNat_natCast] at this
  simpa using this

set_option maxHeartbeats 1000000 in
set_option maxRecDepth 100000 in
theorem implReadGrain_calls (t : ByteArray) (ht : t.size ≤ 1048576) (w : World) (hv : Vars w) : Calls Tryz.prog 14 #[.string t] w fun e w' => e = .returned (.tuple #[.agg ((readG t.data.toList).getD G0).cells, .bool (readG t.data.toList).isSome]) ∧ Below w.heap.size w w' := by
  have HV := Lib.hid hv; clear hv
  have HS := Lib.hid (fun W m hm => Tryz.strings_Split t ⟨#[58]⟩ m W (by omega) hm (by decide))
  obtain ⟨hp1, hp2⟩ := pieces_of t 58
  have HB0 : Hid (Below w.heap.size w (w.alloc (.cells G0.cells 31))) := Lib.hid ((Below.refl w.heap.size w).alloc (Nat.le_refl _) _)
  have HX0 : Hid (Boxed (w.alloc (.cells G0.cells 31)) w.heap.size G0) := Lib.hid (heap_alloc_new w _)
  have HR : Hid (readG t.data.toList = match Plain.cutAll 58 t.data.toList with
    | [w0, w1, w2] => if w2 = freeT ∨ w2 = heldT then match Plain.readList readC w0 with
      | some [x, y] => match Plain.readList num8 w1 with
        | some [r, m, u, s] => if (mkG x y r m u s (decide (w2 = heldT))).ok then some (mkG x y r m u s (decide (w2 = heldT))) else none
        | _ => none
      | _ => none else none
    | _ => none) := Lib.hid rfl
  have hpc := cutAll_piece 58 t.data.toList
  have HJ := Lib.hid (Plain.cutAll_join 58 t.data.toList)
  generalize Plain.cutAll 58 t.data.toList = P at *
  rw [← hp2] at HS
  generalize Lib.splitB ⟨#[58]⟩ 0 (Lib.countB t ⟨#[58]⟩) t = L at *
  clear hp2
  go_enter Tryz.func14, Tryz.ntmps14
  go_wp2_with fail
  change Calls Tryz.prog 59 _ (w.alloc (.cells G0.cells 31)) _
  obtain ⟨mm, hmm⟩ := (HV.out.step HB0.out).1
  refine (HS.out _ mm hmm).mono ?_
  rintro e w1 ⟨rfl, rfl⟩
  have HB1 : Hid (Below w.heap.size w ((w.alloc (.cells G0.cells 31)).alloc (.cells (L.map Value.string).toArray 9))) := Lib.hid (HB0.out.alloc HB0.out.size _)
  have HX1 : Hid (Boxed ((w.alloc (.cells G0.cells 31)).alloc (.cells (L.map Value.string).toArray 9)) w.heap.size G0) := Lib.hid (HX0.out.more ((Below.refl _ _).alloc (Nat.le_refl _) _))
  have HP : Hid (∀ j (h : j < L.length), ((w.alloc (.cells G0.cells 31)).alloc (.cells (L.map Value.string).toArray 9)).cell? ⟨(w.alloc (.cells G0.cells 31)).heap.size, j, none⟩ = some (.string L[j])) := Lib.hid (fun j h => by
    rw [Lib.cell_of_heap (heap_alloc_new _ _)]
    simp [h])
  generalize (w.alloc (.cells G0.cells 31)).alloc (.cells (L.map Value.string).toArray 9) = W1 at *
  generalize (w.alloc (.cells G0.cells 31)).heap.size = pb at *
  clear HB0 HX0 hmm HS
  by_cases hn : P.length = 3
  · obtain ⟨p1, p2, p3, rfl⟩ := len3 hn
    obtain ⟨b1, b2, b3, rfl⟩ := len3 (show L.length = 3 by have := congrArg List.length hp1; simpa using this)
    simp only [List.map_cons, List.map_nil, List.cons.injEq, and_true] at hp1
    obtain ⟨e1, e2, e3⟩ := hp1
    have z1 : b1.size ≤ 1048576 := by
      have := hpc p1 (by simp); rw [← e1] at this; simp at this; omega
    have z2 : b2.size ≤ 1048576 := by
      have := hpc p2 (by simp); rw [← e2] at this; simp at this; omega
    have HC1 := Lib.hid (fun W hW => ReadComplex_calls b1 z1 W hW)
    have HC2 := Lib.hid (fun W hW => ReadNumbers_calls b2 z2 W hW)
    rw [e1] at HC1
    rw [e2] at HC2
    have k0 := HP.out 0 (by simp)
    have k1 := HP.out 1 (by simp)
    have k2 := HP.out 2 (by simp)
    have E3 := Lib.hid e3
    clear hpc hn e1 e2 e3 z1 z2 HP
    dsimp only [List.getElem_cons_zero, List.getElem_cons_succ] at k0 k1 k2
    simp only [List.length_cons, List.length_nil]
    go_wp2_with fail
    refine (HC1.out _ (HV.out.step HB1.out)).mono ?_
    rintro e W2 ⟨v1, rfl, ho1⟩
    have HO1 := Lib.hid ho1; clear ho1
    have HX2 := Lib.hid (HX1.out.more HO1.out.bel)
    have HB2 := Lib.hid (below_then HB1.out HB1.out.size HO1.out.bel)
    replace k1 := pw_cell_below HO1.out.bel k1
    replace k2 := pw_cell_below HO1.out.bel k2
    clear HX1 HB1 HC1 k0
    go_wp2_with fail
    refine (HC2.out _ (HV.out.step HB2.out)).mono ?_
    rintro e W3 ⟨v2, rfl, ho2⟩
    have HO2 := Lib.hid ho2; clear ho2
    have HX3 := Lib.hid (HX2.out.more HO2.out.bel)
    have HB3 := Lib.hid (below_then HB2.out HB2.out.size HO2.out.bel)
    replace HO1 := Lib.hid (HO1.out.more HO2.out.bel)
    replace k2 := pw_cell_below HO2.out.bel k2
    clear HX2 HB2 HC2 k1
    simp only [Hid] at HR
    obtain ⟨c, hc⟩ : ∃ c, Plain.readList readC p1 = c := ⟨_, rfl⟩
    obtain ⟨n, hn⟩ : ∃ n, Plain.readList num8 p2 = n := ⟨_, rfl⟩
    rw [hc] at HO1 HR
    rw [hn] at HO2 HR
    rw [hc, hn]
    have HC := Lib.hid hc
    have Hn := Lib.hid hn
    clear hc hn
    obtain ⟨A1, c1, rfl, hl1, hC1⟩ := HO1.out.reads
    obtain ⟨A2, c2, rfl, hl2, hC2⟩ := HO2.out.reads
    have HC1 := Lib.hid hC1; clear hC1
    have HC2 := Lib.hid hC2; clear hC2
    cases c with
    | none =>
      have HN : Hid (readG t.data.toList = none) := Lib.hid (by rw [HR]; simp)
      clear HR
      obtain ⟨q0, q1, q2, q3, q4, q5, q6⟩ := HX3.out.at
      have f0 := HX3.out.thaw 0; have f1 := HX3.out.thaw 1; have f2 := HX3.out.thaw 2; have f3 := HX3.out.thaw 3; have f4 := HX3.out.thaw 4; have f5 := HX3.out.thaw 5; have f6 := HX3.out.thaw 6
      have r1 := store_cm
      have r2 := store_fm
      go_wp2_with fail
      refine bodyPost_ret (v := .tuple #[.agg G0.cells, .bool false]) (ret_grain Tryz.results14 (HX3.out.put G0) rfl rfl) rfl ⟨by rw [HN.out]; rfl, below_put HB3.out (Nat.le_refl _) G0⟩
    | some c =>
      cases n with
      | none =>
        have HN : Hid (readG t.data.toList = none) := Lib.hid (by rw [HR]; rcases c with _ | ⟨x, _ | ⟨y, _ | ⟨z, r⟩⟩⟩ <;> simp)
        clear HR
        obtain ⟨q0, q1, q2, q3, q4, q5, q6⟩ := HX3.out.at
        have f0 := HX3.out.thaw 0; have f1 := HX3.out.thaw 1; have f2 := HX3.out.thaw 2; have f3 := HX3.out.thaw 3; have f4 := HX3.out.thaw 4; have f5 := HX3.out.thaw 5; have f6 := HX3.out.thaw 6
        have r1 := store_cm
        have r2 := store_fm
        go_wp2_with fail
        refine bodyPost_ret (v := .tuple #[.agg G0.cells, .bool false]) (ret_grain Tryz.results14 (HX3.out.put G0) rfl rfl) rfl ⟨by rw [HN.out]; rfl, below_put HB3.out (Nat.le_refl _) G0⟩
      | some n =>
        dsimp only [Option.getD_some, Option.isSome_some] at HC1 HC2 hl1 hl2 ⊢
        by_cases h2 : c.length = 2
        · by_cases h4 : n.length = 4
          · obtain ⟨x, y, rfl⟩ := len2 h2
            obtain ⟨r, m, u, v, rfl⟩ := len4 h4
            obtain ⟨g1, cap1, e1, _, hg1, _⟩ := Kd.R_form HO1.out.row (by simp)
            obtain ⟨g2, cap2, e2, _, hg2, _⟩ := Kd.R_form HO2.out.row (by simp)
            injection e1 with e1 _ e1c
            injection e2 with e2 _ e2c
            subst e1; subst e2
            have y0 := kC_cell (c := 0) HC1.out 0 (by simp) x rfl
            have y1 := kC_cell (c := 0) HC1.out 1 (by simp) y rfl
            have y2 := kF_cell (c := 0) HC2.out 0 (by simp) r rfl
            have y3 := kF_cell (c := 0) HC2.out 1 (by simp) m rfl
            have y4 := kF_cell (c := 0) HC2.out 2 (by simp) u rfl
            have y5 := kF_cell (c := 0) HC2.out 3 (by simp) v rfl
            have z0 : W3.drew.cell? ⟨g1, 0, none⟩ = some (.complex .f32 x.1 x.2) := y0
            have z1 : W3.drew.cell? ⟨g1, 1, none⟩ = some (.complex .f32 y.1 y.2) := y1
            have z2 : W3.drew.cell? ⟨g2, 0, none⟩ = some (.float .f32 r) := y2
            have z3 : W3.drew.cell? ⟨g2, 1, none⟩ = some (.float .f32 m) := y3
            have z4 : W3.drew.cell? ⟨g2, 2, none⟩ = some (.float .f32 u) := y4
            have z5 : W3.drew.cell? ⟨g2, 3, none⟩ = some (.float .f32 v) := y5
            have z6 : W3.drew.cell? ⟨pb, 2, none⟩ = some (.string b3) := k2
            have hb3 : (b3.toList == [104, 101, 108, 100]) = decide (p3 = heldT) := by
              rw [ByteArray.toList_eq, E3.out, Bool.eq_iff_iff, beq_iff_eq, decide_eq_true_iff]; exact Iff.rfl
            have l1 : g1 ≠ W3.heap.size := Nat.ne_of_lt (cell_lt y0)
            have l2 : g2 ≠ W3.heap.size := Nat.ne_of_lt (cell_lt y2)
            have l3 : pb ≠ W3.heap.size := Nat.ne_of_lt (cell_lt k2)
            have hba : Below W3.heap.size W3 (W3.alloc (.cells G0.cells 31)).drew := ((Below.refl W3.heap.size W3).alloc (Nat.le_refl _) _).drew
            have hxa : Boxed (W3.alloc (.cells G0.cells 31)).drew W3.heap.size G0 := heap_alloc_new W3 _
            have HXa := Lib.hid hxa
            have HBa := Lib.hid (below_then HB3.out HB3.out.size hba)
            have a0 := pw_cell_below hba y0
            have a1 := pw_cell_below hba y1
            have a2 := pw_cell_below hba y2
            have a3 := pw_cell_below hba y3
            have a4 := pw_cell_below hba y4
            have a5 := pw_cell_below hba y5
            have a6 := pw_cell_below hba k2
            obtain ⟨q0, q1, q2, q3, q4, q5, q6⟩ := hxa.at
            have f0 := hxa.thaw 0; have f1 := hxa.thaw 1; have f2 := hxa.thaw 2; have f3 := hxa.thaw 3; have f4 := hxa.thaw 4; have f5 := hxa.thaw 5; have f6 := hxa.thaw 6
            have r1 := store_cm
            have r2 := store_fm
            clear HC1 HC2 HO1 HO2 hba hxa hg1 hg2 hl1 hl2
            have hbf : Below W3.heap.size W3 (W3.alloc (.cells (mkG x y r m u v (decide (p3 = heldT))).cells 31)).drew := ((Below.refl W3.heap.size W3).alloc (Nat.le_refl _) _).drew
            have HXf := Lib.hid (show Boxed (W3.alloc (.cells (mkG x y r m u v (decide (p3 = heldT))).cells 31)).drew W3.heap.size (mkG x y r m u v (decide (p3 = heldT))) from heap_alloc_new W3 _)
            have c0 := pw_cell_below hbf y0
            have c1 := pw_cell_below hbf y1
            have c2 := pw_cell_below hbf y2
            have c3 := pw_cell_below hbf y3
            have c4 := pw_cell_below hbf y4
            have c5 := pw_cell_below hbf y5
            have c6 := pw_cell_below hbf k2
            have HBf := Lib.hid hbf; clear hbf
            unfold mkG G.cells at c0 c1 c2 c3 c4 c5 c6
            have HRh := Lib.hid HR; clear HR
            have K2 := Lib.hid k2; clear k2
            have Y0 := Lib.hid y0; clear y0
            have Y1 := Lib.hid y1; clear y1
            have Y2 := Lib.hid y2; clear y2
            have Y3 := Lib.hid y3; clear y3
            have Y4 := Lib.hid y4; clear y4
            have Y5 := Lib.hid y5; clear y5
            clear h2 h4 mm
            unfold G.cells G0 at a0 a1 a2 a3 a4 a5 a6 q0 q1 q2 q3 q4 q5 q6 f0 f1 f2 f3 f4 f5 f6
            go_wp2_with fail
            go_region_held3 (fun W => W.cell? ⟨g1, 0, none⟩ = some (.complex .f32 x.1 x.2) ∧ W.cell? ⟨g1, 1, none⟩ = some (.complex .f32 y.1 y.2) ∧ W.cell? ⟨g2, 0, none⟩ = some (.float .f32 r) ∧ W.cell? ⟨g2, 1, none⟩ = some (.float .f32 m) ∧ W.cell? ⟨g2, 2, none⟩ = some (.float .f32 u) ∧ W.cell? ⟨g2, 3, none⟩ = some (.float .f32 v) ∧ W.cell? ⟨pb, 2, none⟩ = some (.string b3)) (first | exact ⟨z0, z1, z2, z3, z4, z5, z6⟩ | exact ⟨a0, a1, a2, a3, a4, a5, a6⟩ | exact ⟨c0, c1, c2, c3, c4, c5, c6⟩ | go_keep) (first | fail)
            have HX4 : Hid (Boxed (W3.alloc (.cells (mkG x y r m u v (decide (p3 = heldT))).cells 31)).drew w.heap.size G0) := Lib.hid (HX3.out.more HBf.out)
            have HB4 : Hid (Below w.heap.size w (W3.alloc (.cells (mkG x y r m u v (decide (p3 = heldT))).cells 31)).drew) := Lib.hid (below_then HB3.out HB3.out.size HBf.out)
            clear a0 a1 a2 a3 a4 a5 a6 c0 c1 c2 c3 c4 c5 c6 z0 z1 z2 z3 z4 z5 z6 q0 q1 q2 q3 q4 q5 q6 f0 f1 f2 f3 f4 f5 f6 l1 l2 l3 HXa HBa HBf HX3 HB3
            change Exit.then _ _ _ _ (W3.alloc (.cells (mkG x y r m u v (decide (p3 = heldT))).cells 31)).drew
            generalize (W3.alloc (.cells (mkG x y r m u v (decide (p3 = heldT))).cells 31)).drew = W4 at *
            generalize W3.heap.size = pn at *
            have HVd := Lib.hid (fun W => validGrain_calls (mkG x y r m u v (decide (p3 = heldT))) W)
            obtain ⟨hs1, ht1⟩ := placesOf HC.out
            obtain ⟨hs2, ht2⟩ := numbersOf Hn.out
            have HSm : Hid (mkG x y r m u v (decide (p3 = heldT))).small := Lib.hid ⟨⟨hs1.1, hs1.2.1, hs1.2.2.1, hs1.2.2.2⟩, hs2.1, hs2.2.1, hs2.2.2.1, hs2.2.2.2⟩
            have HTx : Hid ((mkG x y r m u v (decide (p3 = heldT))).text = p1 ++ [58] ++ p2 ++ [58] ++ (if p3 = heldT then heldT else freeT)) := Lib.hid (by
              unfold G.text G.places G.numbers mkG
              simp only
              rw [ht1, ht2]
              by_cases h : p3 = heldT <;> simp [h])
            have HRg : Hid (readG t.data.toList = if p3 = freeT ∨ p3 = heldT then (if (mkG x y r m u v (decide (p3 = heldT))).ok then some (mkG x y r m u v (decide (p3 = heldT))) else none) else none) := Lib.hid (by rw [HRh.out])
            have HTq : Hid (t.data.toList = p1 ++ [58] ++ p2 ++ [58] ++ p3) := Lib.hid (by rw [← HJ.out]; simp [Lib.join_cons, Lib.joinTail])
            clear hs1 hs2 ht1 ht2 HC Hn HRh HJ Y0 Y1 Y2 Y3 Y4 Y5 K2 E3 hb3
            generalize hgf : mkG x y r m u v (decide (p3 = heldT)) = gf at *
            clear hgf
            have hcmp : ((mk gf.text).toList == t.toList) = decide (p3 = freeT ∨ p3 = heldT) := by
              rw [ByteArray.toList_eq, ByteArray.toList_eq, mk_data, HTx.out, HTq.out, Bool.eq_iff_iff, beq_iff_eq, decide_eq_true_iff, List.append_cancel_left_eq]
              by_cases h : p3 = heldT
              · simp [h]
              · rw [if_neg h]
                constructor
                · intro e; exact Or.inl e.symm
                · rintro (e | e)
                  · exact e.symm
                  · exact absurd e h
            have Hcmp := Lib.hid hcmp; clear hcmp
            obtain ⟨q0, q1, q2, q3, q4, q5, q6⟩ := HXf.out.at
            go_wp2_with fail
            change Calls Tryz.prog 60 #[.agg gf.cells] W4 _
            refine (HVd.out W4).mono ?_
            rintro e W5 ⟨rfl, hb⟩
            have HX5 := Lib.hid (HX4.out.more hb)
            have HF5 := Lib.hid (HXf.out.more hb)
            have HB5 := Lib.hid (below_then HB4.out HB4.out.size hb)
            clear hb HX4 HXf HB4 HVd q0 q1 q2 q3 q4 q5 q6
            cases hok : gf.ok with
            | false =>
              have HN : Hid (readG t.data.toList = none) := Lib.hid (by rw [HRg.out, hok]; split <;> rfl)
              clear HRg HTx HTq HSm
              obtain ⟨q0, q1, q2, q3, q4, q5, q6⟩ := HX5.out.at
              have f0 := HX5.out.thaw 0; have f1 := HX5.out.thaw 1; have f2 := HX5.out.thaw 2; have f3 := HX5.out.thaw 3; have f4 := HX5.out.thaw 4; have f5 := HX5.out.thaw 5; have f6 := HX5.out.thaw 6
              go_wp2_with fail
              refine bodyPost_ret (v := .tuple #[.agg G0.cells, .bool false]) (ret_grain Tryz.results14 (HX5.out.put G0) rfl rfl) rfl ⟨by rw [HN.out]; rfl, below_put HB5.out (Nat.le_refl _) G0⟩
            | true =>
              have HGt := Lib.hid (grainText_calls gf HSm.out W5 (HV.out.step HB5.out))
              obtain ⟨q0, q1, q2, q3, q4, q5, q6⟩ := HF5.out.at
              go_wp2_with fail
              change Calls Tryz.prog 61 #[.agg gf.cells] W5 _
              refine HGt.out.mono ?_
              rintro e W6 ⟨rfl, hb⟩
              have HX6 := Lib.hid (HX5.out.more hb)
              have HF6 := Lib.hid (HF5.out.more hb)
              have HB6 := Lib.hid (below_then HB5.out HB5.out.size hb)
              have hcm := Hcmp.out
              clear hb HX5 HF5 HB5 HGt q0 q1 q2 q3 q4 q5 q6 Hcmp HTx HTq HSm
              generalize mk gf.text = gt at *
              by_cases hp : p3 = freeT ∨ p3 = heldT
              · rw [decide_eq_true hp] at hcm
                have HN : Hid (readG t.data.toList = some gf) := Lib.hid (by rw [HRg.out, if_pos hp, hok]; rfl)
                clear HRg hp
                obtain ⟨g0, g1', g2', g3, g4, g5, g6⟩ := HF6.out.at
                obtain ⟨q0, q1, q2, q3, q4, q5, q6⟩ := HX6.out.at
                have f0 := HX6.out.thaw 0; have f1 := HX6.out.thaw 1; have f2 := HX6.out.thaw 2; have f3 := HX6.out.thaw 3; have f4 := HX6.out.thaw 4; have f5 := HX6.out.thaw 5; have f6 := HX6.out.thaw 6
                go_wp2_with fail
                refine bodyPost_ret (v := .tuple #[.agg gf.cells, .bool true]) (ret_grain Tryz.results14 (HX6.out.put gf) rfl rfl) rfl ⟨by rw [HN.out]; rfl, below_put HB6.out (Nat.le_refl _) gf⟩
              · rw [decide_eq_false hp] at hcm
                have HN : Hid (readG t.data.toList = none) := Lib.hid (by rw [HRg.out, if_neg hp])
                clear HRg hp
                obtain ⟨q0, q1, q2, q3, q4, q5, q6⟩ := HX6.out.at
                have f0 := HX6.out.thaw 0; have f1 := HX6.out.thaw 1; have f2 := HX6.out.thaw 2; have f3 := HX6.out.thaw 3; have f4 := HX6.out.thaw 4; have f5 := HX6.out.thaw 5; have f6 := HX6.out.thaw 6
                go_wp2_with fail
                refine bodyPost_ret (v := .tuple #[.agg G0.cells, .bool false]) (ret_grain Tryz.results14 (HX6.out.put G0) rfl rfl) rfl ⟨by rw [HN.out]; rfl, below_put HB6.out (Nat.le_refl _) G0⟩
          · have HN : Hid (readG t.data.toList = none) := Lib.hid (by
              rw [HR]
              obtain ⟨x, y, rfl⟩ := len2 h2
              match n, h4 with
              | [], _ => simp
              | [_], _ => simp
              | [_, _], _ => simp
              | [_, _, _], _ => simp
              | [_, _, _, _], h => exact absurd rfl h
              | _ :: _ :: _ :: _ :: _ :: _, _ => simp)
            clear HR
            have h2' : ((c.length : Int) != 2) = false := by simp [h2]
            have h4' : ((n.length : Int) != 4) = true := by simp; omega
            obtain ⟨q0, q1, q2, q3, q4, q5, q6⟩ := HX3.out.at
            have f0 := HX3.out.thaw 0; have f1 := HX3.out.thaw 1; have f2 := HX3.out.thaw 2; have f3 := HX3.out.thaw 3; have f4 := HX3.out.thaw 4; have f5 := HX3.out.thaw 5; have f6 := HX3.out.thaw 6
            have r1 := store_cm
            have r2 := store_fm
            go_wp2_with fail
            refine bodyPost_ret (v := .tuple #[.agg G0.cells, .bool false]) (ret_grain Tryz.results14 (HX3.out.put G0) rfl rfl) rfl ⟨by rw [HN.out]; rfl, below_put HB3.out (Nat.le_refl _) G0⟩
        · have HN : Hid (readG t.data.toList = none) := Lib.hid (by rw [HR]; rcases c with _ | ⟨x, _ | ⟨y, _ | ⟨z, r⟩⟩⟩ <;> (first | (exact absurd rfl h2) | simp))
          clear HR
          have h2' : ((c.length : Int) != 2) = true := by simp; omega
          obtain ⟨q0, q1, q2, q3, q4, q5, q6⟩ := HX3.out.at
          have f0 := HX3.out.thaw 0; have f1 := HX3.out.thaw 1; have f2 := HX3.out.thaw 2; have f3 := HX3.out.thaw 3; have f4 := HX3.out.thaw 4; have f5 := HX3.out.thaw 5; have f6 := HX3.out.thaw 6
          have r1 := store_cm
          have r2 := store_fm
          go_wp2_with fail
          refine bodyPost_ret (v := .tuple #[.agg G0.cells, .bool false]) (ret_grain Tryz.results14 (HX3.out.put G0) rfl rfl) rfl ⟨by rw [HN.out]; rfl, below_put HB3.out (Nat.le_refl _) G0⟩
  · have HN : Hid (readG t.data.toList = none) := Lib.hid (by
      rw [HR.out]
      rcases P with _ | ⟨p1, _ | ⟨p2, _ | ⟨p3, _ | ⟨p4, r⟩⟩⟩⟩ <;> first | rfl | (exact absurd rfl hn))
    have hn' : ((P.length : Int) != 3) = true := by simp; omega
    obtain ⟨q0, q1, q2, q3, q4, q5, q6⟩ := HX1.out.at
    have f0 := HX1.out.thaw 0; have f1 := HX1.out.thaw 1; have f2 := HX1.out.thaw 2; have f3 := HX1.out.thaw 3; have f4 := HX1.out.thaw 4; have f5 := HX1.out.thaw 5; have f6 := HX1.out.thaw 6
    have r1 := store_cm
    have r2 := store_fm
    go_wp2_with fail
    refine bodyPost_ret (v := .tuple #[.agg G0.cells, .bool false]) (ret_grain Tryz.results14 (HX1.out.put G0) rfl rfl) rfl ⟨by rw [HN.out]; rfl, below_put HB1.out (Nat.le_refl _) G0⟩
end Go.Proofs.YticfmlohkfoccaaGreatDoor
