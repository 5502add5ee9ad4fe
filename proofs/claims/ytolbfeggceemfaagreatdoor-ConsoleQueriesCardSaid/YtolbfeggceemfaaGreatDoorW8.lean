/-
  The walk of pad.with at a query: no padding, or so many bytes of it. Condition: the padding is of at most 900 bytes.
-/
import Derived.Test.YtolbfeggceemfaaGreatDoorW7
namespace Go.Proofs.YtolbfeggceemfaaGreatDoor
open Go.RowKit

theorem results_cell1 {P : Program} {fn : Func} {t : TypeId} {a : Tmp} (h : fn.results = #[.cell a t]) (tmps : Array Value) (w : World) (p : Addr) (v : Value) (ha : tmps.getD a undef = .pointer (some p)) (hl : (loadVar t p).run P w = .ok v w) :
    (results fn tmps).run P w = .ok v w := by
  have ha' : tmps[a]?.getD undef = .pointer (some p) := by simpa using ha
  simp [results, h, ha', hl, asAddr]

theorem Tryz.info128 : (Tryz.prog.info? 128).map (fun i => (i.zero.isSome, i.size, i.bytes)) = some (true, 5, 56) := by kernel_rfl

/-- append of one record to none, as one step of a region that draws. -/
theorem step_append_rec {ops : Array Oper} {o : Oper} {a : Act} {w : World} {K : Act → World → Prop} {Q : Exit → Act → World → Prop} {E : Prop}
    (hg : o.guard = none) (s x : Operand) (hop : o.op = Op.call { callee := Callee.builtin Builtin.append, args := #[s, x], argTypes := #[94, 94] })
    (hs : a.eval s = .slice none 0 0) (ad : Addr) (c : Nat) (hx : a.eval x = .slice (some ad) 1 c) (d : ByteArray) (hc : ∀ (j : Nat) u, (optCells d).toList[j]? = some u → w.cell? (ad.add j) = some u)
    (hK : ∀ cap w', (∀ (j : Nat) u, (optCells d)[j]? = some u → w'.cell? ⟨w.heap.size, j, none⟩ = some u) → Below w.heap.size w w' → w.heap.size < w'.heap.size → K (a.put o.dst (.slice (some ⟨w.heap.size, 0, none⟩) 1 cap)) w') :
    if Region.wanted o (yielded ops a.tmps) = true then Oper.wp Tryz.prog o a w K Q else E := by
  have hw : Region.wanted o (yielded ops a.tmps) = true := by simp [Region.wanted, hg]
  rw [if_pos hw]
  obtain ⟨i, hi, hh⟩ := Option.map_eq_some_iff.1 Tryz.info128
  simp only [Prod.mk.injEq] at hh
  obtain ⟨h1, h2, h3⟩ := hh
  obtain ⟨z, hz⟩ := Option.isSome_iff_exists.1 h1
  have hrun := run_append_nil (P := Tryz.prog) w 94 o.type 128 i z Tryz.underlying94 hi hz ad 1 c (optCells d).toList (by rw [h2]; rfl) hc (by decide) (by decide) (by rw [h3]; decide)
  unfold Oper.wp
  simp [execOp, hop, resolve, invoke, builtin, hs, hx, hrun, Result.andThen]
  refine hK _ _ (fun j u hj => ?_) ((Below.refl w.heap.size w).drew.alloc (Nat.le_refl _) _) (by simp)
  refine Eq.trans (Lib.cell_of_heap (heap_alloc_new w.drew _) j) ?_
  have hlt := (Array.getElem?_eq_some_iff.1 hj).1
  rw [Array.getElem?_append_left (by simpa using hlt)]
  simpa using hj

theorem step_append_nils {ops : Array Oper} {o : Oper} {a : Act} {w : World} {K : Act → World → Prop} {Q : Exit → Act → World → Prop} {E : Prop}
    (hg : o.guard = none) (s x : Operand) (hop : o.op = Op.call { callee := Callee.builtin Builtin.append, args := #[s, x], argTypes := #[94, 94] })
    (hs : a.eval s = .slice none 0 0) (hx : a.eval x = .slice none 0 0) (hK : K (a.put o.dst (.slice none 0 0)) w) :
    if Region.wanted o (yielded ops a.tmps) = true then Oper.wp Tryz.prog o a w K Q else E := by
  have hw : Region.wanted o (yielded ops a.tmps) = true := by simp [Region.wanted, hg]
  rw [if_pos hw]
  obtain ⟨i, hi, hh⟩ := Option.map_eq_some_iff.1 Tryz.info128
  simp only [Prod.mk.injEq] at hh
  obtain ⟨h1, h2, h3⟩ := hh
  obtain ⟨z, hz⟩ := Option.isSome_iff_exists.1 h1
  have hrun : (Builtin.append_ #[94, 94] o.type #[.slice none 0 0, .slice none 0 0]).run Tryz.prog w = .ok (.slice none 0 0) w := by
    simp [Builtin.append_, run_underlying Tryz.underlying94, sizeOf, typeInfo, zeroValue, hi, hz, Builtin.lenOf, run_firstCells_none]
  unfold Oper.wp
  simp [execOp, hop, resolve, invoke, builtin, hs, hx, hrun, Result.andThen]
  exact hK

def msgZero : Array Value := #[.int .i64 0, .bool false, .int .i64 0, .bool false, .bool false, .bool false, .bool false, .int .i64 0, .int .i64 0, .slice none 0 0, .slice none 0 0, .slice none 0 0, .slice none 0 0]
theorem with_w0 (w : World) (m z : Array Value) (o : Obj) : Below w.heap.size w (((w.alloc (.cells m 96)).alloc (.cells z 96)).alloc o) ∧ w.heap.size + 1 + 1 < (((w.alloc (.cells m 96)).alloc (.cells z 96)).alloc o).heap.size ∧
    (((w.alloc (.cells m 96)).alloc (.cells z 96)).alloc o).heap[w.heap.size]? = some (.cells m 96 (0, 0)) ∧ (((w.alloc (.cells m 96)).alloc (.cells z 96)).alloc o).heap[w.heap.size + 1]? = some (.cells z 96 (0, 0)) := by
  refine ⟨(((Below.refl _ w).alloc (Nat.le_refl _) _).alloc (by simp) _).alloc (by simp; omega) _, by simp, ?_, ?_⟩
  · rw [Lib.alloc_old _ _ _ (by simp; omega), Lib.alloc_old _ _ _ (by simp)]; exact heap_alloc_new w _
  · rw [Lib.alloc_old _ _ _ (by simp)]; exact alloc2_new w _ _

theorem rec_row (w : World) (d : ByteArray) : ∀ (j : Nat) u, (optCells d).toList[j]? = some u → (w.drew.alloc (.cells (optCells d) 128)).cell? ((⟨w.heap.size, 0, none⟩ : Addr).add j) = some u := by
  intro j u hj
  rw [Addr.add_lit, Nat.zero_add]
  refine Eq.trans (Lib.cell_of_heap (heap_alloc_new w.drew (.cells (optCells d) 128)) j) ?_
  simpa using hj

set_option maxHeartbeats 1000000 in
theorem heap_set13 {w : World} {g : Nat} {T : TypeId} {a0 a1 a2 a3 a4 a5 a6 a7 a8 a9 a10 a11 a12 x0 x1 x2 x3 x4 x5 x6 x7 x8 x9 x10 x11 x12 : Value} (h : w.heap[g]? = some (.cells #[a0, a1, a2, a3, a4, a5, a6, a7, a8, a9, a10, a11, a12] T (0, 0))) :
    (((((((((((((w.setCell ⟨g, 0, none⟩ x0).setCell ⟨g, 1, none⟩ x1).setCell ⟨g, 2, none⟩ x2).setCell ⟨g, 3, none⟩ x3).setCell ⟨g, 4, none⟩ x4).setCell ⟨g, 5, none⟩ x5).setCell ⟨g, 6, none⟩ x6).setCell ⟨g, 7, none⟩ x7).setCell ⟨g, 8, none⟩ x8).setCell ⟨g, 9, none⟩ x9).setCell ⟨g, 10, none⟩ x10).setCell ⟨g, 11, none⟩ x11).setCell ⟨g, 12, none⟩ x12).heap[g]? = some (.cells #[x0, x1, x2, x3, x4, x5, x6, x7, x8, x9, x10, x11, x12] T (0, 0)) := by
  have h0 := Lib.heap_setCell_same (i := 0) h x0
  simp only [List.setIfInBounds_toArray, List.set_cons_zero] at h0
  have h1 := Lib.heap_setCell_same (i := 1) h0 x1
  simp only [List.setIfInBounds_toArray, List.set_cons_zero, List.set_cons_succ] at h1
  have h2 := Lib.heap_setCell_same (i := 2) h1 x2
  simp only [List.setIfInBounds_toArray, List.set_cons_zero, List.set_cons_succ] at h2
  have h3 := Lib.heap_setCell_same (i := 3) h2 x3
  simp only [List.setIfInBounds_toArray, List.set_cons_zero, List.set_cons_succ] at h3
  have h4 := Lib.heap_setCell_same (i := 4) h3 x4
  simp only [List.setIfInBounds_toArray, List.set_cons_zero, List.set_cons_succ] at h4
  have h5 := Lib.heap_setCell_same (i := 5) h4 x5
  simp only [List.setIfInBounds_toArray, List.set_cons_zero, List.set_cons_succ] at h5
  have h6 := Lib.heap_setCell_same (i := 6) h5 x6
  simp only [List.setIfInBounds_toArray, List.set_cons_zero, List.set_cons_succ] at h6
  have h7 := Lib.heap_setCell_same (i := 7) h6 x7
  simp only [List.setIfInBounds_toArray, List.set_cons_zero, List.set_cons_succ] at h7
  have h8 := Lib.heap_setCell_same (i := 8) h7 x8
  simp only [List.setIfInBounds_toArray, List.set_cons_zero, List.set_cons_succ] at h8
  have h9 := Lib.heap_setCell_same (i := 9) h8 x9
  simp only [List.setIfInBounds_toArray, List.set_cons_zero, List.set_cons_succ] at h9
  have h10 := Lib.heap_setCell_same (i := 10) h9 x10
  simp only [List.setIfInBounds_toArray, List.set_cons_zero, List.set_cons_succ] at h10
  have h11 := Lib.heap_setCell_same (i := 11) h10 x11
  simp only [List.setIfInBounds_toArray, List.set_cons_zero, List.set_cons_succ] at h11
  have h12 := Lib.heap_setCell_same (i := 12) h11 x12
  simp only [List.setIfInBounds_toArray, List.set_cons_zero, List.set_cons_succ] at h12
  exact h12
theorem below_set13 {B g : Nat} {w0 w : World} {x0 x1 x2 x3 x4 x5 x6 x7 x8 x9 x10 x11 x12 : Value} (h : Below B w0 w) (hB : B ≤ g) : Below B w0 (((((((((((((w.setCell ⟨g, 0, none⟩ x0).setCell ⟨g, 1, none⟩ x1).setCell ⟨g, 2, none⟩ x2).setCell ⟨g, 3, none⟩ x3).setCell ⟨g, 4, none⟩ x4).setCell ⟨g, 5, none⟩ x5).setCell ⟨g, 6, none⟩ x6).setCell ⟨g, 7, none⟩ x7).setCell ⟨g, 8, none⟩ x8).setCell ⟨g, 9, none⟩ x9).setCell ⟨g, 10, none⟩ x10).setCell ⟨g, 11, none⟩ x11).setCell ⟨g, 12, none⟩ x12) :=
  (((((((((((((h.setCell (p := ⟨g, 0, none⟩) hB x0).setCell (p := ⟨g, 1, none⟩) hB x1).setCell (p := ⟨g, 2, none⟩) hB x2).setCell (p := ⟨g, 3, none⟩) hB x3).setCell (p := ⟨g, 4, none⟩) hB x4).setCell (p := ⟨g, 5, none⟩) hB x5).setCell (p := ⟨g, 6, none⟩) hB x6).setCell (p := ⟨g, 7, none⟩) hB x7).setCell (p := ⟨g, 8, none⟩) hB x8).setCell (p := ⟨g, 9, none⟩) hB x9).setCell (p := ⟨g, 10, none⟩) hB x10).setCell (p := ⟨g, 11, none⟩) hB x11).setCell (p := ⟨g, 12, none⟩) hB x12)
theorem other_set13 {g k : Nat} {w : World} {x0 x1 x2 x3 x4 x5 x6 x7 x8 x9 x10 x11 x12 : Value} (h : k ≠ g) : (((((((((((((w.setCell ⟨g, 0, none⟩ x0).setCell ⟨g, 1, none⟩ x1).setCell ⟨g, 2, none⟩ x2).setCell ⟨g, 3, none⟩ x3).setCell ⟨g, 4, none⟩ x4).setCell ⟨g, 5, none⟩ x5).setCell ⟨g, 6, none⟩ x6).setCell ⟨g, 7, none⟩ x7).setCell ⟨g, 8, none⟩ x8).setCell ⟨g, 9, none⟩ x9).setCell ⟨g, 10, none⟩ x10).setCell ⟨g, 11, none⟩ x11).setCell ⟨g, 12, none⟩ x12).heap[k]? = w.heap[k]? := by
  simp only [heap_setCell_other _ _ _ _ (show k ≠ (Addr.mk g _ none).block from h)]

theorem with_kept {w2 wE : World} {k : Nat} {o o2 : Obj} (h : w2.heap[k]? = some o) (hl : k < w2.heap.size) (hb : Below (w2.drew.alloc o2).heap.size (w2.drew.alloc o2) wE) : wE.heap[k]? = some o := by
  rw [hb.block k (by simp; show k < w2.heap.size + 1; omega), Lib.alloc_old w2.drew o2 k hl]
  exact h

set_option maxHeartbeats 4000000 in
set_option maxRecDepth 100000 in
theorem with_none (id q cq : Nat) (w : World) :
    Calls Tryz.prog 110 #[.agg (msgCells id q cq (.slice none 0 0)), .int .i64 (-1)] w fun e w' => ∃ a ca, e = .returned (.agg (msgCells id q cq (.slice (some ⟨a, 0, none⟩) 1 ca))) ∧ Below w.heap.size w w' ∧ a < w'.heap.size ∧ ∀ (j : Nat) x, (optCells (txt []))[j]? = some x → w'.cell? ⟨a, j, none⟩ = some x := by
  have HO := Lib.hid (fun W => optPut_none W)
  unfold msgCells
  go_enter Tryz.func110, Tryz.ntmps110
  go_wp2_with fail
  refine (HO.out _).mono ?_
  rintro e w1 ⟨rfl, hb1⟩
  have hP0 := with_w0 w (msgCells id q cq (.slice none 0 0)) msgZero (.cells #[.int .i64 1232, .int .i64 0, .int .i64 0, .bool false, .int .i64 0, .slice none 0 0] 179)
  obtain ⟨hPb, hPl, hP0, hP1⟩ := hP0
  have hk0 := (hb1.block w.heap.size (Nat.lt_trans (by omega) hPl)).trans hP0
  have hk1 := (hb1.block (w.heap.size + 1) (Nat.lt_trans (by omega) hPl)).trans hP1
  have hb01 : Below w.heap.size w w1 := hPb.trans (hb1.mono (Nat.le_of_lt (Nat.lt_trans (by omega) hPl)))
  have hl1 : w.heap.size + 1 + 1 < w1.heap.size := Nat.lt_of_lt_of_le hPl hb1.size
  clear hPb hPl hP0 hP1 hb1
  have c12 : w1.cell? ⟨w.heap.size, 12, none⟩ = some (.slice none 0 0) := by rw [Lib.cell_of_heap hk0]; rfl
  have f12 : w1.frozen? ⟨w.heap.size, 12, none⟩ = false := Lib.frozen_of_heap hk0 12
  have HK0 := Lib.hid hk0
  have HK1 := Lib.hid hk1
  clear hk0 hk1
  unfold optCells
  go_wp2_with fail
  have hb12 : Below w1.heap.size w1 (w1.alloc (.cells (optCells (txt [])) 128)) := (Below.refl _ w1).alloc (Nat.le_refl _) _
  have hr2 : (w1.alloc (.cells (optCells (txt [])) 128)).heap[w1.heap.size]? = some (.cells (optCells (txt [])) 128 (0, 0)) := heap_alloc_new w1 _
  have hl2 : w1.heap.size < (w1.alloc (.cells (optCells (txt [])) 128)).heap.size := by simp
  unfold optCells at hb12 hr2 hl2
  generalize w1.alloc (.cells #[.string ⟨#[0]⟩, .int .i64 41, .int .i64 1232, .int .i64 0, .string (txt [])] 128) = w2 at *
  have hk2 := (hb12.block w.heap.size (by omega)).trans HK0.out
  have d12 : w2.cell? ⟨w.heap.size, 12, none⟩ = some (.slice none 0 0) := by rw [Lib.cell_of_heap hk2]; rfl
  have r0 : w2.cell? ⟨w1.heap.size, 0, none⟩ = some (.string ⟨#[0]⟩) := by rw [Lib.cell_of_heap hr2]; rfl
  have r1 : w2.cell? ⟨w1.heap.size, 1, none⟩ = some (.int .i64 41) := by rw [Lib.cell_of_heap hr2]; rfl
  have r2 : w2.cell? ⟨w1.heap.size, 2, none⟩ = some (.int .i64 1232) := by rw [Lib.cell_of_heap hr2]; rfl
  have r3 : w2.cell? ⟨w1.heap.size, 3, none⟩ = some (.int .i64 0) := by rw [Lib.cell_of_heap hr2]; rfl
  have r4 : w2.cell? ⟨w1.heap.size, 4, none⟩ = some (.string (txt [])) := by rw [Lib.cell_of_heap hr2]; rfl
  have hlw : w.heap.size < w2.heap.size := by omega
  have HK2 := Lib.hid hk2
  clear hr2 hk2 c12 f12
  go_region_law (first
    | (refine step_append_nils rfl (.const (.slice none 0 0)) (.tmp 23) rfl rfl rfl ?_)
    | (refine step_append_rec rfl (.tmp 24) (.tmp 26) rfl rfl ⟨w2.heap.size, 0, none⟩ 1 rfl (txt []) (rec_row w2 _) ?_; intro cap wE hcE hbE hlE; have hkE := with_kept HK2.out hlw hbE; have hE12 : wE.cell? ⟨w.heap.size, 12, none⟩ = some (.slice none 0 0) := (by rw [Lib.cell_of_heap hkE]; rfl); have hfE : wE.frozen? ⟨w.heap.size, 12, none⟩ = false := Lib.frozen_of_heap hkE 12; have HKE := Lib.hid hkE; clear hkE))
  all_goals
    have hb1E : Below w.heap.size w (wE.setCell ⟨w.heap.size, 12, none⟩ (.slice (some ⟨w2.heap.size + 1, 0, none⟩) 1 cap)) := by
      refine ((hb01.trans (hb12.mono (by omega))).trans ?_).setCell (p := ⟨w.heap.size, 12, none⟩) (Nat.le_refl _) _
      exact ((Below.refl w.heap.size w2).drew.alloc (show w.heap.size ≤ w2.heap.size by omega) _).trans (hbE.mono (by simp; show w.heap.size ≤ w2.heap.size + 1; omega))
    have hk3 : (wE.setCell ⟨w.heap.size, 12, none⟩ (.slice (some ⟨w2.heap.size + 1, 0, none⟩) 1 cap)).heap[w.heap.size]? = some (.cells (msgCells id q cq (.slice (some ⟨w2.heap.size + 1, 0, none⟩) 1 cap)) 96 (0, 0)) := Lib.heap_setCell_same HKE.out _
    have hk4 : (wE.setCell ⟨w.heap.size, 12, none⟩ (.slice (some ⟨w2.heap.size + 1, 0, none⟩) 1 cap)).heap[w.heap.size + 1]? = some (.cells msgZero 96 (0, 0)) :=
      (Below.heap_setCell _ _ _ _ (by show w.heap.size + 1 ≠ w.heap.size; omega)).trans (with_kept ((hb12.block (w.heap.size + 1) (by omega)).trans HK1.out) (by omega) hbE)
    have eN : ((w2.alloc (.cells (optCells (txt [])) 128)).drew).heap.size = w2.heap.size + 1 := by show (w2.alloc (.cells (optCells (txt [])) 128)).heap.size = _; simp
    have hcF : ∀ (j : Nat) u, (optCells (txt []))[j]? = some u → (wE.setCell ⟨w.heap.size, 12, none⟩ (.slice (some ⟨w2.heap.size + 1, 0, none⟩) 1 cap)).cell? ⟨w2.heap.size + 1, j, none⟩ = some u := fun j u hj => by
      have h : wE.cell? ⟨((w2.alloc (.cells (optCells (txt [])) 128)).drew).heap.size, j, none⟩ = some u := hcE j u hj
      rw [eN] at h
      exact (cell_same (w := wE) (Below.heap_setCell _ _ _ _ (by show w2.heap.size + 1 ≠ w.heap.size; omega))).trans h
    have hlF : w2.heap.size + 1 < (wE.setCell ⟨w.heap.size, 12, none⟩ (.slice (some ⟨w2.heap.size + 1, 0, none⟩) 1 cap)).heap.size := by
      have h : ((w2.alloc (.cells (optCells (txt [])) 128)).drew).heap.size < wE.heap.size := hlE
      rw [eN] at h
      simpa [World.setCell] using h
    clear hE12 hfE r0 r1 r2 r3 r4 d12 hcE
    generalize wE.setCell ⟨w.heap.size, 12, none⟩ (.slice (some ⟨w2.heap.size + 1, 0, none⟩) 1 cap) = w4 at *
    have m0 : w4.cell? ⟨w.heap.size, 0, none⟩ = some (.int .i64 (id : Int)) := by rw [Lib.cell_of_heap hk3]; rfl
    have m1 : w4.cell? ⟨w.heap.size, 1, none⟩ = some (.bool false) := by rw [Lib.cell_of_heap hk3]; rfl
    have m2 : w4.cell? ⟨w.heap.size, 2, none⟩ = some (.int .i64 0) := by rw [Lib.cell_of_heap hk3]; rfl
    have m3 : w4.cell? ⟨w.heap.size, 3, none⟩ = some (.bool false) := by rw [Lib.cell_of_heap hk3]; rfl
    have m4 : w4.cell? ⟨w.heap.size, 4, none⟩ = some (.bool false) := by rw [Lib.cell_of_heap hk3]; rfl
    have m5 : w4.cell? ⟨w.heap.size, 5, none⟩ = some (.bool false) := by rw [Lib.cell_of_heap hk3]; rfl
    have m6 : w4.cell? ⟨w.heap.size, 6, none⟩ = some (.bool false) := by rw [Lib.cell_of_heap hk3]; rfl
    have m7 : w4.cell? ⟨w.heap.size, 7, none⟩ = some (.int .i64 0) := by rw [Lib.cell_of_heap hk3]; rfl
    have m8 : w4.cell? ⟨w.heap.size, 8, none⟩ = some (.int .i64 0) := by rw [Lib.cell_of_heap hk3]; rfl
    have m9 : w4.cell? ⟨w.heap.size, 9, none⟩ = some (.slice (some ⟨q, 0, none⟩) 1 cq) := by rw [Lib.cell_of_heap hk3]; rfl
    have m10 : w4.cell? ⟨w.heap.size, 10, none⟩ = some (.slice none 0 0) := by rw [Lib.cell_of_heap hk3]; rfl
    have m11 : w4.cell? ⟨w.heap.size, 11, none⟩ = some (.slice none 0 0) := by rw [Lib.cell_of_heap hk3]; rfl
    have m12 : w4.cell? ⟨w.heap.size, 12, none⟩ = some (.slice (some ⟨w2.heap.size + 1, 0, none⟩) 1 cap) := by rw [Lib.cell_of_heap hk3]; rfl
    have z0 : w4.cell? ⟨w.heap.size + 1, 0, none⟩ = some (.int .i64 0) := by rw [Lib.cell_of_heap hk4]; rfl
    have z1 : w4.cell? ⟨w.heap.size + 1, 1, none⟩ = some (.bool false) := by rw [Lib.cell_of_heap hk4]; rfl
    have z2 : w4.cell? ⟨w.heap.size + 1, 2, none⟩ = some (.int .i64 0) := by rw [Lib.cell_of_heap hk4]; rfl
    have z3 : w4.cell? ⟨w.heap.size + 1, 3, none⟩ = some (.bool false) := by rw [Lib.cell_of_heap hk4]; rfl
    have z4 : w4.cell? ⟨w.heap.size + 1, 4, none⟩ = some (.bool false) := by rw [Lib.cell_of_heap hk4]; rfl
    have z5 : w4.cell? ⟨w.heap.size + 1, 5, none⟩ = some (.bool false) := by rw [Lib.cell_of_heap hk4]; rfl
    have z6 : w4.cell? ⟨w.heap.size + 1, 6, none⟩ = some (.bool false) := by rw [Lib.cell_of_heap hk4]; rfl
    have z7 : w4.cell? ⟨w.heap.size + 1, 7, none⟩ = some (.int .i64 0) := by rw [Lib.cell_of_heap hk4]; rfl
    have z8 : w4.cell? ⟨w.heap.size + 1, 8, none⟩ = some (.int .i64 0) := by rw [Lib.cell_of_heap hk4]; rfl
    have z9 : w4.cell? ⟨w.heap.size + 1, 9, none⟩ = some (.slice none 0 0) := by rw [Lib.cell_of_heap hk4]; rfl
    have z10 : w4.cell? ⟨w.heap.size + 1, 10, none⟩ = some (.slice none 0 0) := by rw [Lib.cell_of_heap hk4]; rfl
    have z11 : w4.cell? ⟨w.heap.size + 1, 11, none⟩ = some (.slice none 0 0) := by rw [Lib.cell_of_heap hk4]; rfl
    have z12 : w4.cell? ⟨w.heap.size + 1, 12, none⟩ = some (.slice none 0 0) := by rw [Lib.cell_of_heap hk4]; rfl
    have fz : ∀ j : Nat, w4.frozen? ⟨w.heap.size + 1, j, none⟩ = false := fun j => Lib.frozen_of_heap hk4 j
    have HK4 := Lib.hid hk4
    have HCF := Lib.hid hcF
    clear hk3 hk4 hcF
    go_wp2_with fail
    (try simp only [Exit.inBlock, Exit.then])
    refine bodyPost_ret (v := .agg (msgCells id q cq (.slice (some ⟨w2.heap.size + 1, 0, none⟩) 1 cap))) (results_cell1 (a := 4) (t := 96) rfl _ _ ⟨w.heap.size + 1, 0, none⟩ _ rfl (run_loadVar_row _ _ 96 96 (msgCells id q cq (.slice (some ⟨w2.heap.size + 1, 0, none⟩) 1 cap)) (0, 0) _ (heap_set13 HK4.out) Tryz.underlying96 rfl (by kernel_rfl))) rfl ⟨w2.heap.size + 1, cap, rfl, below_set13 hb1E (show w.heap.size ≤ w.heap.size + 1 by omega), by simpa [World.setCell] using hlF, fun j u hj => (cell_same (other_set13 (show w2.heap.size + 1 ≠ w.heap.size + 1 by omega))).trans (HCF.out j u hj)⟩
end Go.Proofs.YtolbfeggceemfaaGreatDoor
