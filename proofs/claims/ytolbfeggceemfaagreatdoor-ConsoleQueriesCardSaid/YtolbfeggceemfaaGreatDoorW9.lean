/-
  The walk of pad.with at a query with padding. Condition: the padding is of at most 900 bytes.
-/
import Derived.Test.YtolbfeggceemfaaGreatDoorW8
namespace Go.Proofs.YtolbfeggceemfaaGreatDoor
open Go.RowKit

theorem conv_zeros (w : World) (m : Nat) : (convert 47 9 (.slice (some ⟨w.heap.size, 0, none⟩) m m)).run Tryz.prog (w.alloc (.cells (madeCells #[Value.int .u8 0] m) 5)) = .ok (.string (txt (List.replicate m 0))) (w.alloc (.cells (madeCells #[Value.int .u8 0] m) 5)) := by
  have hR := made_row w m
  have h := run_convert_bytes_back (P := Tryz.prog) (w.alloc (.cells (madeCells #[Value.int .u8 0] m) 5)) 47 9 5 ⟨w.heap.size, 0, none⟩ m (List.replicate m 0) Tryz.underlying47 Tryz.underlying5 Tryz.underlying9 (fun j hj => by
    rw [Addr.add_lit, Nat.zero_add, hR.cell hj, List.getD_eq_getElem?_getD, List.getElem?_eq_getElem hj]; rfl)
  rw [List.length_replicate] at h
  exact h

def wWith (w : World) (id q cq : Nat) : World := ((w.alloc (.cells (msgCells id q cq (.slice none 0 0)) 96)).alloc (.cells msgZero 96)).alloc (.cells #[.int .i64 1232, .int .i64 0, .int .i64 0, .bool false, .int .i64 0, .slice none 0 0] 179)

theorem with_w1 (w : World) (m z : Array Value) (o o2 o3 : Obj) : Below w.heap.size w (((((w.alloc (.cells m 96)).alloc (.cells z 96)).alloc o).alloc o2).alloc o3) ∧ w.heap.size + 1 + 1 < (((((w.alloc (.cells m 96)).alloc (.cells z 96)).alloc o).alloc o2).alloc o3).heap.size ∧
    (((((w.alloc (.cells m 96)).alloc (.cells z 96)).alloc o).alloc o2).alloc o3).heap[w.heap.size]? = some (.cells m 96 (0, 0)) ∧ (((((w.alloc (.cells m 96)).alloc (.cells z 96)).alloc o).alloc o2).alloc o3).heap[w.heap.size + 1]? = some (.cells z 96 (0, 0)) ∧
    (((((w.alloc (.cells m 96)).alloc (.cells z 96)).alloc o).alloc o2).alloc o3).heap[w.heap.size + 1 + 1 + 1 + 1]? = some o3 := by
  obtain ⟨h1, h2, h3, h4⟩ := with_w0 w m z o
  generalize hw : ((w.alloc (.cells m 96)).alloc (.cells z 96)).alloc o = w3 at *
  have hz : w3.heap.size = w.heap.size + 1 + 1 + 1 := by rw [← hw]; simp
  refine ⟨(h1.alloc (by omega) o2).alloc (by simp; omega) o3, by simp; omega, ?_, ?_, ?_⟩
  · rw [Lib.alloc_old _ _ _ (by simp; omega), Lib.alloc_old _ _ _ (by omega)]; exact h3
  · rw [Lib.alloc_old _ _ _ (by simp; omega), Lib.alloc_old _ _ _ (by omega)]; exact h4
  · have := alloc2_new w3 o2 o3
    rw [hz] at this
    exact this

set_option maxHeartbeats 4000000 in
set_option maxRecDepth 100000 in
theorem with_some (id q cq m : Nat) (w : World) (hm : m ≤ 900) :
    Calls Tryz.prog 110 #[.agg (msgCells id q cq (.slice none 0 0)), .int .i64 (m : Int)] w fun e w' => ∃ a ca, e = .returned (.agg (msgCells id q cq (.slice (some ⟨a, 0, none⟩) 1 ca))) ∧ Below w.heap.size w w' ∧ a < w'.heap.size ∧ ∀ (j : Nat) x, (optCells (txt (padData m)))[j]? = some x → w'.cell? ⟨a, j, none⟩ = some x := by
  have HO := Lib.hid (fun ob oc W hob => optPut_one m ob oc W hm hob)
  have hmk := run_make_row' (P := Tryz.prog) 47 5 (.int .u8 0) 1 Tryz.underlying47 Tryz.info5 rfl .i64 .i64 m (by omega) (by omega)
  have hcv := conv_zeros (wWith w id q cq) m
  have ew : (wWith w id q cq).heap.size = w.heap.size + 1 + 1 + 1 := by simp [wWith]
  rw [ew] at hcv
  unfold wWith msgCells msgZero at hcv
  clear ew
  unfold msgCells
  go_enter Tryz.func110, Tryz.ntmps110
  go_wp2_with fail
  obtain ⟨hPb, hPl, hP0, hP1, hPo⟩ := with_w1 w #[.int .i64 (id : Int), .bool false, .int .i64 0, .bool false, .bool false, .bool false, .bool false, .int .i64 0, .int .i64 0, .slice (some ⟨q, 0, none⟩) 1 cq, .slice none 0 0, .slice none 0 0, .slice none 0 0] msgZero (.cells #[.int .i64 1232, .int .i64 0, .int .i64 0, .bool false, .int .i64 0, .slice (some ⟨w.heap.size + 1 + 1 + 1 + 1, 0, none⟩) 1 1] 179) (.cells (madeCells #[Value.int .u8 0] m) 5) (.cells #[.int .i64 12, .string (txt (List.replicate m 0))] 181)
  clear hcv hmk
  refine (HO.out _ _ _ hPo).mono ?_
  rintro e w1 ⟨rfl, hb1⟩
  have hk0 := (hb1.block w.heap.size (Nat.lt_trans (by omega) hPl)).trans hP0
  have hk1 := (hb1.block (w.heap.size + 1) (Nat.lt_trans (by omega) hPl)).trans hP1
  have hb01 : Below w.heap.size w w1 := hPb.trans (hb1.mono (Nat.le_of_lt (Nat.lt_trans (by omega) hPl)))
  have hl1 : w.heap.size + 1 + 1 < w1.heap.size := Nat.lt_of_lt_of_le hPl hb1.size
  clear hPb hPl hP0 hP1 hb1
  have c12 : w1.cell? ⟨w.heap.size, 12, none⟩ = some (.slice none 0 0) := by rw [Lib.cell_of_heap hk0]; rfl
  have f12 : w1.frozen? ⟨w.heap.size, 12, none⟩ = false := Lib.frozen_of_heap hk0 12
  have HK0 := Lib.hid hk0
  have HK1 := Lib.hid hk1
  clear hk0 hk1
  unfold optCells
  go_wp2_with fail
  have hb12 : Below w1.heap.size w1 (w1.alloc (.cells (optCells (txt (padData m))) 128)) := (Below.refl _ w1).alloc (Nat.le_refl _) _
  have hr2 : (w1.alloc (.cells (optCells (txt (padData m))) 128)).heap[w1.heap.size]? = some (.cells (optCells (txt (padData m))) 128 (0, 0)) := heap_alloc_new w1 _
  have hl2 : w1.heap.size < (w1.alloc (.cells (optCells (txt (padData m))) 128)).heap.size := by simp
  unfold optCells at hb12 hr2 hl2
  generalize w1.alloc (.cells #[.string ⟨#[0]⟩, .int .i64 41, .int .i64 1232, .int .i64 0, .string (txt (padData m))] 128) = w2 at *
  have hk2 := (hb12.block w.heap.size (by omega)).trans HK0.out
  have d12 : w2.cell? ⟨w.heap.size, 12, none⟩ = some (.slice none 0 0) := by rw [Lib.cell_of_heap hk2]; rfl
  have r0 : w2.cell? ⟨w1.heap.size, 0, none⟩ = some (.string ⟨#[0]⟩) := by rw [Lib.cell_of_heap hr2]; rfl
  have r1 : w2.cell? ⟨w1.heap.size, 1, none⟩ = some (.int .i64 41) := by rw [Lib.cell_of_heap hr2]; rfl
  have r2 : w2.cell? ⟨w1.heap.size, 2, none⟩ = some (.int .i64 1232) := by rw [Lib.cell_of_heap hr2]; rfl
  have r3 : w2.cell? ⟨w1.heap.size, 3, none⟩ = some (.int .i64 0) := by rw [Lib.cell_of_heap hr2]; rfl
  have r4 : w2.cell? ⟨w1.heap.size, 4, none⟩ = some (.string (txt (padData m))) := by rw [Lib.cell_of_heap hr2]; rfl
  have hlw : w.heap.size < w2.heap.size := by omega
  have HK2 := Lib.hid hk2
  clear hr2 hk2 c12 f12
  go_region_law (first
    | (refine step_append_nils rfl (.const (.slice none 0 0)) (.tmp 23) rfl rfl rfl ?_)
    | (refine step_append_rec rfl (.tmp 24) (.tmp 26) rfl rfl ⟨w2.heap.size, 0, none⟩ 1 rfl (txt (padData m)) (rec_row w2 _) ?_; intro cap wE hcE hbE hlE; have hkE := with_kept HK2.out hlw hbE; have hE12 : wE.cell? ⟨w.heap.size, 12, none⟩ = some (.slice none 0 0) := (by rw [Lib.cell_of_heap hkE]; rfl); have hfE : wE.frozen? ⟨w.heap.size, 12, none⟩ = false := Lib.frozen_of_heap hkE 12; have HKE := Lib.hid hkE; clear hkE))
  all_goals
    have hb1E : Below w.heap.size w (wE.setCell ⟨w.heap.size, 12, none⟩ (.slice (some ⟨w2.heap.size + 1, 0, none⟩) 1 cap)) := by
      refine ((hb01.trans (hb12.mono (by omega))).trans ?_).setCell (p := ⟨w.heap.size, 12, none⟩) (Nat.le_refl _) _
      exact ((Below.refl w.heap.size w2).drew.alloc (show w.heap.size ≤ w2.heap.size by omega) _).trans (hbE.mono (by simp; show w.heap.size ≤ w2.heap.size + 1; omega))
    have hk3 : (wE.setCell ⟨w.heap.size, 12, none⟩ (.slice (some ⟨w2.heap.size + 1, 0, none⟩) 1 cap)).heap[w.heap.size]? = some (.cells (msgCells id q cq (.slice (some ⟨w2.heap.size + 1, 0, none⟩) 1 cap)) 96 (0, 0)) := Lib.heap_setCell_same HKE.out _
    have hk4 : (wE.setCell ⟨w.heap.size, 12, none⟩ (.slice (some ⟨w2.heap.size + 1, 0, none⟩) 1 cap)).heap[w.heap.size + 1]? = some (.cells msgZero 96 (0, 0)) :=
      (Below.heap_setCell _ _ _ _ (by show w.heap.size + 1 ≠ w.heap.size; omega)).trans (with_kept ((hb12.block (w.heap.size + 1) (by omega)).trans HK1.out) (by omega) hbE)
    have eN : ((w2.alloc (.cells (optCells (txt (padData m))) 128)).drew).heap.size = w2.heap.size + 1 := by show (w2.alloc (.cells (optCells (txt (padData m))) 128)).heap.size = _; simp
    have hcF : ∀ (j : Nat) u, (optCells (txt (padData m)))[j]? = some u → (wE.setCell ⟨w.heap.size, 12, none⟩ (.slice (some ⟨w2.heap.size + 1, 0, none⟩) 1 cap)).cell? ⟨w2.heap.size + 1, j, none⟩ = some u := fun j u hj => by
      have h : wE.cell? ⟨((w2.alloc (.cells (optCells (txt (padData m))) 128)).drew).heap.size, j, none⟩ = some u := hcE j u hj
      rw [eN] at h
      exact (cell_same (w := wE) (Below.heap_setCell _ _ _ _ (by show w2.heap.size + 1 ≠ w.heap.size; omega))).trans h
    have hlF : w2.heap.size + 1 < (wE.setCell ⟨w.heap.size, 12, none⟩ (.slice (some ⟨w2.heap.size + 1, 0, none⟩) 1 cap)).heap.size := by
      have h : ((w2.alloc (.cells (optCells (txt (padData m))) 128)).drew).heap.size < wE.heap.size := hlE
      rw [eN] at h
      simpa [World.setCell] using h
    clear hE12 hfE r0 r1 r2 r3 r4 d12 hcE
    generalize wE.setCell ⟨w.heap.size, 12, none⟩ (.slice (some ⟨w2.heap.size + 1, 0, none⟩) 1 cap) = w4 at *
    have m0 : w4.cell? ⟨w.heap.size, 0, none⟩ = some (.int .i64 (id : Int)) := by rw [Lib.cell_of_heap hk3]; rfl
    have m1 : w4.cell? ⟨w.heap.size, 1, none⟩ = some (.bool false) := by rw [Lib.cell_of_heap hk3]; rfl
    have m2 : w4.cell? ⟨w.heap.size, 2, none⟩ = some (.int .i64 0) := by rw [Lib.cell_of_heap hk3]; rfl
    have m3 : w4.cell? ⟨w.heap.size, 3, none⟩ = some (.bool false) := by rw [Lib.cell_of_heap hk3]; rfl
    have m4 : w4.cell? ⟨w.heap.size, 4, none⟩ = some (.bool false) := by rw [Lib.cell_of_heap hk3]; rfl
    have m5 : w4.cell? ⟨w.heap.size, 5, none⟩ = some (.bool false) := by rw [Lib.cell_of_heap hk3]; rfl
    have m6 : w4.cell? ⟨w.heap.size, 6, none⟩ = some (.bool false) := by rw [Lib.cell_of_heap hk3]; rfl
    have m7 : w4.cell? ⟨w.heap.size, 7, none⟩ = some (.int .i64 0) := by rw [Lib.cell_of_heap hk3]; rfl
    have m8 : w4.cell? ⟨w.heap.size, 8, none⟩ = some (.int .i64 0) := by rw [Lib.cell_of_heap hk3]; rfl
    have m9 : w4.cell? ⟨w.heap.size, 9, none⟩ = some (.slice (some ⟨q, 0, none⟩) 1 cq) := by rw [Lib.cell_of_heap hk3]; rfl
    have m10 : w4.cell? ⟨w.heap.size, 10, none⟩ = some (.slice none 0 0) := by rw [Lib.cell_of_heap hk3]; rfl
    have m11 : w4.cell? ⟨w.heap.size, 11, none⟩ = some (.slice none 0 0) := by rw [Lib.cell_of_heap hk3]; rfl
    have m12 : w4.cell? ⟨w.heap.size, 12, none⟩ = some (.slice (some ⟨w2.heap.size + 1, 0, none⟩) 1 cap) := by rw [Lib.cell_of_heap hk3]; rfl
    have z0 : w4.cell? ⟨w.heap.size + 1, 0, none⟩ = some (.int .i64 0) := by rw [Lib.cell_of_heap hk4]; rfl
    have z1 : w4.cell? ⟨w.heap.size + 1, 1, none⟩ = some (.bool false) := by rw [Lib.cell_of_heap hk4]; rfl
    have z2 : w4.cell? ⟨w.heap.size + 1, 2, none⟩ = some (.int .i64 0) := by rw [Lib.cell_of_heap hk4]; rfl
    have z3 : w4.cell? ⟨w.heap.size + 1, 3, none⟩ = some (.bool false) := by rw [Lib.cell_of_heap hk4]; rfl
    have z4 : w4.cell? ⟨w.heap.size + 1, 4, none⟩ = some (.bool false) := by rw [Lib.cell_of_heap hk4]; rfl
    have z5 : w4.cell? ⟨w.heap.size + 1, 5, none⟩ = some (.bool false) := by rw [Lib.cell_of_heap hk4]; rfl
    have z6 : w4.cell? ⟨w.heap.size + 1, 6, none⟩ = some (.bool false) := by rw [Lib.cell_of_heap hk4]; rfl
    have z7 : w4.cell? ⟨w.heap.size + 1, 7, none⟩ = some (.int .i64 0) := by rw [Lib.cell_of_heap hk4]; rfl
    have z8 : w4.cell? ⟨w.heap.size + 1, 8, none⟩ = some (.int .i64 0) := by rw [Lib.cell_of_heap hk4]; rfl
    have z9 : w4.cell? ⟨w.heap.size + 1, 9, none⟩ = some (.slice none 0 0) := by rw [Lib.cell_of_heap hk4]; rfl
    have z10 : w4.cell? ⟨w.heap.size + 1, 10, none⟩ = some (.slice none 0 0) := by rw [Lib.cell_of_heap hk4]; rfl
    have z11 : w4.cell? ⟨w.heap.size + 1, 11, none⟩ = some (.slice none 0 0) := by rw [Lib.cell_of_heap hk4]; rfl
    have z12 : w4.cell? ⟨w.heap.size + 1, 12, none⟩ = some (.slice none 0 0) := by rw [Lib.cell_of_heap hk4]; rfl
    have fz : ∀ j : Nat, w4.frozen? ⟨w.heap.size + 1, j, none⟩ = false := fun j => Lib.frozen_of_heap hk4 j
    have HK4 := Lib.hid hk4
    have HCF := Lib.hid hcF
    clear hk3 hk4 hcF
    go_wp2_with fail
    (try simp only [Exit.inBlock, Exit.then])
    refine bodyPost_ret (v := .agg (msgCells id q cq (.slice (some ⟨w2.heap.size + 1, 0, none⟩) 1 cap))) (results_cell1 (a := 4) (t := 96) rfl _ _ ⟨w.heap.size + 1, 0, none⟩ _ rfl (run_loadVar_row _ _ 96 96 (msgCells id q cq (.slice (some ⟨w2.heap.size + 1, 0, none⟩) 1 cap)) (0, 0) _ (heap_set13 HK4.out) Tryz.underlying96 rfl (by kernel_rfl))) rfl ⟨w2.heap.size + 1, cap, rfl, below_set13 hb1E (show w.heap.size ≤ w.heap.size + 1 by omega), by simpa [World.setCell] using hlF, fun j u hj => (cell_same (other_set13 (show w2.heap.size + 1 ≠ w.heap.size + 1 by omega))).trans (HCF.out j u hj)⟩
end Go.Proofs.YtolbfeggceemfaaGreatDoor
