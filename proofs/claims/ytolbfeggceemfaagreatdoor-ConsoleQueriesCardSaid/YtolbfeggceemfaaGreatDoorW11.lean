/-
  The walk of pad.Query. Condition: the name is one.
-/
import Derived.Test.YtolbfeggceemfaaGreatDoorW10
import Derived.Test.YtolbfeggceemfaaGreatDoorR1
namespace Go.Proofs.YtolbfeggceemfaaGreatDoor
open Go.RowKit

theorem Nm.fold_labels {l : List UInt8} {ls : List (List UInt8)} (h : Nm.labels l = some ls) : Nm.labels (Nm.fold l) = some (Nm.foldLs ls) := by
  have e : Nm.fold l = Nm.wire (Nm.foldLs ls) := by unfold Nm.fold; rw [h]
  rw [e]
  exact Nm.labels_fold h

def stepVal (n : List UInt8) (t : Nat) : Value := .agg #[.string (txt n), .int .i64 (t : Int)]
def Stp (w : World) (b : Nat) (n : List UInt8) (t : Nat) : Prop := w.heap[b]? = some (.cells #[.string (txt n), .int .i64 (t : Int)] 89 (0, 0))
theorem stp_cells {w : World} {b t : Nat} {n : List UInt8} (h : Stp w b n t) : Stp w b n t ∧ w.cell? ⟨b, 0, none⟩ = some (.string (txt n)) ∧ w.cell? ⟨b, 1, none⟩ = some (.int .i64 (t : Int)) :=
  ⟨h, by rw [Lib.cell_of_heap h]; rfl, by rw [Lib.cell_of_heap h]; rfl⟩
theorem Stp.below {w w' : World} {b t : Nat} {n : List UInt8} (h : Stp w b n t) (hb : Below w.heap.size w w') : Stp w' b n t := (hb.block b (Array.getElem?_eq_some_iff.1 h).1).trans h
theorem Stp.alloc {w : World} {b t : Nat} {n : List UInt8} (h : Stp w b n t) (o : Obj) : Stp (w.alloc o) b n t := h.below ((Below.refl _ w).alloc (Nat.le_refl _) o)

set_option maxHeartbeats 1000000 in
set_option maxRecDepth 100000 in
theorem query_bad (id t : Nat) (n : List UInt8) (ls : List (List UInt8)) (w : World) (hn : Nm.labels n = some ls) (h : 65535 < id ∨ t < 1 ∨ 65535 < t) :
    Calls Tryz.prog 63 #[.int .i64 (id : Int), stepVal n t] w fun e w' => e = .returned (.tuple #[.string (txt []), .int .i64 1000]) ∧ Below w.heap.size w w' := by
  have HN := Lib.hid (fun W => mayName_calls n ls W hn)
  unfold stepVal
  by_cases h1 : 65535 < id
  · have q1 : ((65535 : Int) < (id : Int)) = True := by simp; omega
    clear h
    go_enter Tryz.func63, Tryz.ntmps63
    go_wp2_with fail
    go_ret2
    exact ⟨rfl, (Below.refl _ w).alloc (Nat.le_refl _) _⟩
  · have q1 : ((65535 : Int) < (id : Int)) = False := by simp; omega
    by_cases h2 : t < 1
    · have q2 : ((t : Int) < 1) = True := by simp; omega
      clear h
      go_enter Tryz.func63, Tryz.ntmps63
      go_wp2_with fail
      refine (HN.out _).mono ?_
      rintro e w1 ⟨rfl, hb1⟩
      have hk := (hb1.block w.heap.size (by simp)).trans (heap_alloc_new w _)
      have c1 : w1.cell? ⟨w.heap.size, 1, none⟩ = some (.int .i64 (t : Int)) := by rw [Lib.cell_of_heap hk]; rfl
      clear hk
      go_wp2_with fail
      go_ret2
      exact ⟨rfl, ((Below.refl _ w).alloc (Nat.le_refl _) _).trans (hb1.mono (by simp))⟩
    · have q2 : ((t : Int) < 1) = False := by simp; omega
      have q3 : ((65535 : Int) < (t : Int)) = True := by simp; omega
      clear h
      go_enter Tryz.func63, Tryz.ntmps63
      go_wp2_with fail
      refine (HN.out _).mono ?_
      rintro e w1 ⟨rfl, hb1⟩
      have hk := (hb1.block w.heap.size (by simp)).trans (heap_alloc_new w _)
      have c1 : w1.cell? ⟨w.heap.size, 1, none⟩ = some (.int .i64 (t : Int)) := by rw [Lib.cell_of_heap hk]; rfl
      clear hk
      go_wp2_with fail
      go_ret2
      exact ⟨rfl, ((Below.refl _ w).alloc (Nat.le_refl _) _).trans (hb1.mono (by simp))⟩

theorem heap_set3 {w : World} {g : Nat} {T : TypeId} {a b c x0 x1 x2 : Value} (h : w.heap[g]? = some (.cells #[a, b, c] T (0, 0))) :
    (((w.setCell ⟨g, 0, none⟩ x0).setCell ⟨g, 1, none⟩ x1).setCell ⟨g, 2, none⟩ x2).heap[g]? = some (.cells #[x0, x1, x2] T (0, 0)) :=
  Lib.heap_setCell_same (Lib.heap_setCell_same (Lib.heap_setCell_same h x0) x1) x2
theorem below_set3 {B g : Nat} {w0 w : World} {x0 x1 x2 : Value} (h : Below B w0 w) (hB : B ≤ g) : Below B w0 (((w.setCell ⟨g, 0, none⟩ x0).setCell ⟨g, 1, none⟩ x1).setCell ⟨g, 2, none⟩ x2) :=
  ((h.setCell (p := ⟨g, 0, none⟩) hB _).setCell (p := ⟨g, 1, none⟩) hB _).setCell (p := ⟨g, 2, none⟩) hB _
theorem stp_lt (w : World) (o : Obj) : w.heap.size < ((w.alloc o).drew).heap.size := by show w.heap.size < (w.alloc o).heap.size; simp
theorem Stp.set3 {w : World} {b t g : Nat} {n : List UInt8} {x0 x1 x2 : Value} (h : Stp w b n t) (hg : b ≠ g) : Stp (((w.setCell ⟨g, 0, none⟩ x0).setCell ⟨g, 1, none⟩ x1).setCell ⟨g, 2, none⟩ x2) b n t := by
  unfold Stp
  rw [heap_setCell_other _ _ _ _ (show b ≠ (Addr.mk g 2 none).block from hg), heap_setCell_other _ _ _ _ (show b ≠ (Addr.mk g 1 none).block from hg), heap_setCell_other _ _ _ _ (show b ≠ (Addr.mk g 0 none).block from hg)]
  exact h

set_option maxHeartbeats 4000000 in
set_option maxRecDepth 100000 in
theorem query_ok (id t : Nat) (n : List UInt8) (ls : List (List UInt8)) (w : World) (hn : Nm.labels n = some ls) (hid : id ≤ 65535) (h1 : 1 ≤ t) (h2 : t ≤ 65535) :
    Calls Tryz.prog 63 #[.int .i64 (id : Int), stepVal n t] w fun e w' => e = .returned (.tuple #[.string (txt (Ms.query id (Nm.fold n) t)), .int .i64 0]) ∧ Below w.heap.size w w' := by
  have HN := Lib.hid (fun W => mayName_calls n ls W hn)
  have hnl := (Nm.labels_some hn).2.2
  have hF := fun W => relFold_calls (txt n) W (by rw [txt_size]; omega)
  rw [txt_data] at hF
  have HF := Lib.hid hF
  have HP := Lib.hid (fun q cq W hq hql => padded_calls id q cq t (Nm.fold n) (Nm.foldLs ls) W hid (Nm.fold_labels hn) h1 h2 hq hql)
  have q1 : ((65535 : Int) < (id : Int)) = False := by simp; omega
  have q2 : ((t : Int) < 1) = False := by simp; omega
  have q3 : ((65535 : Int) < (t : Int)) = False := by simp; omega
  clear hF
  unfold stepVal
  go_enter Tryz.func63, Tryz.ntmps63
  go_wp2_with fail
  refine (HN.out _).mono ?_
  rintro e w1 ⟨rfl, hb1⟩
  have hb01 : Below w.heap.size w w1 := ((Below.refl _ w).alloc (Nat.le_refl _) _).trans (hb1.mono (by simp))
  have hk : Stp w1 w.heap.size n t := (hb1.block w.heap.size (by simp)).trans (heap_alloc_new w _)
  have c1 := (stp_cells hk).2.2
  have hl1 : w.heap.size < w1.heap.size := (Array.getElem?_eq_some_iff.1 hk).1
  have HK := Lib.hid hk
  clear hk
  go_wp2_with fail
  clear q1 q2 q3 c1
  have hS0 := stp_cells (show Stp w1.drew w.heap.size n t from HK.out)
  go_region_held3 (fun w' => Stp w' w.heap.size n t ∧ w'.cell? ⟨w.heap.size, 0, none⟩ = some (.string (txt n)) ∧ w'.cell? ⟨w.heap.size, 1, none⟩ = some (.int .i64 (t : Int)))
    (first
      | exact hS0
      | (go_split_ands; exact stp_cells (Stp.alloc (by assumption) _))
      | (go_split_ands; exact stp_cells (Stp.alloc hSF _))
      | (go_split_ands; exact stp_cells (Stp.below (by assumption) hbF))
      | (go_split_ands; exact stp_cells (Stp.set3 (by assumption) (by omega))))
    (first
      | (go_at_call 59; refine (HF.out ((w1.alloc (.cells #[.string ⟨#[]⟩, .int .i64 0, .int .i64 0] 114)).drew)).mono ?_; rintro e wF ⟨rfl, hbF⟩; have hzk := (hbF.block w1.heap.size (stp_lt w1 _)).trans (heap_alloc_new w1 _); have z0 : wF.cell? ⟨w1.heap.size, 0, none⟩ = some (.string ⟨#[]⟩) := (by rw [Lib.cell_of_heap hzk]; rfl); have z1 : wF.cell? ⟨w1.heap.size, 1, none⟩ = some (.int .i64 0) := (by rw [Lib.cell_of_heap hzk]; rfl); have z2 : wF.cell? ⟨w1.heap.size, 2, none⟩ = some (.int .i64 0) := (by rw [Lib.cell_of_heap hzk]; rfl); have fz : ∀ j : Nat, wF.frozen? ⟨w1.heap.size, j, none⟩ = false := (fun j => Lib.frozen_of_heap hzk j); have HZK := Lib.hid hzk; clear hzk)
      | (go_at_call 59; refine (HF.out w1.drew).mono ?_; rintro e wF ⟨rfl, hbF⟩; have hSF : Stp wF w.heap.size n t := Stp.below (show Stp w1.drew w.heap.size n t from HK.out) hbF; have hlF : w.heap.size < wF.heap.size := Nat.lt_of_lt_of_le hl1 hbF.size))
  · have hbF' : Below w.heap.size w wF := hb01.drew.trans (hbF.mono (show w.heap.size ≤ w1.heap.size from hb01.size))
    have hb5 := hbF'.alloc hbF'.size (.cells #[.string (txt (Nm.fold n)), .int .i64 (t : Int), .int .i64 1] 114)
    have hk5 := heap_alloc_new wF (.cells #[.string (txt (Nm.fold n)), .int .i64 (t : Int), .int .i64 1] 114)
    generalize wF.alloc (.cells #[.string (txt (Nm.fold n)), .int .i64 (t : Int), .int .i64 1] 114) = w5 at *
    have hgz : w.heap.size < wF.heap.size := hlF
    have e0 : w5.cell? ⟨wF.heap.size, 0, none⟩ = some (.string (txt (Nm.fold n))) := by rw [Lib.cell_of_heap hk5]; rfl
    have e1 : w5.cell? ⟨wF.heap.size, 1, none⟩ = some (.int .i64 (t : Int)) := by rw [Lib.cell_of_heap hk5]; rfl
    have e2 : w5.cell? ⟨wF.heap.size, 2, none⟩ = some (.int .i64 1) := by rw [Lib.cell_of_heap hk5]; rfl
    clear hk5
    go_wp2_with fail
    refine (HP.out w5.heap.size 1 _ (fun j x hj => (Lib.cell_of_heap (heap_alloc_new w5 (.cells (qCells (Nm.fold n) t) 114)) j).trans hj) (by simp)).mono ?_
    rintro e w6 ⟨rfl, hb6⟩
    clear e0 e1 e2
    go_wp2_with fail
    go_ret2
    exact ⟨rfl, (hb5.alloc hb5.size _).trans (hb6.mono (by have := hb5.size; simp; omega))⟩
  · have hbF' : Below w.heap.size w wF := ((hb01.alloc hb01.size (.cells #[.string ⟨#[]⟩, .int .i64 0, .int .i64 0] 114)).drew).trans (hbF.mono (Nat.le_of_lt (Nat.lt_of_le_of_lt hb01.size (stp_lt w1 _))))
    have hb5 := below_set3 (g := w1.heap.size) (x0 := .string (txt (Nm.fold n))) (x1 := .int .i64 (t : Int)) (x2 := .int .i64 1) hbF' hb01.size
    have hk5 := heap_set3 (x0 := .string (txt (Nm.fold n))) (x1 := .int .i64 (t : Int)) (x2 := .int .i64 1) HZK.out
    generalize ((wF.setCell ⟨w1.heap.size, 0, none⟩ (.string (txt (Nm.fold n)))).setCell ⟨w1.heap.size, 1, none⟩ (.int .i64 (t : Int))).setCell ⟨w1.heap.size, 2, none⟩ (.int .i64 1) = w5 at *
    clear z0 z1 z2 fz
    have e0 : w5.cell? ⟨w1.heap.size, 0, none⟩ = some (.string (txt (Nm.fold n))) := by rw [Lib.cell_of_heap hk5]; rfl
    have e1 : w5.cell? ⟨w1.heap.size, 1, none⟩ = some (.int .i64 (t : Int)) := by rw [Lib.cell_of_heap hk5]; rfl
    have e2 : w5.cell? ⟨w1.heap.size, 2, none⟩ = some (.int .i64 1) := by rw [Lib.cell_of_heap hk5]; rfl
    clear hk5
    go_wp2_with fail
    refine (HP.out w5.heap.size 1 _ (fun j x hj => (Lib.cell_of_heap (heap_alloc_new w5 (.cells (qCells (Nm.fold n) t) 114)) j).trans hj) (by simp)).mono ?_
    rintro e w6 ⟨rfl, hb6⟩
    clear e0 e1 e2
    go_wp2_with fail
    go_ret2
    exact ⟨rfl, (hb5.alloc hb5.size _).trans (hb6.mono (by have := hb5.size; simp; omega))⟩
end Go.Proofs.YtolbfeggceemfaaGreatDoor
