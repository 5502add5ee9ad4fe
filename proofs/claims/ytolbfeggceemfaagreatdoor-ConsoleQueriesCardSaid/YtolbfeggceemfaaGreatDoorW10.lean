/-
  The walks of pad.padded and pad.Query. Condition: the name is one.
-/
import Derived.Test.YtolbfeggceemfaaGreatDoorW9
import Derived.Test.YtolbfeggceemfaaGreatDoorQ1
namespace Go.Proofs.YtolbfeggceemfaaGreatDoor
open Go.RowKit
namespace Ms
/-- How much padding a query has. -/
def pads (id : Nat) (n : List UInt8) (t : Nat) : Nat := (Nu.room ((put id n t []).length : Int) 128).toNat
/-- A query's bytes. -/
def query (id : Nat) (n : List UInt8) (t : Nat) : List UInt8 := put id n t (padData (pads id n t))
theorem put_length (id : Nat) (n : List UInt8) (t : Nat) (d : List UInt8) : (put id n t d).length = n.length + d.length + 27 := by
  simp only [put, hdr, List.length_append]
  show 2 + (2 + (2 + (2 + (2 + 2)))) + (n.length + (2 + 2)) + (1 + (2 + 2)) + (4 + 2 + d.length) = _
  omega
theorem pads_eq (id : Nat) (n : List UInt8) (t : Nat) : Nu.room ((put id n t []).length : Int) 128 = (pads id n t : Int) ∧ pads id n t < 128 := by
  have h : 0 ≤ Nu.room ((put id n t []).length : Int) 128 ∧ Nu.room ((put id n t []).length : Int) 128 < 128 := by
    unfold Nu.room
    rw [if_neg (by omega)]
    omega
  unfold pads
  omega
end Ms

set_option maxHeartbeats 4000000 in
set_option maxRecDepth 100000 in
theorem padded_calls (id q cq t : Nat) (n : List UInt8) (ls : List (List UInt8)) (w : World) (hid : id ≤ 65535) (hn : Nm.labels n = some ls) (ht : 1 ≤ t) (ht2 : t ≤ 65535)
    (hq : ∀ (j : Nat) x, (qCells n t)[j]? = some x → w.cell? ⟨q, j, none⟩ = some x) (hql : q < w.heap.size) :
    Calls Tryz.prog 83 #[.agg (msgCells id q cq (.slice none 0 0)), .int .i64 128] w fun e w' => e = .returned (.tuple #[.string (txt (Ms.query id n t)), .int .i64 0]) ∧ Below w.heap.size w w' := by
  obtain ⟨hr, hr2⟩ := Ms.pads_eq id n t
  have hpl := Ms.put_length id n t []
  have hnl := (Nm.labels_some hn).2.2
  have HW := Lib.hid (fun W => with_none id q cq W)
  have HW2 := Lib.hid (fun W => with_some id q cq (Ms.pads id n t) W (by omega))
  have HP := Lib.hid (fun d W a ca hd hq hql hal ha => wirePut_calls id q cq a ca t n ls d W hid hn ht ht2 hd hq hql hal ha)
  have HQ := Lib.hid hq
  have hpd : (padData (Ms.pads id n t)).length ≤ 1000 := by simp [padData, Oc.p16]; omega
  have HPD := Lib.hid hpd
  have hres : Ms.put id n t (padData (Ms.pads id n t)) = Ms.query id n t := rfl
  have HRES := Lib.hid hres
  have hsz : (txt (Ms.put id n t [])).size = (Ms.put id n t []).length := txt_size _
  have hsl : (Ms.put id n t []).length ≤ 1000 := by rw [hpl]; simp; omega
  clear hq hpl hpd hres
  unfold msgCells at *
  go_enter Tryz.func83, Tryz.ntmps83
  go_wp2_with fail
  refine (HW.out _).mono ?_
  rintro e w1 ⟨a, ca, rfl, hb1, hal, hac⟩
  have hk1 := (hb1.block w.heap.size (by simp)).trans (heap_alloc_new w _)
  have hb01 : Below w.heap.size w w1 := ((Below.refl _ w).alloc (Nat.le_refl _) _).trans (hb1.mono (by simp))
  have hl1 : w.heap.size < w1.heap.size := (Array.getElem?_eq_some_iff.1 hk1).1
  have HK1 := Lib.hid hk1
  have HAC := Lib.hid hac
  clear hk1 hac
  go_wp2_with fail
  refine (HP.out [] _ _ _ (by simp) (fun j x hj => (hb01.cell (p := ⟨q, j, none⟩) hql).trans (HQ.out j x hj)) (by omega) hal HAC.out).mono ?_
  rintro e w2 ⟨rfl, hb2⟩
  have hb02 := hb01.trans (hb2.mono (Nat.le_of_lt hl1))
  have hk2 := (hb2.block w.heap.size hl1).trans HK1.out
  go_wp2_with fail
  have m0 : w2.cell? ⟨w.heap.size, 0, none⟩ = some (.int .i64 (id : Int)) := by rw [Lib.cell_of_heap hk2]; rfl
  have m1 : w2.cell? ⟨w.heap.size, 1, none⟩ = some (.bool false) := by rw [Lib.cell_of_heap hk2]; rfl
  have m2 : w2.cell? ⟨w.heap.size, 2, none⟩ = some (.int .i64 0) := by rw [Lib.cell_of_heap hk2]; rfl
  have m3 : w2.cell? ⟨w.heap.size, 3, none⟩ = some (.bool false) := by rw [Lib.cell_of_heap hk2]; rfl
  have m4 : w2.cell? ⟨w.heap.size, 4, none⟩ = some (.bool false) := by rw [Lib.cell_of_heap hk2]; rfl
  have m5 : w2.cell? ⟨w.heap.size, 5, none⟩ = some (.bool false) := by rw [Lib.cell_of_heap hk2]; rfl
  have m6 : w2.cell? ⟨w.heap.size, 6, none⟩ = some (.bool false) := by rw [Lib.cell_of_heap hk2]; rfl
  have m7 : w2.cell? ⟨w.heap.size, 7, none⟩ = some (.int .i64 0) := by rw [Lib.cell_of_heap hk2]; rfl
  have m8 : w2.cell? ⟨w.heap.size, 8, none⟩ = some (.int .i64 0) := by rw [Lib.cell_of_heap hk2]; rfl
  have m9 : w2.cell? ⟨w.heap.size, 9, none⟩ = some (.slice (some ⟨q, 0, none⟩) 1 cq) := by rw [Lib.cell_of_heap hk2]; rfl
  have m10 : w2.cell? ⟨w.heap.size, 10, none⟩ = some (.slice none 0 0) := by rw [Lib.cell_of_heap hk2]; rfl
  have m11 : w2.cell? ⟨w.heap.size, 11, none⟩ = some (.slice none 0 0) := by rw [Lib.cell_of_heap hk2]; rfl
  have m12 : w2.cell? ⟨w.heap.size, 12, none⟩ = some (.slice none 0 0) := by rw [Lib.cell_of_heap hk2]; rfl
  have hbd : Below w.heap.size w w2.drew := hb02.drew
  have hR := fun W => room_calls ((Ms.put id n t []).length : Int) 128 W (by omega) (by omega)
  rw [hr] at hR
  have HR := Lib.hid hR
  have hld : w.heap.size ≤ w2.drew.heap.size := hb02.size
  clear hk2 hr hR
  go_region_with (first
    | (go_at_call 45; refine (HR.out _).mono ?_; rintro e wA ⟨rfl, rfl⟩)
    | (go_at_call 110; refine (HW2.out _).mono ?_; rintro e wB ⟨a2, ca2, rfl, hbB, haB, hcB⟩; have HCB := Lib.hid hcB; clear hcB)
    | (go_at_call 109; refine (HP.out (padData (Ms.pads id n t)) _ _ _ HPD.out (fun j x hj => ((hbd.trans (hbB.mono hld)).cell (p := ⟨q, j, none⟩) hql).trans (HQ.out j x hj)) (Nat.lt_of_lt_of_le hql (hbd.trans (hbB.mono hld)).size) haB HCB.out).mono ?_; rintro e wC ⟨rfl, hbC⟩))
  all_goals
    clear m0 m1 m2 m3 m4 m5 m6 m7 m8 m9 m10 m11 m12
    have hbB' := hbd.trans (hbB.mono hld)
    have hbC' := hbB'.trans (hbC.mono hbB'.size)
    rw [HRES.out]
    go_wp2_with fail
    go_ret2
    exact ⟨rfl, hbC'⟩
end Go.Proofs.YtolbfeggceemfaaGreatDoor
