/-
  The walk of wire.Put at a query with its OPT record. Condition: the id and the type are of 16 bits, the name is one, the record's data is of at most 1000 bytes.
-/
import Derived.Test.YtolbfeggceemfaaGreatDoorW5
namespace Go.Proofs.YtolbfeggceemfaaGreatDoor
open Go.RowKit
namespace Ms
/-- A query's bytes, its OPT record with this data. -/
def put (id : Nat) (n : List UInt8) (t : Nat) (d : List UInt8) : List UInt8 :=
  hdr id ++ (n ++ (Oc.p16 t ++ Oc.p16 1)) ++ ([0] ++ (Oc.p16 41 ++ Oc.p16 1232)) ++ (Oc.p32 0 ++ Oc.p16 d.length ++ d)
end Ms

def RecAt (w : World) (rc : Nat) (d : ByteArray) : Prop := w.heap[rc]? = some (.cells (optCells d) 128 (0, 0))
theorem rec_cells {w : World} {rc : Nat} {d : ByteArray} (h : RecAt w rc d) : RecAt w rc d ∧ w.cell? ⟨rc, 3, none⟩ = some (.int .i64 0) ∧ w.cell? ⟨rc, 4, none⟩ = some (.string d) :=
  ⟨h, by rw [Lib.cell_of_heap h]; rfl, by rw [Lib.cell_of_heap h]; rfl⟩
theorem rec_below {w w' : World} {rc : Nat} {d : ByteArray} (h : RecAt w rc d) (hb : Below w.heap.size w w') : RecAt w' rc d := (hb.block rc (Array.getElem?_eq_some_iff.1 h).1).trans h

set_option maxHeartbeats 4000000 in
set_option maxRecDepth 100000 in
theorem wirePut_calls (id q cq a ca t : Nat) (n : List UInt8) (ls : List (List UInt8)) (d : List UInt8) (w : World) (hid : id ≤ 65535) (hn : Nm.labels n = some ls) (ht : 1 ≤ t) (ht2 : t ≤ 65535) (hd : d.length ≤ 1000)
    (hq : ∀ (j : Nat) x, (qCells n t)[j]? = some x → w.cell? ⟨q, j, none⟩ = some x) (hql : q < w.heap.size) (hal : a < w.heap.size) (ha : ∀ (j : Nat) x, (optCells (txt d))[j]? = some x → w.cell? ⟨a, j, none⟩ = some x) :
    Calls Tryz.prog 109 #[.agg (msgCells id q cq (.slice (some ⟨a, 0, none⟩) 1 ca))] w fun e w' => e = .returned (.tuple #[.string (txt (Ms.put id n t d)), .int .i64 0]) ∧ Below w.heap.size w w' := by
  have hnl := (Nm.labels_some hn).2.2
  have HH := Lib.hid (fun W => headPut_calls id W hid)
  have HF := Lib.hid (fun b W hm hq hal ha => fits_calls b id q cq a ca t n ls (txt d) W hn ht ht2 (by rw [txt_size]; omega) hm hq hal ha)
  have HQ := Lib.hid hq
  have HA := Lib.hid ha
  clear hq ha
  unfold msgCells at *
  go_enter Tryz.func109, Tryz.ntmps109
  go_wp2_with fail
  refine (HH.out _).mono ?_
  rintro e w1 ⟨rfl, hb1⟩
  have hb01 : Below w.heap.size w w1 := ((Below.refl _ w).alloc (Nat.le_refl _) _).trans (hb1.mono (by simp))
  have hm1 : w1.heap[w.heap.size]? = some (.cells (msgCells id q cq (.slice (some ⟨a, 0, none⟩) 1 ca)) 96 (0, 0)) := (hb1.block w.heap.size (by simp)).trans (heap_alloc_new w _)
  have hml : w.heap.size < w1.heap.size := (Array.getElem?_eq_some_iff.1 hm1).1
  have HM1 := Lib.hid hm1
  clear hm1
  go_wp2_with fail
  refine (HF.out _ _ HM1.out (fun j x hj => (hb01.cell (p := ⟨q, j, none⟩) hql).trans (HQ.out j x hj)) (by have := hb01.size; omega) (fun j x hj => (hb01.cell (p := ⟨a, j, none⟩) hal).trans (HA.out j x hj))).mono ?_
  rintro e w2 ⟨rfl, hb2⟩
  have hb02 := hb01.trans (hb2.mono (Nat.le_of_lt hml))
  go_wp2_with fail
  refine (new_calls w2).mono ?_
  rintro e w3 ⟨rfl, hb3, hC3, hM3⟩
  obtain ⟨r, hr⟩ : ∃ r, w2.heap.size = r := ⟨_, rfl⟩
  rw [hr] at hb3 hC3 hM3 ⊢
  have hrB : w.heap.size < r := by have := hb2.size; omega
  have hb03 := hb02.trans (hb3.mono (Nat.le_of_lt hrB))
  have hmr : ∀ w', Below r w2 w' → w'.heap[w.heap.size]? = some (.cells (msgCells id q cq (.slice (some ⟨a, 0, none⟩) 1 ca)) 96 (0, 0)) := fun w' hb => ((hb.block _ hrB).trans (hb2.block _ hml)).trans HM1.out
  have hqr : ∀ w', Below r w2 w' → ∀ (j : Nat) x, (qCells n t)[j]? = some x → w'.cell? ⟨q, j, none⟩ = some x := fun w' hb j x hj => ((hb.cell (p := ⟨q, j, none⟩) (by show q < r; omega)).trans (hb02.cell (p := ⟨q, j, none⟩) hql)).trans (HQ.out j x hj)
  have har : ∀ w', Below r w2 w' → ∀ (j : Nat) x, (optCells (txt d))[j]? = some x → w'.cell? ⟨a, j, none⟩ = some x := fun w' hb j x hj => ((hb.cell (p := ⟨a, j, none⟩) (by show a < r; omega)).trans (hb02.cell (p := ⟨a, j, none⟩) hal)).trans (HA.out j x hj)
  have HMR := Lib.hid hmr
  have HQR := Lib.hid hqr
  have HAR := Lib.hid har
  clear hmr hqr har hr
  go_wp2_with fail
  have hc3 := hC3.lt
  have hW4 : WwAt (w3.alloc (.cells #[.pointer (some ⟨r + 1, 0, none⟩), .bool false] 173)) r (r + 1) w3.heap.size [] :=
    ⟨hC3.below ((Below.refl _ w3).alloc (Nat.le_refl _) _) (Nat.le_refl _), hc3, heap_alloc_new w3 _⟩
  have hM4 := mapIs_alloc hM3 (.cells #[.pointer (some ⟨r + 1, 0, none⟩), .bool false] 173)
  have hb4 : Below r w2 (w3.alloc (.cells #[.pointer (some ⟨r + 1, 0, none⟩), .bool false] 173)) := hb3.alloc (by omega) _
  obtain ⟨w4, hw4⟩ : ∃ w4, w3.alloc (.cells #[.pointer (some ⟨r + 1, 0, none⟩), .bool false] 173) = w4 := ⟨_, rfl⟩
  obtain ⟨b, hbb⟩ : ∃ b, w3.heap.size = b := ⟨_, rfl⟩
  rw [hw4, hbb] at hW4
  rw [hw4] at hM4 hb4 ⊢
  rw [hbb]
  clear hw4 hbb
  have hhl : (Ms.hdr id).length = 12 := rfl
  refine (wwRaw_calls w4 r (r + 1) b [] (txt (Ms.hdr id)) hW4 (by rw [txt_size, hhl]; decide)).mono ?_
  rintro e w5 ⟨rfl, hW5, hb5, -⟩
  rw [txt_data, List.nil_append] at hW5
  have hM5 : MapIs w5 r [] := (hb5.block r (Nat.lt_succ_self r)).trans hM4
  have hb25 := hb4.trans (hb5.mono (Nat.le_succ r))
  have hm5 := HMR.out _ hb25
  have m9 : w5.cell? ⟨w.heap.size, 9, none⟩ = some (.slice (some ⟨q, 0, none⟩) 1 cq) := by rw [Lib.cell_of_heap hm5]; rfl
  have q0 : w5.cell? ⟨q, 0, none⟩ = some (.string (txt n)) := HQR.out _ hb25 0 _ rfl
  have q1 : w5.cell? ⟨q, 1, none⟩ = some (.int .i64 (t : Int)) := HQR.out _ hb25 1 _ rfl
  have q2 : w5.cell? ⟨q, 2, none⟩ = some (.int .i64 1) := HQR.out _ hb25 2 _ rfl
  have hb5l := hW5.lt
  clear hm5
  go_wp2_with fail
  refine wp_loop_rounds 2 ?_
  rw [rounds_succ]
  go_wp2_with fail
  have hr5 : r < w5.heap.size := (Array.getElem?_eq_some_iff.1 hM5).1
  have hW6 := hW5.below ((Below.refl _ w5).alloc (Nat.le_refl _) (.cells #[.string (txt n), .int .i64 (t : Int), .int .i64 1] 114)) (Nat.le_refl _)
  have hM6 := mapIs_alloc hM5 (.cells #[.string (txt n), .int .i64 (t : Int), .int .i64 1] 114)
  have hb26 : Below r w2 (w5.alloc (.cells #[.string (txt n), .int .i64 (t : Int), .int .i64 1] 114)) := hb25.alloc (by omega) _
  refine (wwName_first _ r (r + 1) b t 1 n _ ls hW6 hM6 hn (by rw [hhl]; omega) (by omega) (by decide)).mono ?_
  rintro e w7 ⟨rfl, hW7, hb7, -⟩
  have hb27 := hb26.trans hb7
  clear m9 q0 q1 q2
  go_wp2_with fail
  rw [rounds_succ]
  have hm7 := HMR.out _ hb27
  have m10 : w7.cell? ⟨w.heap.size, 10, none⟩ = some (.slice none 0 0) := by rw [Lib.cell_of_heap hm7]; rfl
  have m11 : w7.cell? ⟨w.heap.size, 11, none⟩ = some (.slice none 0 0) := by rw [Lib.cell_of_heap hm7]; rfl
  have m12 : w7.cell? ⟨w.heap.size, 12, none⟩ = some (.slice (some ⟨a, 0, none⟩) 1 ca) := by rw [Lib.cell_of_heap hm7]; rfl
  have a0 : w7.cell? ⟨a, 0, none⟩ = some (.string ⟨#[0]⟩) := HAR.out _ hb27 0 _ rfl
  have a1 : w7.cell? ⟨a, 1, none⟩ = some (.int .i64 41) := HAR.out _ hb27 1 _ rfl
  have a2 : w7.cell? ⟨a, 2, none⟩ = some (.int .i64 1232) := HAR.out _ hb27 2 _ rfl
  have a3 : w7.cell? ⟨a, 3, none⟩ = some (.int .i64 0) := HAR.out _ hb27 3 _ rfl
  have a4 : w7.cell? ⟨a, 4, none⟩ = some (.string (txt d)) := HAR.out _ hb27 4 _ rfl
  have ix0 := Tryz.idx176_0
  have ix1 := Tryz.idx176_1
  have ix2 := Tryz.idx176_2
  clear hm7
  go_wp2_with fail
  refine wp_loop_rounds 4 ?_
  rw [rounds_succ]
  go_wp2_with fail
  refine wp_loop_rounds 1 ?_
  rw [rounds_succ]
  go_wp2_with fail
  rw [rounds_succ]
  go_wp2_with fail
  refine wp_loop_rounds 1 ?_
  rw [rounds_succ]
  go_wp2_with fail
  rw [rounds_succ]
  go_wp2_with fail
  refine wp_loop_rounds 2 ?_
  rw [rounds_succ]
  go_wp2_with fail
  have hr7 := hW7.lt
  have hrb7 := hW7.2.1
  have hl7 : (Ms.hdr id ++ (n ++ (Oc.p16 t ++ Oc.p16 1))).length ≤ 300 := by
    rw [List.length_append, List.length_append, hhl]
    show 12 + (n.length + 4) ≤ 300
    omega
  have hW8 := hW7.below ((Below.refl _ w7).alloc (Nat.le_refl _) (.cells (optCells (txt d)) 128)) (Nat.le_refl _)
  have hR8 : RecAt (w7.alloc (.cells (optCells (txt d)) 128)) w7.heap.size (txt d) := heap_alloc_new w7 _
  have hb28 : Below r w2 (w7.alloc (.cells (optCells (txt d)) 128)) := hb27.alloc (by omega) _
  have hfin : Ms.put id n t d = Ms.hdr id ++ (n ++ (Oc.p16 t ++ Oc.p16 1)) ++ ([0] ++ (Oc.p16 41 ++ Oc.p16 1232)) ++ (Oc.p32 0 ++ Oc.p16 d.length ++ d) := rfl
  generalize Ms.hdr id ++ (n ++ (Oc.p16 t ++ Oc.p16 1)) = bs7 at *
  have HFIN0 := Lib.hid hfin
  clear hfin
  refine (wwName_root _ r (r + 1) b 41 1232 bs7 hW8 (by omega) (by decide) (by decide)).mono ?_
  rintro e w9 ⟨rfl, hW9, hb9, hf9⟩
  have hb29 := hb28.trans hb9
  have hR9 : RecAt w9 w7.heap.size (txt d) := hf9 _ _ hR8 (by omega) (by omega) (by omega) (fun d fz e => by cases e)
  have hW9l := hW9.lt
  have hrc9 : r < w7.heap.size := by omega
  have hrcb : w7.heap.size ≠ b := by omega
  have hrcc : w7.heap.size ≠ r + 1 := by omega
  clear a0 a1 a2 a3 a4 hf9
  go_wp2_with fail
  have hRD := rec_cells hR9
  have hP32 := fun W => put32_calls 0 W (by decide)
  have hP16 := fun W => put16_calls d.length W (by omega)
  have hcat : txt (Oc.p32 0) ++ txt (Oc.p16 d.length) ++ txt d = txt (Oc.p32 0 ++ Oc.p16 d.length ++ d) := by rw [txt_append, txt_append]
  have hcl : (Oc.p32 0 ++ Oc.p16 d.length ++ d).length ≤ 1006 := by
    rw [List.length_append]
    show 6 + d.length ≤ 1006
    omega
  have hds : (txt d).size = d.length := txt_size d
  have hsA : (txt (Oc.p32 0)).size = 4 := txt_size _
  have hsB : (txt (Oc.p16 d.length)).size = 2 := txt_size _
  have hfin := HFIN0.out
  generalize Oc.p32 0 ++ Oc.p16 d.length ++ d = tl at *
  generalize txt (Oc.p32 0) = A at *
  generalize txt (Oc.p16 d.length) = B at *
  have HP32 := Lib.hid hP32
  have HP16 := Lib.hid hP16
  have HCT := Lib.hid hcat
  have HFIN := Lib.hid hfin
  clear hP32 hP16 hcat hfin
  have hraw : ∀ W, WwAt W r (r + 1) b (bs7 ++ ([0] ++ (Oc.p16 41 ++ Oc.p16 1232))) → Calls Tryz.prog 133 #[.pointer (some ⟨b, 0, none⟩), .string (A ++ B ++ txt d)] W fun e w' => e = .returned (.tuple #[]) ∧ WwAt w' r (r + 1) b (bs7 ++ ([0] ++ (Oc.p16 41 ++ Oc.p16 1232)) ++ tl) ∧ Below (r + 1) W w' ∧ (∀ k o, W.heap[k]? = some o → k ≠ r + 1 → k ≠ b → (∀ d fz, o ≠ .cells d 5 fz) → w'.heap[k]? = some o) := fun W hW => by
    rw [HCT.out]
    have h := wwRaw_calls W r (r + 1) b _ (txt tl) hW (by
      rw [txt_size, List.length_append]
      have : ([0] ++ (Oc.p16 41 ++ Oc.p16 1232)).length = 5 := rfl
      omega)
    rw [txt_data] at h
    exact h
  have HRAW := Lib.hid hraw
  clear hraw
  have hbg := hb29.size
  have hsum : (9223372036854775807 < 6 + d.length) = False := by simp; omega
  go_region_held3 (fun w' => RecAt w' w7.heap.size (txt d) ∧ w'.cell? ⟨w7.heap.size, 3, none⟩ = some (.int .i64 0) ∧ w'.cell? ⟨w7.heap.size, 4, none⟩ = some (.string (txt d)))
    (first
      | exact hRD
      | (go_split_ands; exact rec_cells (rec_below (by assumption) hbA))
      | (go_split_ands; exact rec_cells (rec_below (by assumption) hbB))
      | (go_split_ands; exact rec_cells (hfC _ _ (by assumption) hrcc hrcb (fun d fz e => by cases e))))
    (first
      | (go_at_call 135; refine (HP32.out _).mono ?_; rintro e wA ⟨rfl, hbA⟩)
      | (go_at_call 136; refine (HP16.out _).mono ?_; rintro e wB ⟨rfl, hbB⟩)
      | (go_at_call 133; refine (HRAW.out _ ((WwAt.below (w := w9.drew) hW9 hbA (Nat.le_refl _)).below hbB (Nat.le_refl _))).mono ?_; rintro e wC ⟨rfl, hWC, hbC, hfC⟩))
  have hbAB : Below r w2 wB := (hb29.trans ((show Below w9.heap.size w9 wA from ⟨hbA.os, hbA.tape, hbA.output, hbA.size, hbA.block⟩).mono (by omega))).trans (hbB.mono (Nat.le_trans (by omega) (show w9.heap.size ≤ wA.heap.size from hbA.size)))
  have hb2C := hbAB.trans (hbC.mono (Nat.le_succ r))
  clear hRD
  go_wp2_with fail
  rw [rounds_succ]
  go_wp2_with fail
  rw [rounds_succ]
  have hWCs := hWC
  obtain ⟨hCC, _, hkb⟩ := hWC
  rw [← HFIN.out] at hCC
  have y0 : wC.cell? ⟨b, 0, none⟩ = some (.pointer (some ⟨r + 1, 0, none⟩)) := by rw [Lib.cell_of_heap hkb]; rfl
  have y1 : wC.cell? ⟨b, 1, none⟩ = some (.bool false) := by rw [Lib.cell_of_heap hkb]; rfl
  have HKB := Lib.hid hkb
  clear hkb
  go_wp2_with (go_at_call 137; refine (cwAll_calls _ _ _ _ hCC).mono ?_; rintro e wD ⟨rfl, rfl⟩)
  go_ret2
  exact ⟨rfl, hb02.trans (hb2C.mono (by omega))⟩
end Go.Proofs.YtolbfeggceemfaaGreatDoor
