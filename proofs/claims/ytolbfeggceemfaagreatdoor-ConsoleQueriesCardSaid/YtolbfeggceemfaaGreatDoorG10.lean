/-
  The walk of (*wire.reader).record. Condition: the text is of at most 100000 bytes, the place within it.
-/
import Derived.Test.YtolbfeggceemfaaGreatDoorG9
namespace Go.Proofs.YtolbfeggceemfaaGreatDoor
open Go.RowKit
namespace Rd
/-- What is left of a reader behind a record's data. -/
def behind (s : List UInt8) (t : Nat) (z : Nat × R) : R :=
  if z.2.bad = true then ⟨z.2.i, true⟩ else match data s z.2.i z.1 t with
    | none => ⟨z.2.i, true⟩
    | some _ => ⟨z.2.i + z.1, false⟩
/-- A record, read. -/
def record (s : List UInt8) (r : R) : R :=
  behind s (question s r).1.t (rnum s 2 (rnum s 4 (question s r).2).2)
theorem data_fit {s : List UInt8} {i z t : Nat} {d : List UInt8} (h : data s i z t = some d) : i + z ≤ s.length := by
  unfold data at h
  split at h
  · cases h
  · omega
theorem record_le (s : List UInt8) (r : R) (h : r.i ≤ s.length) : (record s r).i ≤ s.length := by
  have h3 := rnum_le s 2 _ (rnum_le s 4 _ (question_le s r h))
  unfold record behind
  split
  · exact h3
  · split
    · exact h3
    · rename_i hd
      exact data_fit hd
end Rd

theorem cells_set5 {w : World} {g : Nat} {T : TypeId} {a b c d e x0 x1 x2 x3 x4 : Value} (h : w.heap[g]? = some (.cells #[a, b, c, d, e] T (0, 0))) :
    (((((w.setCell ⟨g, 0, none⟩ x0).setCell ⟨g, 1, none⟩ x1).setCell ⟨g, 2, none⟩ x2).setCell ⟨g, 3, none⟩ x3).setCell ⟨g, 4, none⟩ x4).heap[g]? = some (.cells #[x0, x1, x2, x3, x4] T (0, 0)) :=
  Lib.heap_setCell_same (Lib.heap_setCell_same (Lib.heap_setCell_same (Lib.heap_setCell_same (Lib.heap_setCell_same h x0) x1) x2) x3) x4
theorem far5 {w : World} {k g : Nat} {o : Option Obj} {x0 x1 x2 x3 x4 : Value} (h : w.heap[k]? = o) (hn : k ≠ g) :
    (((((w.setCell ⟨g, 0, none⟩ x0).setCell ⟨g, 1, none⟩ x1).setCell ⟨g, 2, none⟩ x2).setCell ⟨g, 3, none⟩ x3).setCell ⟨g, 4, none⟩ x4).heap[k]? = o :=
  heap_far (heap_far (heap_far (heap_far (heap_far h hn 0 x0) hn 1 x1) hn 2 x2) hn 3 x3) hn 4 x4
theorem Bar.set5 {b g : Nat} {w w1 : World} {x0 x1 x2 x3 x4 : Value} (h : Bar b w w1) (hg : w.heap.size ≤ g) (hb : b ≤ g) :
    Bar b w (((((w1.setCell ⟨g, 0, none⟩ x0).setCell ⟨g, 1, none⟩ x1).setCell ⟨g, 2, none⟩ x2).setCell ⟨g, 3, none⟩ x3).setCell ⟨g, 4, none⟩ x4) :=
  ((((h.setNew hg hb 0 x0).setNew hg hb 1 x1).setNew hg hb 2 x2).setNew hg hb 3 x3).setNew hg hb 4 x4
theorem RdAt.drew {w : World} {b : Nat} {s : ByteArray} {r : Rd.R} (h : RdAt w b s r) : RdAt w.drew b s r := h
theorem RdAt.alloc {w : World} {b : Nat} {s : ByteArray} {r : Rd.R} (h : RdAt w b s r) (o : Obj) : RdAt (w.alloc o) b s r := h.below ((Below.refl _ _).alloc (Nat.le_refl _) _)
theorem Bar.drew {b : Nat} {w w1 : World} (h : Bar b w w1) : Bar b w w1.drew := ⟨h.1.drew, h.2⟩

/-- A question's cells in block g. -/
def Qc (w : World) (g : Nat) (n : ByteArray) (t c : Int) : Prop := w.heap[g]? = some (.cells #[.string n, .int .i64 t, .int .i64 c] 114 (0, 0))
theorem qc_cells {w : World} {g : Nat} {n : ByteArray} {t c : Int} (h : Qc w g n t c) : Qc w g n t c ∧ w.cell? ⟨g, 0, none⟩ = some (.string n) ∧ w.cell? ⟨g, 1, none⟩ = some (.int .i64 t) ∧ w.cell? ⟨g, 2, none⟩ = some (.int .i64 c) :=
  ⟨h, by rw [Lib.cell_of_heap h]; rfl, by rw [Lib.cell_of_heap h]; rfl, by rw [Lib.cell_of_heap h]; rfl⟩
theorem Qc.lt {w : World} {g : Nat} {n : ByteArray} {t c : Int} (h : Qc w g n t c) : g < w.heap.size := (Array.getElem?_eq_some_iff.1 h).1
theorem Qc.alloc {w : World} {g : Nat} {n : ByteArray} {t c : Int} (h : Qc w g n t c) (o : Obj) : Qc (w.alloc o) g n t c := (Lib.alloc_old w o g h.lt).trans h
theorem Qc.bar {w w' : World} {b g : Nat} {n : ByteArray} {t c : Int} (h : Qc w g n t c) (hb : Bar b w w') (hn : g ≠ b) : Qc w' g n t c := (hb.2 g h.lt hn).trans h
theorem Qc.set5 {w : World} {g k : Nat} {n : ByteArray} {t c : Int} {x0 x1 x2 x3 x4 : Value} (h : Qc w g n t c) (hn : g ≠ k) :
    Qc (((((w.setCell ⟨k, 0, none⟩ x0).setCell ⟨k, 1, none⟩ x1).setCell ⟨k, 2, none⟩ x2).setCell ⟨k, 3, none⟩ x3).setCell ⟨k, 4, none⟩ x4) g n t c := far5 h hn

theorem Qc.drew {w : World} {g : Nat} {n : ByteArray} {t c : Int} (h : Qc w g n t c) : Qc w.drew g n t c := h
theorem stp_lt' (w : World) (o : Obj) : w.heap.size < ((w.alloc o).drew).heap.size := by show w.heap.size < (w.alloc o).heap.size; simp
theorem rr_c0 {w : World} {g : Nat} {T : TypeId} {v0 v1 v2 v3 v4 : Value} (h : w.heap[g]? = some (.cells #[v0, v1, v2, v3, v4] T (0, 0))) : w.cell? ⟨g, 0, none⟩ = some v0 := by rw [Lib.cell_of_heap h]; rfl
theorem rr_c1 {w : World} {g : Nat} {T : TypeId} {v0 v1 v2 v3 v4 : Value} (h : w.heap[g]? = some (.cells #[v0, v1, v2, v3, v4] T (0, 0))) : w.cell? ⟨g, 1, none⟩ = some v1 := by rw [Lib.cell_of_heap h]; rfl
theorem rr_c2 {w : World} {g : Nat} {T : TypeId} {v0 v1 v2 v3 v4 : Value} (h : w.heap[g]? = some (.cells #[v0, v1, v2, v3, v4] T (0, 0))) : w.cell? ⟨g, 2, none⟩ = some v2 := by rw [Lib.cell_of_heap h]; rfl
theorem rr_c3 {w : World} {g : Nat} {T : TypeId} {v0 v1 v2 v3 v4 : Value} (h : w.heap[g]? = some (.cells #[v0, v1, v2, v3, v4] T (0, 0))) : w.cell? ⟨g, 3, none⟩ = some v3 := by rw [Lib.cell_of_heap h]; rfl
theorem rr_c4 {w : World} {g : Nat} {T : TypeId} {v0 v1 v2 v3 v4 : Value} (h : w.heap[g]? = some (.cells #[v0, v1, v2, v3, v4] T (0, 0))) : w.cell? ⟨g, 4, none⟩ = some v4 := by rw [Lib.cell_of_heap h]; rfl
theorem rr_fz {w : World} {g : Nat} {T : TypeId} {v0 v1 v2 v3 v4 : Value} (h : w.heap[g]? = some (.cells #[v0, v1, v2, v3, v4] T (0, 0))) : ∀ j : Nat, w.frozen? ⟨g, j, none⟩ = false := fun j => Lib.frozen_of_heap h j

def RecP (o : Rd.R) (b : Nat) (s : ByteArray) (w : World) (e : Ending) (w' : World) : Prop :=
  (∃ n t c x d, e = .returned (.agg #[.string n, .int .i64 t, .int .i64 c, .int .i64 x, .string d])) ∧ RdAt w' b s o ∧ Bar b w w'
def zeroRr : Array Value := #[.string ⟨#[]⟩, .int .i64 0, .int .i64 0, .int .i64 0, .string ⟨#[]⟩]
def RrAt (w : World) (g : Nat) (n : ByteArray) (t c x : Int) (d : ByteArray) : Prop := w.heap[g]? = some (.cells #[.string n, .int .i64 t, .int .i64 c, .int .i64 x, .string d] 128 (0, 0))

def BehindCase (r : Rd.R) (z : Nat) (c : Int) (ro : Rd.R) : Prop :=
  (r.bad = true ∧ ro = ⟨r.i, true⟩) ∨ (r.bad = false ∧ (c != 0) = true ∧ ro = ⟨r.i, true⟩) ∨ (r.bad = false ∧ c = 0 ∧ ro = ⟨r.i + z, false⟩)
theorem behind_case (s : ByteArray) (t z : Nat) (r : Rd.R) (hs : s.size ≤ 100000) (hi : r.i ≤ 100000) (hz : z ≤ 100000) :
    ∃ d c, (∀ W, Calls Tryz.prog 116 #[.string s, .int .i64 (r.i : Int), .int .i64 (z : Int), .int .i64 (t : Int)] W fun e w' => Below W.heap.size W w' ∧ e = .returned (.tuple #[.string d, .int .i64 c])) ∧
      BehindCase r z c (Rd.behind s.data.toList t (z, r)) := by
  have h := fun W => data_calls s r.i z t W hs hi hz
  unfold Rd.behind BehindCase
  simp only
  cases hd : Rd.data s.data.toList r.i z t with
  | none =>
    rw [hd] at h
    refine ⟨txt [], 500, h, ?_⟩
    cases hb : r.bad with
    | true => exact .inl ⟨rfl, by rw [if_pos rfl]⟩
    | false => exact .inr (.inl ⟨rfl, by decide, by rw [if_neg (by decide)]⟩)
  | some l =>
    rw [hd] at h
    refine ⟨txt l, 0, h, ?_⟩
    cases hb : r.bad with
    | true => exact .inl ⟨rfl, by rw [if_pos rfl]⟩
    | false => exact .inr (.inr ⟨rfl, rfl, by rw [if_neg (by decide)]⟩)

set_option maxHeartbeats 4000000 in
set_option maxRecDepth 100000 in
theorem record_calls (s : ByteArray) (b : Nat) (w : World) (r : Rd.R) (hs : s.size ≤ 100000) (hi : r.i ≤ s.size) (hR : RdAt w b s r) :
    Calls Tryz.prog 88 #[.pointer (some ⟨b, 0, none⟩)] w (RecP (Rd.record s.data.toList r) b s w) := by
  unfold Rd.record
  have hL : s.data.toList.length = s.size := by rw [← Lib.size_eq]
  have hQ := fun W (hR : RdAt W b s r) => question_calls s b W r hs hi hR
  have hi1 := Rd.question_le s.data.toList r (by omega)
  have ht1 := Rd.question_t s.data.toList r
  generalize Rd.question s.data.toList r = o1 at *
  have hX := fun W (hR : RdAt W b s o1.2) => readNum_calls 115 4 (.inr ⟨rfl, rfl⟩) s b W o1.2 hs (by omega) hR
  have hi2 := Rd.rnum_le s.data.toList 4 o1.2 hi1
  have hx2 := Rd.rnum_lt s.data.toList 4 o1.2
  generalize Rd.rnum s.data.toList 4 o1.2 = o2 at *
  have hZ := fun W (hR : RdAt W b s o2.2) => readNum_calls 111 2 (.inl ⟨rfl, rfl⟩) s b W o2.2 hs (by omega) hR
  have hi3 := Rd.rnum_le s.data.toList 2 o2.2 hi2
  have hx3 := Rd.rnum_lt s.data.toList 2 o2.2
  generalize Rd.rnum s.data.toList 2 o2.2 = o3 at *
  obtain ⟨⟨n, t, c⟩, r1⟩ := o1
  obtain ⟨x, r2⟩ := o2
  obtain ⟨z, r3⟩ := o3
  simp only at *
  obtain ⟨d, cd, hD, hcase⟩ := behind_case s t z r3 hs (by omega) (by omega)
  generalize Rd.behind s.data.toList t (z, r3) = ro at *
  rw [hL] at hi1 hi2 hi3
  have hz9 : z ≤ 65535 := by omega
  have hi9 : r3.i ≤ 100000 := by omega
  have hlt := hR.lt
  have hn1 : b ≠ w.heap.size := by omega
  have hn2 : w.heap.size ≠ b := by omega
  have HR := Lib.hid hR
  have HQ := Lib.hid hQ
  have HX := Lib.hid hX
  have HZ := Lib.hid hZ
  have HD := Lib.hid hD
  have HC := Lib.hid hcase
  clear hR hQ hX hZ hD hcase hL hi1 hi2 hi3 hx2 hx3 ht1 hi
  obtain ⟨post, hpost⟩ : ∃ post, RecP ro b s w = post := ⟨_, rfl⟩
  rw [hpost]
  have HP := Lib.hid hpost
  clear hpost
  go_enter Tryz.func88, Tryz.ntmps88
  go_wp2_with fail
  refine (HQ.out _ (HR.out.alloc _)).mono ?_
  rintro e w1 ⟨rfl, hR1, hB1⟩
  have hk1 := (hB1.2 w.heap.size (by simp) hn2).trans (heap_alloc_new w _)
  have hl1 : w.heap.size < w1.heap.size := (Array.getElem?_eq_some_iff.1 hk1).1
  have hBB1 : Bar b w w1 := ((Bar.refl b w).alloc hlt _).trans hB1
  have HK1 := Lib.hid hk1
  clear hk1 hB1
  go_wp2_with fail
  have hq2 : Qc (w1.alloc (.cells #[.string (txt n), .int .i64 (t : Int), .int .i64 (c : Int)] 114)) w1.heap.size (txt n) t c := heap_alloc_new w1 _
  have hk2 := (Lib.alloc_old w1 (.cells #[.string (txt n), .int .i64 (t : Int), .int .i64 (c : Int)] 114) _ hl1).trans HK1.out
  have hR2 := hR1.alloc (.cells #[.string (txt n), .int .i64 (t : Int), .int .i64 (c : Int)] 114)
  have hBB2 := hBB1.alloc hlt (.cells #[.string (txt n), .int .i64 (t : Int), .int .i64 (c : Int)] 114)
  have hl2 : w1.heap.size < (w1.alloc (.cells #[.string (txt n), .int .i64 (t : Int), .int .i64 (c : Int)] 114)).heap.size := by simp
  generalize w1.alloc (.cells #[.string (txt n), .int .i64 (t : Int), .int .i64 (c : Int)] 114) = w2 at *
  obtain ⟨q, hq⟩ : ∃ q, w1.heap.size = q := ⟨_, rfl⟩
  rw [hq]
  rw [hq] at hq2 hl2 hl1
  clear hq hR1 hBB1
  have hq3 : q ≠ b := by omega
  have hq4 : q ≠ w2.heap.size := by omega
  have hblt2 := hR2.lt
  have hS0 := qc_cells (show Qc w2.drew q (txt n) t c from hq2)
  have hRa : RdAt ((w2.alloc (.cells #[.string ⟨#[]⟩, .int .i64 0, .int .i64 0, .int .i64 0, .string ⟨#[]⟩] 128)).drew) b s r1 := (hR2.alloc _).drew
  have hRb : RdAt w2.drew b s r1 := hR2.drew
  have hQa : Qc ((w2.alloc (.cells #[.string ⟨#[]⟩, .int .i64 0, .int .i64 0, .int .i64 0, .string ⟨#[]⟩] 128)).drew) q (txt n) t c := (hq2.alloc _).drew
  have hQb : Qc w2.drew q (txt n) t c := hq2.drew
  have hNa := Lib.hid (show ((w2.alloc (.cells #[.string ⟨#[]⟩, .int .i64 0, .int .i64 0, .int .i64 0, .string ⟨#[]⟩] 128)).drew).heap[w2.heap.size]? = some (.cells #[.string ⟨#[]⟩, .int .i64 0, .int .i64 0, .int .i64 0, .string ⟨#[]⟩] 128 (0, 0)) from heap_alloc_new w2 _)
  have hla : w2.heap.size < ((w2.alloc (.cells #[.string ⟨#[]⟩, .int .i64 0, .int .i64 0, .int .i64 0, .string ⟨#[]⟩] 128)).drew).heap.size := stp_lt' w2 _
  have hnb : w2.heap.size ≠ b := by omega
  have HK2 := Lib.hid hk2
  clear hk2 hq2
  go_region_held3 (fun w' => Qc w' q (txt n) t c ∧ w'.cell? ⟨q, 0, none⟩ = some (.string (txt n)) ∧ w'.cell? ⟨q, 1, none⟩ = some (.int .i64 (t : Int)) ∧ w'.cell? ⟨q, 2, none⟩ = some (.int .i64 (c : Int)))
    (first
      | (with_reducible exact hS0)
      | (go_split_ands; with_reducible exact qc_cells hQa)
      | (go_split_ands; with_reducible exact qc_cells hSF)
      | (go_split_ands; with_reducible exact qc_cells (Qc.alloc hSF _))
      | (go_split_ands; with_reducible exact qc_cells (Qc.set5 hSF hq4))
      | (go_split_ands; exact qc_cells (Qc.alloc (by assumption) _)))
    (first
      | (go_at_call 114; refine (HX.out _ hRa).mono ?_; rintro e wF ⟨rfl, hRF, hBF⟩; have hSF := hQa.bar hBF hq3; have hzk := (hBF.2 _ hla hnb).trans hNa.out; have z0 := rr_c0 hzk; have z1 := rr_c1 hzk; have z2 := rr_c2 hzk; have z3 := rr_c3 hzk; have z4 := rr_c4 hzk; have fz := rr_fz hzk; have HZK := Lib.hid hzk; clear hzk)
      | (go_at_call 114; refine (HX.out _ hRb).mono ?_; rintro e wF ⟨rfl, hRF, hBF⟩; have hSF := hQb.bar hBF hq3))
  · have hlF : w.heap.size < wF.heap.size := Nat.lt_of_lt_of_le (show w.heap.size < w2.drew.heap.size from by show _ < w2.heap.size; omega) hBF.size
    have hbF : b < wF.heap.size := hRF.lt
    have hzF := (hBF.2 w.heap.size (show w.heap.size < w2.heap.size by omega) hn2).trans HK2.out
    have hz5 := (Lib.alloc_old wF (.cells #[.string (txt n), .int .i64 (t : Int), .int .i64 (c : Int), .int .i64 (x : Int), .string ⟨#[]⟩] 128) _ hlF).trans hzF
    have hk5 := heap_alloc_new wF (.cells #[.string (txt n), .int .i64 (t : Int), .int .i64 (c : Int), .int .i64 (x : Int), .string ⟨#[]⟩] 128)
    have hR5 := hRF.alloc (.cells #[.string (txt n), .int .i64 (t : Int), .int .i64 (c : Int), .int .i64 (x : Int), .string ⟨#[]⟩] 128)
    have hB5 := (hBB2.drew.trans hBF).alloc hlt (.cells #[.string (txt n), .int .i64 (t : Int), .int .i64 (c : Int), .int .i64 (x : Int), .string ⟨#[]⟩] 128)
    have hg2 : wF.heap.size < (wF.alloc (.cells #[.string (txt n), .int .i64 (t : Int), .int .i64 (c : Int), .int .i64 (x : Int), .string ⟨#[]⟩] 128)).heap.size := by simp
    have hg3 : b ≠ wF.heap.size := by omega
    have hg4 : wF.heap.size ≠ b := by omega
    generalize wF.alloc (.cells #[.string (txt n), .int .i64 (t : Int), .int .i64 (c : Int), .int .i64 (x : Int), .string ⟨#[]⟩] 128) = w5 at *
    generalize wF.heap.size = g4 at *
    have HG1 := Lib.hid hlF
    have HZ5 := Lib.hid hz5
    have HK5 := Lib.hid hk5
    clear hz5 hk5 hzF hQa hQb hSF hRF hBF hRa hRb hNa hla hS0 hR2
    clear hl1 hq3 hblt2 hnb hlF hbF
    go_wp2_with fail
    refine (HZ.out _ hR5).mono ?_
    rintro e w6 ⟨rfl, hR6, hB6⟩
    have hg1 : w.heap.size < g4 := HG1.out
    have hk6 := (hB6.2 g4 hg2 hg4).trans HK5.out
    have hz6 := (hB6.2 w.heap.size (by omega) hn2).trans HZ5.out
    have hBB6 := hB5.trans hB6
    have hl6 : g4 < w6.heap.size := Nat.lt_of_lt_of_le hg2 hB6.size
    have c0 : ∀ W : Cls (fun w' => Below w6.heap.size w6 w'), W.w.cell? ⟨b, 0, none⟩ = some (.string s) := fun W => (hR6.below W.h).c0
    have c1 : ∀ W : Cls (fun w' => Below w6.heap.size w6 w'), W.w.cell? ⟨b, 1, none⟩ = some (.int .i64 (r3.i : Int)) := fun W => (hR6.below W.h).c1
    have y1 : ∀ W : Cls (fun w' => Below w6.heap.size w6 w'), W.w.cell? ⟨g4, 1, none⟩ = some (.int .i64 (t : Int)) := fun W => rr_c1 ((W.h.block g4 hl6).trans hk6)
    have HK6 := Lib.hid hk6
    have HZ6 := Lib.hid hz6
    clear hk6 hz6 hB6 hB5 hR5
    go_wp2_with fail
    refine region_cls (fun w' => Below w6.heap.size w6 w') (by kernel_rfl) (by kernel_rfl) (Below.refl _ _).drew (fun hne => ?_)
    repeat (go_big_quiet_step ((go_at_call 116; rename_i W; have hb := W.h; refine (HD.out _).mono ?_; rintro e wf ⟨hbf, rfl⟩; exact ⟨rfl, ⟨_, hb.trans (hbf.mono hb.size)⟩, rfl⟩)))
    refine wpQuiet_nil ?_
    intro w7 hb7
    have hR7 := hR6.below hb7
    have hk7 := (hb7.block g4 hl6).trans HK6.out
    have hz7 := (hb7.block w.heap.size (by omega)).trans HZ6.out
    have hBB7 := hBB6.below hb7 hlt
    have hm1 : w.heap.size ≠ g4 := by omega
    have hm2 : g4 ≠ w.heap.size := by omega
    have d1 := hR7.c1
    have d2 := hR7.c2
    have f1 := hR7.fz 1
    have f2 := hR7.fz 2
    have y0 := rr_c0 hk7
    have y2 := rr_c2 hk7
    have y3 := rr_c3 hk7
    have y4 := rr_c4 hk7
    have fy := rr_fz hk7
    have z0 := rr_c0 hz7
    have z1 := rr_c1 hz7
    have z2 := rr_c2 hz7
    have z3 := rr_c3 hz7
    have z4 := rr_c4 hz7
    have fz := rr_fz hz7
    have y1' := rr_c1 hk7
    have HK7 := Lib.hid hk7
    have HZ7 := Lib.hid hz7
    clear c0 c1 y1 hk7 hz7 hBB6 hR6
    rcases HC.out with ⟨hb1, rfl⟩ | ⟨hb1, hq1, rfl⟩ | ⟨hb1, rfl, rfl⟩
    · rw [hb1] at d2
      go_wp2_with fail
      refine bodyPost_ret (v := .agg zeroRr) (results_one (a := 2) (t := 128) rfl _ _ ⟨w.heap.size, 0, none⟩ _ rfl (run_loadVar_row _ _ 128 128 zeroRr (0, 0) _ (cells_set5 (heap_far HZ7.out hn2 2 _)) Tryz.underlying128 rfl (by kernel_rfl))) rfl ?_
      rw [← HP.out]
      exact ⟨⟨_, _, _, _, _, rfl⟩, far5 (hR7.setBad true) hn1, (hBB7.setAt 2 _).set5 (Nat.le_refl _) (Nat.le_of_lt hlt)⟩
    · rw [hb1] at d2
      go_wp2_with fail
      refine bodyPost_ret (v := .agg zeroRr) (results_one (a := 2) (t := 128) rfl _ _ ⟨w.heap.size, 0, none⟩ _ rfl (run_loadVar_row _ _ 128 128 zeroRr (0, 0) _ (cells_set5 (heap_far HZ7.out hn2 2 _)) Tryz.underlying128 rfl (by kernel_rfl))) rfl ?_
      rw [← HP.out]
      exact ⟨⟨_, _, _, _, _, rfl⟩, far5 (hR7.setBad true) hn1, (hBB7.setAt 2 _).set5 (Nat.le_refl _) (Nat.le_of_lt hlt)⟩
    · rw [hb1] at d2
      obtain ⟨k, hk⟩ : ∃ k, r3.i + z = k := ⟨_, rfl⟩
      have e1 : (r3.i : Int) + (z : Int) = (k : Int) := by omega
      have hk2 : k ≤ 200000 := by omega
      have HKK := Lib.hid hk
      clear hk
      go_wp2_with fail
      refine bodyPost_ret (v := .agg #[.string (txt n), .int .i64 (t : Int), .int .i64 (c : Int), .int .i64 (x : Int), .string d]) (results_one (a := 2) (t := 128) rfl _ _ ⟨w.heap.size, 0, none⟩ _ rfl (run_loadVar_row _ _ 128 128 #[.string (txt n), .int .i64 (t : Int), .int .i64 (c : Int), .int .i64 (x : Int), .string d] (0, 0) _ (cells_set5 (heap_far (heap_far (heap_far HZ7.out hn2 2 _) hn2 1 _) hm1 4 _)) Tryz.underlying128 rfl (by kernel_rfl))) rfl ?_
      rw [← HP.out, HKK.out]
      exact ⟨⟨_, _, _, _, _, rfl⟩, far5 (heap_far ((hR7.setBad false).setI k) hg3 4 _) hn1, (((hBB7.setAt 2 _).setAt 1 _).setNew (Nat.le_of_lt hg1) (by omega) 4 _).set5 (Nat.le_refl _) (Nat.le_of_lt hlt)⟩
  · have hlF : w.heap.size < w2.heap.size := by omega
    have hbF : b < w2.heap.size := hblt2
    have hzF := (hBF.2 w.heap.size (Nat.lt_trans hlF hla) hn2).trans ((Lib.alloc_old w2 _ _ hlF).trans HK2.out)
    have hz5 := far5 (x0 := .string (txt n)) (x1 := .int .i64 (t : Int)) (x2 := .int .i64 (c : Int)) (x3 := .int .i64 (x : Int)) (x4 := .string ⟨#[]⟩) hzF (show w.heap.size ≠ w2.heap.size by omega)
    have hk5 := cells_set5 (x0 := .string (txt n)) (x1 := .int .i64 (t : Int)) (x2 := .int .i64 (c : Int)) (x3 := .int .i64 (x : Int)) (x4 := .string ⟨#[]⟩) HZK.out
    have hR5 : RdAt (((((wF.setCell ⟨w2.heap.size, 0, none⟩ (.string (txt n))).setCell ⟨w2.heap.size, 1, none⟩ (.int .i64 (t : Int))).setCell ⟨w2.heap.size, 2, none⟩ (.int .i64 (c : Int))).setCell ⟨w2.heap.size, 3, none⟩ (.int .i64 (x : Int))).setCell ⟨w2.heap.size, 4, none⟩ (.string ⟨#[]⟩)) b s r2 := far5 hRF (show b ≠ w2.heap.size by omega)
    have hB5 : Bar b w (((((wF.setCell ⟨w2.heap.size, 0, none⟩ (.string (txt n))).setCell ⟨w2.heap.size, 1, none⟩ (.int .i64 (t : Int))).setCell ⟨w2.heap.size, 2, none⟩ (.int .i64 (c : Int))).setCell ⟨w2.heap.size, 3, none⟩ (.int .i64 (x : Int))).setCell ⟨w2.heap.size, 4, none⟩ (.string ⟨#[]⟩)) := (((hBB2.alloc hlt _).drew.trans hBF)).set5 (Nat.le_of_lt hlF) (Nat.le_of_lt hbF)
    have hg2 : w2.heap.size < (((((wF.setCell ⟨w2.heap.size, 0, none⟩ (.string (txt n))).setCell ⟨w2.heap.size, 1, none⟩ (.int .i64 (t : Int))).setCell ⟨w2.heap.size, 2, none⟩ (.int .i64 (c : Int))).setCell ⟨w2.heap.size, 3, none⟩ (.int .i64 (x : Int))).setCell ⟨w2.heap.size, 4, none⟩ (.string ⟨#[]⟩)).heap.size := (Array.getElem?_eq_some_iff.1 hk5).1
    have hg3 : b ≠ w2.heap.size := by omega
    have hg4 : w2.heap.size ≠ b := by omega
    generalize (((((wF.setCell ⟨w2.heap.size, 0, none⟩ (.string (txt n))).setCell ⟨w2.heap.size, 1, none⟩ (.int .i64 (t : Int))).setCell ⟨w2.heap.size, 2, none⟩ (.int .i64 (c : Int))).setCell ⟨w2.heap.size, 3, none⟩ (.int .i64 (x : Int))).setCell ⟨w2.heap.size, 4, none⟩ (.string ⟨#[]⟩)) = w5 at *
    clear hQa hQb hRa hRb hNa hS0 hR2 hSF hRF hBF hzF HK2 HZK hla hBB2 z0 z1 z2 z3 z4 fz hq4
    generalize w2.heap.size = g4 at *
    have HG1 := Lib.hid hlF
    have HZ5 := Lib.hid hz5
    have HK5 := Lib.hid hk5
    clear hz5 hk5
    clear hl1 hq3 hblt2 hnb hlF hbF
    go_wp2_with fail
    refine (HZ.out _ hR5).mono ?_
    rintro e w6 ⟨rfl, hR6, hB6⟩
    have hg1 : w.heap.size < g4 := HG1.out
    have hk6 := (hB6.2 g4 hg2 hg4).trans HK5.out
    have hz6 := (hB6.2 w.heap.size (by omega) hn2).trans HZ5.out
    have hBB6 := hB5.trans hB6
    have hl6 : g4 < w6.heap.size := Nat.lt_of_lt_of_le hg2 hB6.size
    have c0 : ∀ W : Cls (fun w' => Below w6.heap.size w6 w'), W.w.cell? ⟨b, 0, none⟩ = some (.string s) := fun W => (hR6.below W.h).c0
    have c1 : ∀ W : Cls (fun w' => Below w6.heap.size w6 w'), W.w.cell? ⟨b, 1, none⟩ = some (.int .i64 (r3.i : Int)) := fun W => (hR6.below W.h).c1
    have y1 : ∀ W : Cls (fun w' => Below w6.heap.size w6 w'), W.w.cell? ⟨g4, 1, none⟩ = some (.int .i64 (t : Int)) := fun W => rr_c1 ((W.h.block g4 hl6).trans hk6)
    have HK6 := Lib.hid hk6
    have HZ6 := Lib.hid hz6
    clear hk6 hz6 hB6 hB5 hR5
    go_wp2_with fail
    refine region_cls (fun w' => Below w6.heap.size w6 w') (by kernel_rfl) (by kernel_rfl) (Below.refl _ _).drew (fun hne => ?_)
    repeat (go_big_quiet_step ((go_at_call 116; rename_i W; have hb := W.h; refine (HD.out _).mono ?_; rintro e wf ⟨hbf, rfl⟩; exact ⟨rfl, ⟨_, hb.trans (hbf.mono hb.size)⟩, rfl⟩)))
    refine wpQuiet_nil ?_
    intro w7 hb7
    have hR7 := hR6.below hb7
    have hk7 := (hb7.block g4 hl6).trans HK6.out
    have hz7 := (hb7.block w.heap.size (by omega)).trans HZ6.out
    have hBB7 := hBB6.below hb7 hlt
    have hm1 : w.heap.size ≠ g4 := by omega
    have hm2 : g4 ≠ w.heap.size := by omega
    have d1 := hR7.c1
    have d2 := hR7.c2
    have f1 := hR7.fz 1
    have f2 := hR7.fz 2
    have y0 := rr_c0 hk7
    have y2 := rr_c2 hk7
    have y3 := rr_c3 hk7
    have y4 := rr_c4 hk7
    have fy := rr_fz hk7
    have z0 := rr_c0 hz7
    have z1 := rr_c1 hz7
    have z2 := rr_c2 hz7
    have z3 := rr_c3 hz7
    have z4 := rr_c4 hz7
    have fz := rr_fz hz7
    have y1' := rr_c1 hk7
    have HK7 := Lib.hid hk7
    have HZ7 := Lib.hid hz7
    clear c0 c1 y1 hk7 hz7 hBB6 hR6
    rcases HC.out with ⟨hb1, rfl⟩ | ⟨hb1, hq1, rfl⟩ | ⟨hb1, rfl, rfl⟩
    · rw [hb1] at d2
      go_wp2_with fail
      refine bodyPost_ret (v := .agg zeroRr) (results_one (a := 2) (t := 128) rfl _ _ ⟨w.heap.size, 0, none⟩ _ rfl (run_loadVar_row _ _ 128 128 zeroRr (0, 0) _ (cells_set5 (heap_far HZ7.out hn2 2 _)) Tryz.underlying128 rfl (by kernel_rfl))) rfl ?_
      rw [← HP.out]
      exact ⟨⟨_, _, _, _, _, rfl⟩, far5 (hR7.setBad true) hn1, (hBB7.setAt 2 _).set5 (Nat.le_refl _) (Nat.le_of_lt hlt)⟩
    · rw [hb1] at d2
      go_wp2_with fail
      refine bodyPost_ret (v := .agg zeroRr) (results_one (a := 2) (t := 128) rfl _ _ ⟨w.heap.size, 0, none⟩ _ rfl (run_loadVar_row _ _ 128 128 zeroRr (0, 0) _ (cells_set5 (heap_far HZ7.out hn2 2 _)) Tryz.underlying128 rfl (by kernel_rfl))) rfl ?_
      rw [← HP.out]
      exact ⟨⟨_, _, _, _, _, rfl⟩, far5 (hR7.setBad true) hn1, (hBB7.setAt 2 _).set5 (Nat.le_refl _) (Nat.le_of_lt hlt)⟩
    · rw [hb1] at d2
      obtain ⟨k, hk⟩ : ∃ k, r3.i + z = k := ⟨_, rfl⟩
      have e1 : (r3.i : Int) + (z : Int) = (k : Int) := by omega
      have hk2 : k ≤ 200000 := by omega
      have HKK := Lib.hid hk
      clear hk
      go_wp2_with fail
      refine bodyPost_ret (v := .agg #[.string (txt n), .int .i64 (t : Int), .int .i64 (c : Int), .int .i64 (x : Int), .string d]) (results_one (a := 2) (t := 128) rfl _ _ ⟨w.heap.size, 0, none⟩ _ rfl (run_loadVar_row _ _ 128 128 #[.string (txt n), .int .i64 (t : Int), .int .i64 (c : Int), .int .i64 (x : Int), .string d] (0, 0) _ (cells_set5 (heap_far (heap_far (heap_far HZ7.out hn2 2 _) hn2 1 _) hm1 4 _)) Tryz.underlying128 rfl (by kernel_rfl))) rfl ?_
      rw [← HP.out, HKK.out]
      exact ⟨⟨_, _, _, _, _, rfl⟩, far5 (heap_far ((hR7.setBad false).setI k) hg3 4 _) hn1, (((hBB7.setAt 2 _).setAt 1 _).setNew (Nat.le_of_lt hg1) (by omega) 4 _).set5 (Nat.le_refl _) (Nat.le_of_lt hlt)⟩
end Go.Proofs.YtolbfeggceemfaaGreatDoor
