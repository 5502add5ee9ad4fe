/-
  The walk of (*wire.reader).question where the name is read. Condition: the text is of at most 100000 bytes, the place within it.
-/
import Derived.Test.YtolbfeggceemfaaGreatDoorG8
namespace Go.Proofs.YtolbfeggceemfaaGreatDoor
open Go.RowKit

set_option maxHeartbeats 2000000 in
set_option maxRecDepth 100000 in
theorem question_ok (s : ByteArray) (b : Nat) (w : World) (i : Nat) (n : List UInt8) (p : Nat) (hs : s.size ≤ 100000) (hi : i ≤ 100000) (hR : RdAt w b s ⟨i, false⟩) (hnm : Rd.name s.data.toList i = some (n, (p : Int))) (hp : p ≤ s.size) :
    Calls Tryz.prog 86 #[.pointer (some ⟨b, 0, none⟩)] w (QP (Rd.tail s.data.toList n p) b s w) := by
  have hC := fun W => compName_calls s i W hs hi
  rw [hnm] at hC
  obtain ⟨o1, ho1⟩ : ∃ o1, Rd.rnum s.data.toList 2 ⟨p, false⟩ = o1 := ⟨_, rfl⟩
  have hi1 : o1.2.i ≤ s.data.toList.length := by rw [← ho1]; exact Rd.rnum_le _ _ _ (by rw [← Lib.size_eq]; exact hp)
  rw [← Lib.size_eq] at hi1
  have hN1 := fun W (hR : RdAt W b s ⟨p, false⟩) => readNum_calls 111 2 (.inl ⟨rfl, rfl⟩) s b W ⟨p, false⟩ hs (by show p ≤ _; omega) hR
  simp only [ho1] at hN1
  obtain ⟨o2, ho2⟩ : ∃ o2, Rd.rnum s.data.toList 2 o1.2 = o2 := ⟨_, rfl⟩
  have hN2 := fun W (hR : RdAt W b s o1.2) => readNum_calls 111 2 (.inl ⟨rfl, rfl⟩) s b W o1.2 hs (by omega) hR
  simp only [ho2] at hN2
  have ht : Rd.tail s.data.toList n p = (⟨n, o1.1, o2.1⟩, ⟨o2.2.i, o2.2.bad || o1.1 == 0⟩) := by
    unfold Rd.tail
    simp only [ho1, ho2]
  rw [ht]
  obtain ⟨t, r1⟩ := o1
  obtain ⟨c, i2, bad2⟩ := o2
  simp only at *
  obtain ⟨y, hy⟩ : ∃ y, (t == 0) = y := ⟨_, rfl⟩
  have hq : ((t : Int) == 0) = y := by rw [← hy]; exact (natbeq t 0).symm
  rw [hy]
  clear hy ht ho1 ho2
  have hlt := hR.lt
  have hn1 : b ≠ w.heap.size := by omega
  have hn2 : w.heap.size ≠ b := by omega
  obtain ⟨w0, hw0⟩ : ∃ w0, w.alloc (.cells #[.string ⟨#[]⟩, .int .i64 0, .int .i64 0] 114) = w0 := ⟨_, rfl⟩
  have hb0 : Below w.heap.size w w0 := by rw [← hw0]; exact (Below.refl _ _).alloc (Nat.le_refl _) _
  have hz0 : w.heap.size < w0.heap.size := by rw [← hw0]; simp
  have hk0 : w0.heap[w.heap.size]? = some (.cells #[.string ⟨#[]⟩, .int .i64 0, .int .i64 0] 114 (0, 0)) := by rw [← hw0]; exact heap_alloc_new w _
  have hRB : ∀ W : Cls (fun w' => Below w0.heap.size w0 w'), RdAt W.w b s ⟨i, false⟩ := fun W => (hR.below hb0).below W.h
  have c0 : ∀ W : Cls (fun w' => Below w0.heap.size w0 w'), W.w.cell? ⟨b, 0, none⟩ = some (.string s) := fun W => (hRB W).c0
  have c1 : ∀ W : Cls (fun w' => Below w0.heap.size w0 w'), W.w.cell? ⟨b, 1, none⟩ = some (.int .i64 (i : Int)) := fun W => (hRB W).c1
  have HRB := Lib.hid hRB
  have HC := Lib.hid hC
  have HK := Lib.hid hk0
  have HW := Lib.hid hw0
  have HN1 := Lib.hid hN1
  have HN2 := Lib.hid hN2
  clear hRB hR hC hk0 hw0 hnm hN1 hN2
  go_enter Tryz.func86, Tryz.ntmps86
  go_wp2_with fail
  rw [HW.out]
  refine region_cls (fun w' => Below w0.heap.size w0 w') (by kernel_rfl) (by kernel_rfl) (Below.refl _ _).drew (fun hne => ?_)
  repeat (go_big_quiet_step ((go_at_call 113; rename_i W; have hb := W.h; refine (HC.out _).mono ?_; rintro e wf ⟨hbf, rfl⟩; exact ⟨rfl, ⟨_, hb.trans (hbf.mono hb.size)⟩, rfl⟩)))
  refine wpQuiet_nil ?_
  intro w2 hb2
  have hR2 := HRB.out ⟨w2, hb2⟩
  have hk2 := (hb2.block _ hz0).trans HK.out
  have hl2 : w.heap.size < w2.heap.size := Nat.lt_of_lt_of_le hz0 hb2.size
  have hB2 : Bar b w w2 := (Bar.of hb0 (Nat.le_of_lt hlt)).below hb2 hlt
  have d2 := hR2.c2
  have f2 := hR2.fz 2
  have d1 := hR2.c1
  have f1 := hR2.fz 1
  have HK2 := Lib.hid hk2
  clear c0 c1 hk2
  go_wp2_with fail
  refine (HN1.out _ ((hR2.setBad false).setI p)).mono ?_
  rintro e w3 ⟨rfl, hR3, hB3⟩
  have hs3 : w2.heap.size ≤ w3.heap.size := by simpa [World.setCell] using hB3.size
  have hk3 : w3.heap[w.heap.size]? = some (.cells #[.string ⟨#[]⟩, .int .i64 0, .int .i64 0] 114 (0, 0)) :=
    (hB3.2 w.heap.size (by simpa [World.setCell] using hl2) hn2).trans (heap_far (heap_far HK2.out hn2 _ _) hn2 _ _)
  have hBB3 : Bar b w w3 := ((hB2.setAt 2 _).setAt 1 _).trans hB3
  have HK3 := Lib.hid hk3
  clear d1 d2 f1 f2 hk3 hR2
  go_wp2_with fail
  refine (HN2.out _ (hR3.below ((Below.refl _ _).alloc (Nat.le_refl _) _))).mono ?_
  rintro e w4 ⟨rfl, hR4, hB4⟩
  have hl3 : w.heap.size < w3.heap.size := by omega
  have hl4 : w3.heap.size < w4.heap.size := Nat.lt_of_lt_of_le (by simp) hB4.size
  have ha1 : b ≠ w3.heap.size := by omega
  have ha2 : w3.heap.size ≠ b := by omega
  have ha3 : w.heap.size ≠ w3.heap.size := by omega
  have ha4 : w3.heap.size ≠ w.heap.size := by omega
  have hy4 := (hB4.2 w3.heap.size (by simp) ha2).trans (heap_alloc_new w3 _)
  have hk4 := (hB4.2 w.heap.size (by simp; omega) hn2).trans ((Lib.alloc_old w3 _ _ hl3).trans HK3.out)
  have hBB4 : Bar b w w4 := (hBB3.alloc hlt _).trans hB4
  have d2 := hR4.c2
  have f2 := hR4.fz 2
  have y0 : w4.cell? ⟨w3.heap.size, 0, none⟩ = some (.string (txt n)) := by rw [Lib.cell_of_heap hy4]; rfl
  have y1 : w4.cell? ⟨w3.heap.size, 1, none⟩ = some (.int .i64 (t : Int)) := by rw [Lib.cell_of_heap hy4]; rfl
  have y2 : w4.cell? ⟨w3.heap.size, 2, none⟩ = some (.int .i64 0) := by rw [Lib.cell_of_heap hy4]; rfl
  have fy : ∀ j : Nat, w4.frozen? ⟨w3.heap.size, j, none⟩ = false := fun j => Lib.frozen_of_heap hy4 j
  have z0 : w4.cell? ⟨w.heap.size, 0, none⟩ = some (.string ⟨#[]⟩) := by rw [Lib.cell_of_heap hk4]; rfl
  have z1 : w4.cell? ⟨w.heap.size, 1, none⟩ = some (.int .i64 0) := by rw [Lib.cell_of_heap hk4]; rfl
  have z2 : w4.cell? ⟨w.heap.size, 2, none⟩ = some (.int .i64 0) := by rw [Lib.cell_of_heap hk4]; rfl
  have fz : ∀ j : Nat, w4.frozen? ⟨w.heap.size, j, none⟩ = false := fun j => Lib.frozen_of_heap hk4 j
  have HK4 := Lib.hid hk4
  have HB := Lib.hid hBB4
  clear hy4 hk4 hB3 hB4 hBB3 hBB4 hB2
  simp only at d2
  cases bad2 with
  | true =>
    go_wp2_with fail
    refine bodyPost_ret (v := .agg #[.string (txt n), .int .i64 (t : Int), .int .i64 (c : Int)]) (results_one (a := 2) (t := 114) rfl _ _ ⟨w.heap.size, 0, none⟩ _ rfl (run_loadVar_row _ _ 114 114 #[.string (txt n), .int .i64 (t : Int), .int .i64 (c : Int)] (0, 0) _ (cells_set3 (heap_far (heap_far HK4.out ha3 2 _) hn2 2 _)) Tryz.underlying114 rfl (by kernel_rfl))) rfl ⟨rfl, ((((hR4.far ha1 2 _).setBad true).far hn1 _ _).far hn1 _ _).far hn1 _ _, ?_⟩
    exact (((((HB.out.setNew (Nat.le_of_lt hl3) (by omega) 2 _).setAt 2 _).setNew (Nat.le_refl _) (Nat.le_of_lt hlt) 0 _).setNew (Nat.le_refl _) (Nat.le_of_lt hlt) 1 _).setNew (Nat.le_refl _) (Nat.le_of_lt hlt) 2 _)
  | false =>
    go_wp2_with fail
    refine bodyPost_ret (v := .agg #[.string (txt n), .int .i64 (t : Int), .int .i64 (c : Int)]) (results_one (a := 2) (t := 114) rfl _ _ ⟨w.heap.size, 0, none⟩ _ rfl (run_loadVar_row _ _ 114 114 #[.string (txt n), .int .i64 (t : Int), .int .i64 (c : Int)] (0, 0) _ (cells_set3 (heap_far (heap_far HK4.out ha3 2 _) hn2 2 _)) Tryz.underlying114 rfl (by kernel_rfl))) rfl ⟨rfl, ((((hR4.far ha1 2 _).setBad y).far hn1 _ _).far hn1 _ _).far hn1 _ _, ?_⟩
    exact (((((HB.out.setNew (Nat.le_of_lt hl3) (by omega) 2 _).setAt 2 _).setNew (Nat.le_refl _) (Nat.le_of_lt hlt) 0 _).setNew (Nat.le_refl _) (Nat.le_of_lt hlt) 1 _).setNew (Nat.le_refl _) (Nat.le_of_lt hlt) 2 _)

/-- (*wire.reader).question. -/
theorem question_calls (s : ByteArray) (b : Nat) (w : World) (r : Rd.R) (hs : s.size ≤ 100000) (hi : r.i ≤ s.size) (hR : RdAt w b s r) :
    Calls Tryz.prog 86 #[.pointer (some ⟨b, 0, none⟩)] w (QP (Rd.question s.data.toList r) b s w) := by
  obtain ⟨i, bad⟩ := r
  unfold Rd.question
  simp only at *
  cases bad with
  | true => exact question_bad s b w i true hs (by omega) hR (fun h => by cases h)
  | false =>
    rw [if_neg (by decide)]
    cases hn : Rd.name s.data.toList i with
    | none => exact question_bad s b w i false hs (by omega) hR (fun _ => hn)
    | some o =>
      obtain ⟨n, p⟩ := o
      have h1 := Rd.name_range hn
      rw [← Lib.size_eq] at h1
      simp only at h1
      refine question_ok s b w i n p.toNat hs (by omega) hR ?_ (by omega)
      rw [hn, Int.toNat_of_nonneg h1.1]
end Go.Proofs.YtolbfeggceemfaaGreatDoor
