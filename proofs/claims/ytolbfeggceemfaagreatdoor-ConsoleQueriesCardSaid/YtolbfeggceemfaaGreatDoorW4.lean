/-
  The walks of head.bit, head.may, head.Put at a question's header. Condition: the id is of 16 bits.
-/
import Derived.Test.YtolbfeggceemfaaGreatDoorW3
namespace Go.Proofs.YtolbfeggceemfaaGreatDoor
open Go.RowKit

set_option maxHeartbeats 1000000 in
theorem bit_calls (k : Int) (w : World) : Calls Tryz.prog 150 #[.bool false, .int .i64 k] w fun e w' => e = .returned (.int .i64 0) ∧ w = w' := by
  go_enter Tryz.func150, Tryz.ntmps150
  go_wp2
  go_ret
  exact ⟨rfl, rfl⟩

def headCells (id : Nat) : Array Value := #[.int .i64 (id : Int), .bool false, .int .i64 0, .bool false, .bool false, .bool false, .bool false, .int .i64 0, .int .i64 0]
theorem Tryz.idx99_0 (a b c d : Value) (w : World) : (Instr.index 99 (.agg #[a, b, c, d]) (.int .i64 0)).run Tryz.prog w = .ok a w := by kernel_rfl
theorem Tryz.idx99_1 (a b c d : Value) (w : World) : (Instr.index 99 (.agg #[a, b, c, d]) (.int .i64 1)).run Tryz.prog w = .ok b w := by kernel_rfl
theorem Tryz.idx99_2 (a b c d : Value) (w : World) : (Instr.index 99 (.agg #[a, b, c, d]) (.int .i64 2)).run Tryz.prog w = .ok c w := by kernel_rfl
theorem Tryz.idx99_3 (a b c d : Value) (w : World) : (Instr.index 99 (.agg #[a, b, c, d]) (.int .i64 3)).run Tryz.prog w = .ok d w := by kernel_rfl

set_option maxHeartbeats 2000000 in
set_option maxRecDepth 100000 in
theorem headMay_calls (id b : Nat) (w : World) (hid : id ≤ 65535) (hk : w.heap[b]? = some (.cells (headCells id) 92 (0, 0))) :
    Calls Tryz.prog 149 #[.pointer (some ⟨b, 0, none⟩), .agg #[.int .i64 1, .int .i64 0, .int .i64 0, .int .i64 1]] w fun e w' => e = .returned (.bool true) ∧ Below w.heap.size w w' := by
  have hbl : b < w.heap.size := (Array.getElem?_eq_some_iff.1 hk).1
  have c0 : w.cell? ⟨b, 0, none⟩ = some (.int .i64 (id : Int)) := by rw [Lib.cell_of_heap hk]; rfl
  have c2 : w.cell? ⟨b, 2, none⟩ = some (.int .i64 0) := by rw [Lib.cell_of_heap hk]; rfl
  have c7 : w.cell? ⟨b, 7, none⟩ = some (.int .i64 0) := by rw [Lib.cell_of_heap hk]; rfl
  have c8 : w.cell? ⟨b, 8, none⟩ = some (.int .i64 0) := by rw [Lib.cell_of_heap hk]; rfl
  have i0 := Tryz.idx99_0
  have i1 := Tryz.idx99_1
  have i2 := Tryz.idx99_2
  have i3 := Tryz.idx99_3
  have q : (id : Int) ≤ 65535 := by omega
  clear hk
  go_enter Tryz.func149, Tryz.ntmps149
  go_wp2
  refine wp_loop_rounds 5 ?_
  rw [rounds_succ]
  go_wp2
  rw [rounds_succ]
  go_wp2
  rw [rounds_succ]
  go_wp2
  rw [rounds_succ]
  go_wp2
  rw [rounds_succ]
  go_wp2
  go_ret
  exact ⟨rfl, (Below.refl _ w).alloc (Nat.le_refl _) _⟩

namespace Ms
/-- A query's header: one question, one record behind. -/
def hdr (id : Nat) : List UInt8 := Oc.p16 id ++ (Oc.p16 0 ++ (Oc.p16 1 ++ (Oc.p16 0 ++ (Oc.p16 0 ++ Oc.p16 1))))
end Ms
theorem or00 : bits BinOp.or IntKind.i64 0 0 = 0 := by decide

set_option maxHeartbeats 4000000 in
set_option maxRecDepth 100000 in
theorem headPut_calls (id : Nat) (w : World) (hid : id ≤ 65535) :
    Calls Tryz.prog 130 #[.agg (headCells id), .agg #[.int .i64 1, .int .i64 0, .int .i64 0, .int .i64 1]] w fun e w' => e = .returned (.tuple #[.string (txt (Ms.hdr id)), .int .i64 0]) ∧ Below w.heap.size w w' := by
  have i0 := Tryz.idx99_0
  have i1 := Tryz.idx99_1
  have i2 := Tryz.idx99_2
  have i3 := Tryz.idx99_3
  have ho := or00
  have hM := fun b W hk => headMay_calls id b W hid hk
  have hB := fun k W => bit_calls k W
  have hP := fun W => put16_calls id W (by omega)
  have hP0 := fun W => put16_calls 0 W (by omega)
  have hP1 := fun W => put16_calls 1 W (by omega)
  have hres : txt (Ms.hdr id) = txt (Oc.p16 id) ++ txt (Oc.p16 0) ++ txt (Oc.p16 1) ++ txt (Oc.p16 0) ++ txt (Oc.p16 0) ++ txt (Oc.p16 1) := by
    rw [txt_append, txt_append, txt_append, txt_append, txt_append, Ms.hdr]
    simp only [List.append_assoc]
  have hsA : (txt (Oc.p16 id)).size = 2 := txt_size _
  have hsZ : (txt (Oc.p16 0)).size = 2 := txt_size _
  have hsO : (txt (Oc.p16 1)).size = 2 := txt_size _
  generalize txt (Oc.p16 id) = A at *
  generalize txt (Oc.p16 0) = Z at *
  generalize txt (Oc.p16 1) = O at *
  rw [hres]
  clear hres
  have HM := Lib.hid hM
  have HB := Lib.hid hB
  have HP := Lib.hid hP
  have HP0 := Lib.hid hP0
  have HP1 := Lib.hid hP1
  clear hM hB hP hP0 hP1
  unfold headCells at *
  go_enter Tryz.func130, Tryz.ntmps130
  go_wp2_with fail
  have hk1 : ((w.alloc (.cells #[.int .i64 (id : Int), .bool false, .int .i64 0, .bool false, .bool false, .bool false, .bool false, .int .i64 0, .int .i64 0] 92)).alloc (.cells #[.int .i64 1, .int .i64 0, .int .i64 0, .int .i64 1] 99)).heap[w.heap.size]? = some (.cells (headCells id) 92 (0, 0)) := by
    rw [Lib.alloc_old _ _ _ (by simp)]; exact heap_alloc_new w _
  refine (HM.out _ _ hk1).mono ?_
  rintro e w1 ⟨rfl, hb1⟩
  have hkh := (hb1.block w.heap.size (by simp; omega)).trans hk1
  clear hk1
  have hsz1 : w.heap.size < w1.heap.size := (Array.getElem?_eq_some_iff.1 hkh).1
  have hb01 : Below w.heap.size w w1 := (((Below.refl _ w).alloc (Nat.le_refl _) _).alloc (by simp) _).trans (hb1.mono (by simp; omega))
  have hcell : ∀ W : Cls (fun w' => Below w1.heap.size w1 w'), ∀ j : Nat, W.w.cell? ⟨w.heap.size, j, none⟩ = (headCells id)[j]? := fun W j => by
    rw [W.h.cell (p := ⟨w.heap.size, j, none⟩) hsz1, Lib.cell_of_heap hkh]
  have d1 : ∀ W : Cls (fun w' => Below w1.heap.size w1 w'), W.w.cell? ⟨w.heap.size, 1, none⟩ = some (.bool false) := fun W => hcell W 1
  have d2 : ∀ W : Cls (fun w' => Below w1.heap.size w1 w'), W.w.cell? ⟨w.heap.size, 2, none⟩ = some (.int .i64 0) := fun W => hcell W 2
  have d3 : ∀ W : Cls (fun w' => Below w1.heap.size w1 w'), W.w.cell? ⟨w.heap.size, 3, none⟩ = some (.bool false) := fun W => hcell W 3
  have d4 : ∀ W : Cls (fun w' => Below w1.heap.size w1 w'), W.w.cell? ⟨w.heap.size, 4, none⟩ = some (.bool false) := fun W => hcell W 4
  have d5 : ∀ W : Cls (fun w' => Below w1.heap.size w1 w'), W.w.cell? ⟨w.heap.size, 5, none⟩ = some (.bool false) := fun W => hcell W 5
  have d6 : ∀ W : Cls (fun w' => Below w1.heap.size w1 w'), W.w.cell? ⟨w.heap.size, 6, none⟩ = some (.bool false) := fun W => hcell W 6
  have d7 : ∀ W : Cls (fun w' => Below w1.heap.size w1 w'), W.w.cell? ⟨w.heap.size, 7, none⟩ = some (.int .i64 0) := fun W => hcell W 7
  have d8 : ∀ W : Cls (fun w' => Below w1.heap.size w1 w'), W.w.cell? ⟨w.heap.size, 8, none⟩ = some (.int .i64 0) := fun W => hcell W 8
  have HCELL := Lib.hid hcell
  clear hcell
  go_wp2_with fail
  refine region_cls (fun w' => Below w1.heap.size w1 w') (by kernel_rfl) (by kernel_rfl) (Below.refl _ _).drew (fun hne => ?_)
  repeat (go_big_quiet_step ((go_at_call 150; rename_i W; have hb := W.h; refine (HB.out _ _).mono ?_; rintro e wf ⟨rfl, rfl⟩; exact ⟨rfl, ⟨_, hb⟩, rfl⟩)))
  refine wpQuiet_nil ?_
  intro w2 hb2
  have e0 : w2.cell? ⟨w.heap.size, 0, none⟩ = some (.int .i64 (id : Int)) := HCELL.out ⟨w2, hb2⟩ 0
  clear d1 d2 d3 d4 d5 d6 d7 d8
  have hk3 : w1.heap[w.heap.size + 1]? = some (.cells #[.int .i64 1, .int .i64 0, .int .i64 0, .int .i64 1] 99 (0, 0)) := by
    rw [hb1.block _ (by simp)]
    have := heap_alloc_new (w.alloc (.cells #[.int .i64 (id : Int), .bool false, .int .i64 0, .bool false, .bool false, .bool false, .bool false, .int .i64 0, .int .i64 0] 92)) (.cells #[.int .i64 1, .int .i64 0, .int .i64 0, .int .i64 1] 99)
    have e : (w.alloc (.cells #[.int .i64 (id : Int), .bool false, .int .i64 0, .bool false, .bool false, .bool false, .bool false, .int .i64 0, .int .i64 0] 92)).heap.size = w.heap.size + 1 := by simp
    rw [e] at this
    exact this
  have hl3 : w.heap.size + 1 < w1.heap.size := (Array.getElem?_eq_some_iff.1 hk3).1
  have H3 := Lib.hid hk3
  clear hk3
  go_wp2_with fail
  refine (HP.out _).mono ?_
  rintro e w3 ⟨rfl, hb3⟩
  have hb13 := hb2.trans (hb3.mono hb2.size)
  go_wp2_with fail
  refine (HP0.out _).mono ?_
  rintro e w4 ⟨rfl, hb4⟩
  have hb14 := hb13.trans (hb4.mono hb13.size)
  have hk4 := (hb14.block _ hl3).trans H3.out
  have g0 : w4.cell? ⟨w.heap.size + 1, 0, none⟩ = some (.int .i64 1) := by rw [Lib.cell_of_heap hk4]; rfl
  have g1 : w4.cell? ⟨w.heap.size + 1, 1, none⟩ = some (.int .i64 0) := by rw [Lib.cell_of_heap hk4]; rfl
  have g2 : w4.cell? ⟨w.heap.size + 1, 2, none⟩ = some (.int .i64 0) := by rw [Lib.cell_of_heap hk4]; rfl
  have g3 : w4.cell? ⟨w.heap.size + 1, 3, none⟩ = some (.int .i64 1) := by rw [Lib.cell_of_heap hk4]; rfl
  clear hk4 e0
  go_wp2_with fail
  clear g0 g1 g2 g3
  refine wp_loop_rounds 5 ?_
  rw [rounds_succ]
  go_wp2_with fail
  refine (HP1.out _).mono ?_
  rintro e w5 ⟨rfl, hb5⟩
  have hb15 := hb14.trans (hb5.mono hb14.size)
  go_wp2_with fail
  rw [rounds_succ]
  go_wp2_with fail
  refine (HP0.out _).mono ?_
  rintro e w6 ⟨rfl, hb6⟩
  have hb16 := hb15.trans (hb6.mono hb15.size)
  go_wp2_with fail
  rw [rounds_succ]
  go_wp2_with fail
  refine (HP0.out _).mono ?_
  rintro e w7 ⟨rfl, hb7⟩
  have hb17 := hb16.trans (hb7.mono hb16.size)
  go_wp2_with fail
  rw [rounds_succ]
  go_wp2_with fail
  refine (HP1.out _).mono ?_
  rintro e w8 ⟨rfl, hb8⟩
  have hb18 := hb17.trans (hb8.mono hb17.size)
  go_wp2_with fail
  rw [rounds_succ]
  go_wp2_with fail
  go_ret2
  exact ⟨rfl, hb01.trans (hb18.mono (by omega))⟩
end Go.Proofs.YtolbfeggceemfaaGreatDoor
