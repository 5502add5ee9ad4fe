/-
  The walks of wire.in, wire.may, wire.fits at a query with its OPT record; (*wire.writer).name. Condition: the name is one, the type is of 16 bits.
-/
import Derived.Test.YtolbfeggceemfaaGreatDoorW4
namespace Go.Proofs.YtolbfeggceemfaaGreatDoor
open Go.RowKit

set_option maxHeartbeats 1000000 in
theorem in_calls (x a b : Int) (w : World) (h1 : a ≤ x) (h2 : x ≤ b) : Calls Tryz.prog 151 #[.int .i64 x, .int .i64 a, .int .i64 b] w fun e w' => e = .returned (.bool true) ∧ w = w' := by
  have q1 : (a ≤ x) = True := by simp [h1]
  have q2 : (x ≤ b) = True := by simp [h2]
  clear h1 h2
  go_enter Tryz.func151, Tryz.ntmps151
  go_wp2
  go_ret
  exact ⟨rfl, rfl⟩

set_option maxHeartbeats 2000000 in
set_option maxRecDepth 100000 in
theorem dataOpt_calls (s : ByteArray) (w : World) (h : s.size ≤ 65535) : Calls Tryz.prog 142 #[.int .i64 41, .string s] w fun e w' => e = .returned (.bool true) ∧ w = w' := by
  have q : ((65535 : Int) < (s.size : Int)) = False := by simp; omega
  go_enter Tryz.func142, Tryz.ntmps142
  go_wp2
  go_ret
  exact ⟨rfl, rfl⟩

/-- The OPT record of a query, with this data. -/
def optCells (d : ByteArray) : Array Value := #[.string ⟨#[0]⟩, .int .i64 41, .int .i64 1232, .int .i64 0, .string d]
/-- A query's question. -/
def qCells (n : List UInt8) (t : Nat) : Array Value := #[.string (txt n), .int .i64 (t : Int), .int .i64 1]

theorem mayName_calls (n : List UInt8) (ls : List (List UInt8)) (w : World) (h : Nm.labels n = some ls) : Calls Tryz.prog 82 #[.string (txt n)] w fun e w' => e = .returned (.bool true) ∧ Below w.heap.size w w' := by
  have hl := (Nm.labels_some h).2.2
  have := may_calls (txt n) w (by rw [txt_size]; omega)
  rw [txt_data, h] at this
  exact this

set_option maxHeartbeats 2000000 in
set_option maxRecDepth 100000 in
theorem mayRr_calls (a : Nat) (d : ByteArray) (w : World) (hd : d.size ≤ 65535) (hal : a < w.heap.size) (hk : ∀ (j : Nat) x, (optCells d)[j]? = some x → w.cell? ⟨a, j, none⟩ = some x) :
    Calls Tryz.prog 152 #[.pointer (some ⟨a, 0, none⟩)] w fun e w' => e = .returned (.bool true) ∧ Below w.heap.size w w' := by
  have hcell : ∀ W : Cls (fun w' => Below w.heap.size w w'), ∀ (j : Nat) x, (optCells d)[j]? = some x → W.w.cell? ⟨a, j, none⟩ = some x := fun W j x hj => by
    rw [W.h.cell (p := ⟨a, j, none⟩) hal]; exact hk j x hj
  have d0 : ∀ W : Cls (fun w' => Below w.heap.size w w'), W.w.cell? ⟨a, 0, none⟩ = some (.string ⟨#[0]⟩) := fun W => hcell W 0 _ rfl
  have d1 : ∀ W : Cls (fun w' => Below w.heap.size w w'), W.w.cell? ⟨a, 1, none⟩ = some (.int .i64 41) := fun W => hcell W 1 _ rfl
  have d2 : ∀ W : Cls (fun w' => Below w.heap.size w w'), W.w.cell? ⟨a, 2, none⟩ = some (.int .i64 1232) := fun W => hcell W 2 _ rfl
  have d3 : ∀ W : Cls (fun w' => Below w.heap.size w w'), W.w.cell? ⟨a, 3, none⟩ = some (.int .i64 0) := fun W => hcell W 3 _ rfl
  have d4 : ∀ W : Cls (fun w' => Below w.heap.size w w'), W.w.cell? ⟨a, 4, none⟩ = some (.string d) := fun W => hcell W 4 _ rfl
  clear hcell hk
  go_enter Tryz.func152, Tryz.ntmps152
  go_wp2_with fail
  refine region_cls (fun w' => Below w.heap.size w w') (by kernel_rfl) (by kernel_rfl) (Below.refl _ _).drew (fun hne => ?_)
  repeat (go_big_quiet_step (first
    | (go_at_call 82; rename_i W; have hb := W.h; refine (mayName_calls [0] [] _ rfl).mono ?_; rintro e wf ⟨rfl, hbf⟩; exact ⟨rfl, ⟨_, hb.trans (hbf.mono hb.size)⟩, rfl⟩)
    | (go_at_call 151; rename_i W; have hb := W.h; refine (in_calls _ _ _ _ (by decide) (by decide)).mono ?_; rintro e wf ⟨rfl, rfl⟩; exact ⟨rfl, ⟨_, hb⟩, rfl⟩)
    | (go_at_call 142; rename_i W; have hb := W.h; refine (dataOpt_calls d _ hd).mono ?_; rintro e wf ⟨rfl, rfl⟩; exact ⟨rfl, ⟨_, hb⟩, rfl⟩)))
  refine wpQuiet_nil ?_
  intro w2 hb2
  clear d0 d1 d2 d3 d4
  go_wp2
  go_ret
  exact ⟨rfl, hb2⟩

/-- A query as a message: its cells. -/
def msgCells (id q cq : Nat) (ar : Value) : Array Value := #[.int .i64 (id : Int), .bool false, .int .i64 0, .bool false, .bool false, .bool false, .bool false, .int .i64 0, .int .i64 0, .slice (some ⟨q, 0, none⟩) 1 cq, .slice none 0 0, .slice none 0 0, ar]

theorem Tryz.idx176_0 (a b c : Value) (w : World) : (Instr.index 176 (.agg #[a, b, c]) (.int .i64 0)).run Tryz.prog w = .ok a w := by kernel_rfl
theorem Tryz.idx176_1 (a b c : Value) (w : World) : (Instr.index 176 (.agg #[a, b, c]) (.int .i64 1)).run Tryz.prog w = .ok b w := by kernel_rfl
theorem Tryz.idx176_2 (a b c : Value) (w : World) : (Instr.index 176 (.agg #[a, b, c]) (.int .i64 2)).run Tryz.prog w = .ok c w := by kernel_rfl

set_option maxHeartbeats 4000000 in
set_option maxRecDepth 100000 in
theorem fits_calls (b id q cq a ca t : Nat) (n : List UInt8) (ls : List (List UInt8)) (d : ByteArray) (w : World) (hn : Nm.labels n = some ls) (ht : 1 ≤ t) (ht2 : t ≤ 65535) (hd : d.size ≤ 65535)
    (hm : w.heap[b]? = some (.cells (msgCells id q cq (.slice (some ⟨a, 0, none⟩) 1 ca)) 96 (0, 0))) (hq : ∀ (j : Nat) x, (qCells n t)[j]? = some x → w.cell? ⟨q, j, none⟩ = some x) (hal : a < w.heap.size) (ha : ∀ (j : Nat) x, (optCells d)[j]? = some x → w.cell? ⟨a, j, none⟩ = some x) :
    Calls Tryz.prog 131 #[.pointer (some ⟨b, 0, none⟩)] w fun e w' => e = .returned (.bool true) ∧ Below w.heap.size w w' := by
  have hbl : b < w.heap.size := (Array.getElem?_eq_some_iff.1 hm).1
  have m9 : w.cell? ⟨b, 9, none⟩ = some (.slice (some ⟨q, 0, none⟩) 1 cq) := by rw [Lib.cell_of_heap hm]; rfl
  have q0 : w.cell? ⟨q, 0, none⟩ = some (.string (txt n)) := hq 0 _ rfl
  have q1 : w.cell? ⟨q, 1, none⟩ = some (.int .i64 (t : Int)) := hq 1 _ rfl
  have q2 : w.cell? ⟨q, 2, none⟩ = some (.int .i64 1) := hq 2 _ rfl
  have HM := Lib.hid hm
  have HA := Lib.hid ha
  have HQ := Lib.hid hq
  clear hm ha hq
  go_enter Tryz.func131, Tryz.ntmps131
  have HN := Lib.hid (fun W => mayName_calls n ls W hn)
  go_wp2_with fail
  refine wp_loop_rounds 2 ?_
  rw [rounds_succ]
  go_wp2_with fail
  refine (HN.out _).mono ?_
  rintro e w1 ⟨rfl, hb1⟩
  have hk1 := (hb1.block w.heap.size (by simp)).trans (heap_alloc_new w (.cells #[.string (txt n), .int .i64 (t : Int), .int .i64 1] 114))
  have e1 : w1.cell? ⟨w.heap.size, 1, none⟩ = some (.int .i64 (t : Int)) := by rw [Lib.cell_of_heap hk1]; rfl
  have e2 : w1.cell? ⟨w.heap.size, 2, none⟩ = some (.int .i64 1) := by rw [Lib.cell_of_heap hk1]; rfl
  have hb01 : Below w.heap.size w w1 := ((Below.refl _ w).alloc (Nat.le_refl _) _).trans (hb1.mono (by simp))
  have hm1 := (hb01.block b hbl).trans HM.out
  have f9 : w1.cell? ⟨b, 10, none⟩ = some (.slice none 0 0) := by rw [Lib.cell_of_heap hm1]; rfl
  have f10 : w1.cell? ⟨b, 11, none⟩ = some (.slice none 0 0) := by rw [Lib.cell_of_heap hm1]; rfl
  have f11 : w1.cell? ⟨b, 12, none⟩ = some (.slice (some ⟨a, 0, none⟩) 1 ca) := by rw [Lib.cell_of_heap hm1]; rfl
  clear hk1 hm1 q0 q1 q2 m9
  go_wp2_with (go_at_call 151; refine (in_calls _ _ _ _ (by omega) (by omega)).mono ?_; rintro e wf ⟨rfl, rfl⟩)
  rw [rounds_succ]
  go_wp2_with fail
  have g9 : ∀ W : Cls (fun w' => ∃ k, w' = w1.drewN k), W.w.cell? ⟨b, 10, none⟩ = some (.slice none 0 0) := fun W => by obtain ⟨k, hk⟩ := W.h; rw [hk]; exact f9
  have g10 : ∀ W : Cls (fun w' => ∃ k, w' = w1.drewN k), W.w.cell? ⟨b, 11, none⟩ = some (.slice none 0 0) := fun W => by obtain ⟨k, hk⟩ := W.h; rw [hk]; exact f10
  have g11 : ∀ W : Cls (fun w' => ∃ k, w' = w1.drewN k), W.w.cell? ⟨b, 12, none⟩ = some (.slice (some ⟨a, 0, none⟩) 1 ca) := fun W => by obtain ⟨k, hk⟩ := W.h; rw [hk]; exact f11
  refine region_cls (fun w' => ∃ k, w' = w1.drewN k) (by kernel_rfl) (by kernel_rfl) ⟨1, rfl⟩ (fun hne => ?_)
  repeat (go_big_quiet_step (fail))
  refine wpQuiet_nil ?_
  rintro w2 ⟨k, rfl⟩
  clear g9 g10 g11 f9 f10 f11 e1 e2
  have ix0 := Tryz.idx176_0
  have ix1 := Tryz.idx176_1
  have ix2 := Tryz.idx176_2
  have hb2 : Below w.heap.size w (w1.drewN k) := below_drewN' hb01 k
  have ha2 : ∀ (j : Nat) x, (optCells d)[j]? = some x → (w1.drewN k).cell? ⟨a, j, none⟩ = some x := fun j x hj => (hb2.cell (p := ⟨a, j, none⟩) hal).trans (HA.out j x hj)
  have HA2 := Lib.hid ha2
  obtain ⟨w2, hw2⟩ : ∃ w2, w1.drewN k = w2 := ⟨_, rfl⟩
  rw [hw2] at hb2 HA2 ⊢
  clear ha2 hw2
  go_wp2_with fail
  refine wp_loop_rounds 4 ?_
  rw [rounds_succ]
  go_wp2_with fail
  refine wp_loop_rounds 1 ?_
  rw [rounds_succ]
  go_wp2_with fail
  rw [rounds_succ]
  go_wp2_with fail
  refine wp_loop_rounds 1 ?_
  rw [rounds_succ]
  go_wp2_with fail
  rw [rounds_succ]
  go_wp2_with fail
  refine wp_loop_rounds 2 ?_
  rw [rounds_succ]
  go_wp2_with fail
  refine (mayRr_calls a d _ hd (by have := hb2.size; omega) HA2.out).mono ?_
  rintro e w3 ⟨rfl, hb3⟩
  go_wp2_with fail
  rw [rounds_succ]
  go_wp2_with fail
  rw [rounds_succ]
  go_wp2_with fail
  go_ret
  exact ⟨rfl, hb2.trans (hb3.mono hb2.size)⟩

set_option maxHeartbeats 2000000 in
set_option maxRecDepth 100000 in
theorem wwName_any (w : World) (r c b t k : Nat) (n bs : List UInt8) (hW : WwAt w r c b bs) (hlen : bs.length + n.length + 4 ≤ 4096) (ht : t ≤ 65535) (hk16 : k ≤ 65535)
    (hN : Calls Tryz.prog 154 #[.pointer (some ⟨c, 0, none⟩), .string (txt n)] w fun e w' => e = .returned (.int .i64 0) ∧ CwAt w' r c (bs ++ n) ∧ Below r w w' ∧ (∀ k o, w.heap[k]? = some o → k ≠ r → k ≠ c → (∀ d fz, o ≠ .cells d 5 fz) → w'.heap[k]? = some o)) :
    Calls Tryz.prog 134 #[.pointer (some ⟨b, 0, none⟩), .string (txt n), .int .i64 (t : Int), .int .i64 (k : Int)] w fun e w' => e = .returned (.tuple #[]) ∧ WwAt w' r c b (bs ++ (n ++ (Oc.p16 t ++ Oc.p16 k))) ∧ Below r w w' ∧ (∀ k o, w.heap[k]? = some o → k ≠ r → k ≠ c → k ≠ b → (∀ d fz, o ≠ .cells d 5 fz) → w'.heap[k]? = some o) := by
  obtain ⟨hC, hcb, hk⟩ := hW
  have hrc := hC.1
  have k0 : w.cell? ⟨b, 0, none⟩ = some (.pointer (some ⟨c, 0, none⟩)) := by rw [Lib.cell_of_heap hk]; rfl
  have HK := Lib.hid hk
  have hP := fun W => put16_calls t W (by omega)
  have hP2 := fun W => put16_calls k W (by omega)
  have hcat : txt (Oc.p16 t) ++ txt (Oc.p16 k) = txt (Oc.p16 t ++ Oc.p16 k) := txt_append _ _
  have hpl : (Oc.p16 t ++ Oc.p16 k).length = 4 := rfl
  have hsA : (txt (Oc.p16 t)).size = 2 := txt_size _
  have hsB : (txt (Oc.p16 k)).size = 2 := txt_size _
  generalize txt (Oc.p16 t) = A at *
  generalize txt (Oc.p16 k) = B at *
  generalize Oc.p16 t ++ Oc.p16 k = pp at *
  have HP := Lib.hid hP
  have HP2 := Lib.hid hP2
  have HCT := Lib.hid hcat
  have HPL := Lib.hid hpl
  clear hk hP hP2 hcat hpl
  go_enter Tryz.func134, Tryz.ntmps134
  go_wp2_with fail
  refine hN.mono ?_
  rintro e w1 ⟨rfl, hC1, hb1, hfr⟩
  have hk1 := hfr b _ HK.out (by omega) (by omega) (fun d fz e => by cases e)
  have HFR := Lib.hid hfr
  have k1 : w1.cell? ⟨b, 1, none⟩ = some (.bool false) := by rw [Lib.cell_of_heap hk1]; rfl
  have f1 : w1.frozen? ⟨b, 1, none⟩ = false := Lib.frozen_of_heap hk1 1
  have HK1 := Lib.hid hk1
  clear hk1 k0 hfr
  go_wp2_with fail
  have hW2 : WwAt (w1.setCell ⟨b, 1, none⟩ (.bool false)) r c b (bs ++ n) := by
    obtain ⟨hrc, v, hkc, hown⟩ := hC1
    have hne : v.ownBlock ≠ some b := fun e => by
      obtain ⟨d, fz, hd⟩ := own_kind hown b e
      rw [HK1.out] at hd
      cases hd
    exact ⟨⟨hrc, v, (Below.heap_setCell _ _ _ _ (by show c ≠ b; omega)).trans hkc, ownsRow_setCell_other hown hne _⟩, hcb, Lib.heap_setCell_same HK1.out _⟩
  have HF2 : Aside (∀ k o, w.heap[k]? = some o → k ≠ r → k ≠ c → k ≠ b → (∀ d fz, o ≠ .cells d 5 fz) → (w1.setCell ⟨b, 1, none⟩ (.bool false)).heap[k]? = some o) := fun k o hk hkr hkc hkb ho => (Below.heap_setCell _ _ _ _ hkb).trans (HFR.out k o hk hkr hkc ho)
  have hb2 : Below r w (w1.setCell ⟨b, 1, none⟩ (.bool false)) := hb1.setCell (p := ⟨b, 1, none⟩) (by show r ≤ b; omega) _
  obtain ⟨w2, hw2⟩ : ∃ w2, w1.setCell ⟨b, 1, none⟩ (.bool false) = w2 := ⟨_, rfl⟩
  rw [hw2] at hW2 hb2 HF2 ⊢
  clear hw2 k1 f1
  refine (HP.out _).mono ?_
  rintro e w3 ⟨rfl, hb3⟩
  go_wp2_with fail
  refine (HP2.out _).mono ?_
  rintro e w4 ⟨rfl, hb4⟩
  have hW4 := (hW2.below hb3 (Nat.le_refl _)).below hb4 (Nat.le_refl _)
  have hrw : r ≤ w2.heap.size := by have := hW2.lt; omega
  have hb24 := (hb2.trans (hb3.mono hrw)).trans (hb4.mono (Nat.le_trans hrw hb3.size))
  go_wp2_with fail
  rw [HCT.out]
  refine (wwRaw_calls w4 r c b (bs ++ n) (txt pp) hW4 (by rw [txt_size, HPL.out, List.length_append]; omega)).mono ?_
  rintro e w5 ⟨rfl, hW5, hb5, hf5⟩
  have HF5 := Lib.hid hf5
  clear hf5
  go_wp2
  go_end0
  rw [txt_data, List.append_assoc] at hW5
  refine ⟨rfl, hW5, hb24.trans (hb5.mono (by omega)), fun j o hj hjr hjc hjb ho => ?_⟩
  have h2 := HF2.out j o hj hjr hjc hjb ho
  have h3 := (hb3.block j (Array.getElem?_eq_some_iff.1 h2).1).trans h2
  have h4 := (hb4.block j (Array.getElem?_eq_some_iff.1 h3).1).trans h3
  exact HF5.out j o h4 hjc hjb ho

theorem wwName_first (w : World) (r c b t k : Nat) (n bs : List UInt8) (ls : List (List UInt8)) (hW : WwAt w r c b bs) (hM : MapIs w r []) (hls : Nm.labels n = some ls) (hlen : bs.length + n.length + 4 ≤ 4096) (ht : t ≤ 65535) (hk16 : k ≤ 65535) :
    Calls Tryz.prog 134 #[.pointer (some ⟨b, 0, none⟩), .string (txt n), .int .i64 (t : Int), .int .i64 (k : Int)] w fun e w' => e = .returned (.tuple #[]) ∧ WwAt w' r c b (bs ++ (n ++ (Oc.p16 t ++ Oc.p16 k))) ∧ Below r w w' ∧ (∀ k o, w.heap[k]? = some o → k ≠ r → k ≠ c → k ≠ b → (∀ d fz, o ≠ .cells d 5 fz) → w'.heap[k]? = some o) := by
  exact wwName_any w r c b t k n bs hW hlen ht hk16 (cwName_calls w r c n ls bs hW.1 hM hls (by omega))
theorem wwName_root (w : World) (r c b t k : Nat) (bs : List UInt8) (hW : WwAt w r c b bs) (hlen : bs.length + 5 ≤ 4096) (ht : t ≤ 65535) (hk16 : k ≤ 65535) :
    Calls Tryz.prog 134 #[.pointer (some ⟨b, 0, none⟩), .string (txt [0]), .int .i64 (t : Int), .int .i64 (k : Int)] w fun e w' => e = .returned (.tuple #[]) ∧ WwAt w' r c b (bs ++ ([0] ++ (Oc.p16 t ++ Oc.p16 k))) ∧ Below r w w' ∧ (∀ k o, w.heap[k]? = some o → k ≠ r → k ≠ c → k ≠ b → (∀ d fz, o ≠ .cells d 5 fz) → w'.heap[k]? = some o) := by
  have hrc := hW.1.1
  refine wwName_any w r c b t k [0] bs hW (by simp; omega) ht hk16 ((cwRoot_calls w r c bs hW.1 (by omega)).mono ?_)
  rintro e w' ⟨h1, h2, h3, h4⟩
  exact ⟨h1, h2, h3.mono (by omega), fun j o hj _ hjc ho => h4 j o hj (fun e => hjc (Option.some.inj e)) ho⟩
end Go.Proofs.YtolbfeggceemfaaGreatDoor
