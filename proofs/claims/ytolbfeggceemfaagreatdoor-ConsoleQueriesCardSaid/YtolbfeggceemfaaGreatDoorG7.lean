/-
  The reader's plain form; the walk of (*wire.reader).number. Condition: the text and the place are of at most 100000 bytes.
-/
import Derived.Test.YtolbfeggceemfaaGreatDoorG6
import Derived.Test.YtolbfeggceemfaaGreatDoorC7
namespace Go.Proofs.YtolbfeggceemfaaGreatDoor
open Go.RowKit
namespace Rd
/-- A reader: the place, and whether a part was none. -/
structure R where
  i : Nat
  bad : Bool
/-- A number of k bytes. -/
def rnum (s : List UInt8) (k : Nat) (r : R) : Nat × R :=
  if r.bad = true then (0, r) else match Oc.num s r.i k with
    | none => (0, ⟨r.i, true⟩)
    | some x => (x, ⟨r.i + k, false⟩)
theorem rnum_le (s : List UInt8) (k : Nat) (r : R) (h : r.i ≤ s.length) : (rnum s k r).2.i ≤ s.length := by
  unfold rnum
  split
  · exact h
  · split
    · exact h
    · rename_i hn
      exact Oc.num_fit hn
theorem rnum_lt (s : List UInt8) (k : Nat) (r : R) : (rnum s k r).1 < 256 ^ k := by
  have h0 : 0 < 256 ^ k := Nat.pow_pos (by decide)
  unfold rnum
  split
  · exact h0
  · split
    · exact h0
    · rename_i hn
      exact Oc.num_lt hn
end Rd

/-- Only block b, and what is new, may have changed. -/
def Bar (b : Nat) (w w' : World) : Prop := Below b w w' ∧ ∀ g, g < w.heap.size → g ≠ b → w'.heap[g]? = w.heap[g]?
theorem Bar.refl (b : Nat) (w : World) : Bar b w w := ⟨Below.refl _ _, fun _ _ _ => rfl⟩
theorem Bar.size {b : Nat} {w w' : World} (h : Bar b w w') : w.heap.size ≤ w'.heap.size := h.1.size
theorem Bar.trans {b : Nat} {w w1 w2 : World} (h1 : Bar b w w1) (h2 : Bar b w1 w2) : Bar b w w2 :=
  ⟨h1.1.trans h2.1, fun g hg hn => (h2.2 g (Nat.lt_of_lt_of_le hg h1.1.size) hn).trans (h1.2 g hg hn)⟩
theorem Bar.of {b : Nat} {w w' : World} (h : Below w.heap.size w w') (hb : b ≤ w.heap.size) : Bar b w w' := ⟨h.mono hb, fun g hg _ => h.block g hg⟩
theorem Bar.below {b : Nat} {w w1 w2 : World} (h : Bar b w w1) (h2 : Below w1.heap.size w1 w2) (hb : b < w.heap.size) : Bar b w w2 := h.trans (.of h2 (Nat.le_of_lt (Nat.lt_of_lt_of_le hb h.size)))
theorem Bar.alloc {b : Nat} {w w1 : World} (h : Bar b w w1) (hb : b < w.heap.size) (o : Obj) : Bar b w (w1.alloc o) := h.below ((Below.refl _ _).alloc (Nat.le_refl _) o) hb
theorem Bar.setAt {b : Nat} {w w1 : World} (h : Bar b w w1) (j : Nat) (v : Value) : Bar b w (w1.setCell ⟨b, j, none⟩ v) :=
  ⟨h.1.setCell (p := ⟨b, j, none⟩) (Nat.le_refl _) _, fun _ hg hn => (Below.heap_setCell _ _ _ _ hn).trans (h.2 _ hg hn)⟩
theorem Bar.setNew {b g : Nat} {w w1 : World} (h : Bar b w w1) (hg : w.heap.size ≤ g) (hb : b ≤ g) (j : Nat) (v : Value) : Bar b w (w1.setCell ⟨g, j, none⟩ v) :=
  ⟨h.1.setCell (p := ⟨g, j, none⟩) hb _, fun k hk hn => (Below.heap_setCell _ _ _ _ (show k ≠ (Addr.mk g j none).block from by show k ≠ g; omega)).trans (h.2 k hk hn)⟩

/-- A reader in block b. -/
def RdAt (w : World) (b : Nat) (s : ByteArray) (r : Rd.R) : Prop := w.heap[b]? = some (.cells #[.string s, .int .i64 (r.i : Int), .bool r.bad] 120 (0, 0))
theorem RdAt.lt {w : World} {b : Nat} {s : ByteArray} {r : Rd.R} (h : RdAt w b s r) : b < w.heap.size := (Array.getElem?_eq_some_iff.1 h).1
theorem RdAt.below {w w' : World} {b : Nat} {s : ByteArray} {r : Rd.R} (h : RdAt w b s r) (hb : Below w.heap.size w w') : RdAt w' b s r := (hb.block b h.lt).trans h
theorem RdAt.c0 {w : World} {b : Nat} {s : ByteArray} {r : Rd.R} (h : RdAt w b s r) : w.cell? ⟨b, 0, none⟩ = some (.string s) := by rw [Lib.cell_of_heap h]; rfl
theorem RdAt.c1 {w : World} {b : Nat} {s : ByteArray} {r : Rd.R} (h : RdAt w b s r) : w.cell? ⟨b, 1, none⟩ = some (.int .i64 (r.i : Int)) := by rw [Lib.cell_of_heap h]; rfl
theorem RdAt.c2 {w : World} {b : Nat} {s : ByteArray} {r : Rd.R} (h : RdAt w b s r) : w.cell? ⟨b, 2, none⟩ = some (.bool r.bad) := by rw [Lib.cell_of_heap h]; rfl
theorem RdAt.fz {w : World} {b : Nat} {s : ByteArray} {r : Rd.R} (h : RdAt w b s r) (j : Nat) : w.frozen? ⟨b, j, none⟩ = false := Lib.frozen_of_heap h j
theorem RdAt.setBad {w : World} {b : Nat} {s : ByteArray} {r : Rd.R} (h : RdAt w b s r) (x : Bool) : RdAt (w.setCell ⟨b, 2, none⟩ (.bool x)) b s ⟨r.i, x⟩ := Lib.heap_setCell_same h _
theorem RdAt.setI {w : World} {b : Nat} {s : ByteArray} {r : Rd.R} (h : RdAt w b s r) (x : Nat) : RdAt (w.setCell ⟨b, 1, none⟩ (.int .i64 (x : Int))) b s ⟨x, r.bad⟩ := Lib.heap_setCell_same h _

def NumP (o : Nat × Rd.R) (b : Nat) (s : ByteArray) (w : World) (e : Ending) (w' : World) : Prop := e = .returned (.int .i64 (o.1 : Int)) ∧ RdAt w' b s o.2 ∧ Bar b w w'

theorem enter_num {f k : Nat} (h : f = 111 ∧ k = 2 ∨ f = 115 ∧ k = 4) (args : Array Value) (w : World) : (callFunc f args).run Tryz.prog w = .ok (.enter f args) w := by
  rcases h with ⟨rfl, rfl⟩ | ⟨rfl, rfl⟩
  · exact enter_of Tryz.func111 (by kernel_rfl) (by kernel_rfl) args w
  · exact enter_of Tryz.func115 (by kernel_rfl) (by kernel_rfl) args w

set_option maxHeartbeats 2000000 in
set_option maxRecDepth 100000 in
theorem readNum_calls (f k : Nat) (hf : f = 111 ∧ k = 2 ∨ f = 115 ∧ k = 4) (s : ByteArray) (b : Nat) (w : World) (r : Rd.R) (hs : s.size ≤ 100000) (hi : r.i ≤ 100000) (hR : RdAt w b s r) :
    Calls Tryz.prog 114 #[.pointer (some ⟨b, 0, none⟩), .func (.func f) #[] #[]] w (NumP (Rd.rnum s.data.toList k r) b s w) := by
  have hU : ∀ W, Calls Tryz.prog f #[.string s, .int .i64 (r.i : Int)] W (NumPost (Oc.num s.data.toList r.i k) r.i k W) := fun W => by
    rcases hf with ⟨rfl, rfl⟩ | ⟨rfl, rfl⟩
    · exact u16_calls s r.i W (by omega) (by omega)
    · exact u32_calls s r.i W (by omega) (by omega)
  have hk4 : k ≤ 4 := by omega
  have hent := enter_num hf
  have hlt := hR.lt
  have hRB : ∀ W : Cls (fun w' => Below w.heap.size w w'), RdAt W.w b s r := fun W => hR.below W.h
  have c0 : ∀ W : Cls (fun w' => Below w.heap.size w w'), W.w.cell? ⟨b, 0, none⟩ = some (.string s) := fun W => (hRB W).c0
  have c1 : ∀ W : Cls (fun w' => Below w.heap.size w w'), W.w.cell? ⟨b, 1, none⟩ = some (.int .i64 (r.i : Int)) := fun W => (hRB W).c1
  have HR := Lib.hid hR
  clear hRB hR hf
  obtain ⟨i, bad⟩ := r
  unfold Rd.rnum
  simp only at *
  generalize Oc.num s.data.toList i k = o at *
  cases bad with
  | true =>
    rw [if_pos rfl]
    cases o with
    | none =>
      have HU := Lib.hid hU
      clear hU
      go_enter Tryz.func114, Tryz.ntmps114
      go_wp2_with fail
      refine region_cls (fun w' => Below w.heap.size w w') (by kernel_rfl) (by kernel_rfl) (Below.refl _ _).drew (fun hne => ?_)
      repeat (go_big_quiet_step ((rename_i W; have hb := W.h; refine (HU.out _).mono ?_; rintro e wf ⟨rfl, rfl⟩; exact ⟨rfl, ⟨_, hb⟩, rfl⟩)))
      refine wpQuiet_nil ?_
      intro w2 hb2
      have hR2 := HR.out.below hb2
      have d2 := hR2.c2
      have f2 := hR2.fz 2
      clear c0 c1
      go_wp2_with fail
      go_ret
      exact ⟨rfl, hR2.setBad true, (Bar.of hb2 (Nat.le_of_lt hlt)).setAt 2 _⟩
    | some x =>
      have HU := Lib.hid hU
      clear hU
      go_enter Tryz.func114, Tryz.ntmps114
      go_wp2_with fail
      refine region_cls (fun w' => Below w.heap.size w w') (by kernel_rfl) (by kernel_rfl) (Below.refl _ _).drew (fun hne => ?_)
      repeat (go_big_quiet_step ((rename_i W; have hb := W.h; refine (HU.out _).mono ?_; rintro e wf ⟨rfl, rfl⟩; exact ⟨rfl, ⟨_, hb⟩, rfl⟩)))
      refine wpQuiet_nil ?_
      intro w2 hb2
      have hR2 := HR.out.below hb2
      have d2 := hR2.c2
      have f2 := hR2.fz 2
      clear c0 c1
      go_wp2_with fail
      go_ret
      exact ⟨rfl, hR2.setBad true, (Bar.of hb2 (Nat.le_of_lt hlt)).setAt 2 _⟩
  | false =>
    rw [if_neg (by decide)]
    cases o with
    | none =>
      have HU := Lib.hid hU
      clear hU
      go_enter Tryz.func114, Tryz.ntmps114
      go_wp2_with fail
      refine region_cls (fun w' => Below w.heap.size w w') (by kernel_rfl) (by kernel_rfl) (Below.refl _ _).drew (fun hne => ?_)
      repeat (go_big_quiet_step ((rename_i W; have hb := W.h; refine (HU.out _).mono ?_; rintro e wf ⟨rfl, rfl⟩; exact ⟨rfl, ⟨_, hb⟩, rfl⟩)))
      refine wpQuiet_nil ?_
      intro w2 hb2
      have hR2 := HR.out.below hb2
      have d2 := hR2.c2
      have f2 := hR2.fz 2
      clear c0 c1
      go_wp2_with fail
      go_ret
      exact ⟨rfl, hR2.setBad true, (Bar.of hb2 (Nat.le_of_lt hlt)).setAt 2 _⟩
    | some x =>
      have HU := Lib.hid hU
      clear hU
      go_enter Tryz.func114, Tryz.ntmps114
      go_wp2_with fail
      refine region_cls (fun w' => Below w.heap.size w w') (by kernel_rfl) (by kernel_rfl) (Below.refl _ _).drew (fun hne => ?_)
      repeat (go_big_quiet_step ((rename_i W; have hb := W.h; refine (HU.out _).mono ?_; rintro e wf ⟨rfl, rfl⟩; exact ⟨rfl, ⟨_, hb⟩, rfl⟩)))
      refine wpQuiet_nil ?_
      intro w2 hb2
      have hR2 := HR.out.below hb2
      have d2 := hR2.c2
      have f2 := hR2.fz 2
      have d1 := hR2.c1
      have f1 := hR2.fz 1
      clear c0 c1
      go_wp2_with fail
      go_ret
      exact ⟨rfl, (hR2.setBad false).setI (i + k), ((Bar.of hb2 (Nat.le_of_lt hlt)).setAt 2 _).setAt 1 _⟩
end Go.Proofs.YtolbfeggceemfaaGreatDoor
