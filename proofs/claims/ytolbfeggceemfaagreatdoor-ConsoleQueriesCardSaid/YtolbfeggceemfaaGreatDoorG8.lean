/-
  The walk of (*wire.reader).question. Condition: the text is of at most 100000 bytes, the place within it.
-/
import Derived.Test.YtolbfeggceemfaaGreatDoorG7
namespace Go.Proofs.YtolbfeggceemfaaGreatDoor
open Go.RowKit
namespace Rd
/-- A question: name, type, class. -/
structure Q where
  n : List UInt8
  t : Nat
  c : Nat
/-- A question's parts behind its name. -/
def tail (s : List UInt8) (n : List UInt8) (p : Nat) : Q × R :=
  let o1 := rnum s 2 ⟨p, false⟩
  let o2 := rnum s 2 o1.2
  (⟨n, o1.1, o2.1⟩, ⟨o2.2.i, o2.2.bad || o1.1 == 0⟩)
def question (s : List UInt8) (r : R) : Q × R :=
  if r.bad = true then (⟨[], 0, 0⟩, ⟨r.i, true⟩) else match name s r.i with
    | none => (⟨[], 0, 0⟩, ⟨r.i, true⟩)
    | some (n, p) => tail s n p.toNat
theorem question_le (s : List UInt8) (r : R) (h : r.i ≤ s.length) : (question s r).2.i ≤ s.length := by
  unfold question
  split
  · exact h
  · split
    · exact h
    · rename_i hn
      have h1 := name_range hn
      exact rnum_le _ _ _ (rnum_le _ _ _ (by show Int.toNat _ ≤ _; simp only at h1; omega))
theorem question_t (s : List UInt8) (r : R) : (question s r).1.t < 65536 := by
  unfold question
  split
  · exact (by decide : 0 < 65536)
  · split
    · exact (by decide : 0 < 65536)
    · exact rnum_lt s 2 _
end Rd

theorem results_one {P : Program} {fn : Func} {t : TypeId} {a : Tmp} (h : fn.results = #[.cell a t]) (tmps : Array Value) (w : World) (p : Addr) (v : Value) (ha : tmps.getD a undef = .pointer (some p)) (hl : (loadVar t p).run P w = .ok v w) :
    (results fn tmps).run P w = .ok v w := by
  have ha' : tmps[a]?.getD undef = .pointer (some p) := by simpa using ha
  simp [results, h, ha', hl, asAddr]
theorem cells_set3 {w : World} {g : Nat} {T : TypeId} {a b c x0 x1 x2 : Value} (h : w.heap[g]? = some (.cells #[a, b, c] T (0, 0))) :
    (((w.setCell ⟨g, 0, none⟩ x0).setCell ⟨g, 1, none⟩ x1).setCell ⟨g, 2, none⟩ x2).heap[g]? = some (.cells #[x0, x1, x2] T (0, 0)) :=
  Lib.heap_setCell_same (Lib.heap_setCell_same (Lib.heap_setCell_same h x0) x1) x2
theorem heap_far {w : World} {k g : Nat} {o : Option Obj} (h : w.heap[k]? = o) (hn : k ≠ g) (j : Nat) (v : Value) : (w.setCell ⟨g, j, none⟩ v).heap[k]? = o := (Below.heap_setCell _ _ _ _ hn).trans h
theorem RdAt.far {w : World} {b g : Nat} {s : ByteArray} {r : Rd.R} (h : RdAt w b s r) (hn : b ≠ g) (j : Nat) (v : Value) : RdAt (w.setCell ⟨g, j, none⟩ v) b s r := heap_far h hn j v

def QP (o : Rd.Q × Rd.R) (b : Nat) (s : ByteArray) (w : World) (e : Ending) (w' : World) : Prop :=
  e = .returned (.agg #[.string (txt o.1.n), .int .i64 (o.1.t : Int), .int .i64 (o.1.c : Int)]) ∧ RdAt w' b s o.2 ∧ Bar b w w'

set_option maxHeartbeats 2000000 in
set_option maxRecDepth 100000 in
theorem question_bad (s : ByteArray) (b : Nat) (w : World) (i : Nat) (bad : Bool) (hs : s.size ≤ 100000) (hi : i ≤ 100000) (hR : RdAt w b s ⟨i, bad⟩) (h : bad = false → Rd.name s.data.toList i = none) :
    Calls Tryz.prog 86 #[.pointer (some ⟨b, 0, none⟩)] w (QP (⟨[], 0, 0⟩, ⟨i, true⟩) b s w) := by
  obtain ⟨n, p, c, hC, hc⟩ : ∃ n p c, (∀ W, Calls Tryz.prog 113 #[.string s, .int .i64 (i : Int)] W fun e w' => Below W.heap.size W w' ∧ e = .returned (.tuple #[.string n, .int .i64 p, .int .i64 c])) ∧ (bad = false → (c != 0) = true) := by
    cases hn : Rd.name s.data.toList i with
    | none =>
      refine ⟨txt [], 0, 500, fun W => ?_, fun _ => by decide⟩
      have := compName_calls s i W hs hi
      rw [hn] at this
      exact this
    | some r =>
      refine ⟨txt r.1, r.2, 0, fun W => ?_, fun hb => ?_⟩
      · have := compName_calls s i W hs hi
        rw [hn] at this
        exact this
      · rw [h hb] at hn
        cases hn
  have hlt := hR.lt
  have hn1 : b ≠ w.heap.size := by omega
  have hn2 : w.heap.size ≠ b := by omega
  obtain ⟨w0, hw0⟩ : ∃ w0, w.alloc (.cells #[.string ⟨#[]⟩, .int .i64 0, .int .i64 0] 114) = w0 := ⟨_, rfl⟩
  have hb0 : Below w.heap.size w w0 := by rw [← hw0]; exact (Below.refl _ _).alloc (Nat.le_refl _) _
  have hz0 : w.heap.size < w0.heap.size := by rw [← hw0]; simp
  have hk0 : w0.heap[w.heap.size]? = some (.cells #[.string ⟨#[]⟩, .int .i64 0, .int .i64 0] 114 (0, 0)) := by rw [← hw0]; exact heap_alloc_new w _
  have hRB : ∀ W : Cls (fun w' => Below w0.heap.size w0 w'), RdAt W.w b s ⟨i, bad⟩ := fun W => (hR.below hb0).below W.h
  have c0 : ∀ W : Cls (fun w' => Below w0.heap.size w0 w'), W.w.cell? ⟨b, 0, none⟩ = some (.string s) := fun W => (hRB W).c0
  have c1 : ∀ W : Cls (fun w' => Below w0.heap.size w0 w'), W.w.cell? ⟨b, 1, none⟩ = some (.int .i64 (i : Int)) := fun W => (hRB W).c1
  have HRB := Lib.hid hRB
  have HC := Lib.hid hC
  have HK := Lib.hid hk0
  have HW := Lib.hid hw0
  clear hRB hR hC hk0 hw0 h
  cases bad
  case' false => have hq := hc rfl
  case' true => have hq := True.intro
  all_goals
    clear hc
    go_enter Tryz.func86, Tryz.ntmps86
    go_wp2_with fail
    rw [HW.out]
    refine region_cls (fun w' => Below w0.heap.size w0 w') (by kernel_rfl) (by kernel_rfl) (Below.refl _ _).drew (fun hne => ?_)
    repeat (go_big_quiet_step ((go_at_call 113; rename_i W; have hb := W.h; refine (HC.out _).mono ?_; rintro e wf ⟨hbf, rfl⟩; exact ⟨rfl, ⟨_, hb.trans (hbf.mono hb.size)⟩, rfl⟩)))
    refine wpQuiet_nil ?_
    intro w2 hb2
    have hR2 := HRB.out ⟨w2, hb2⟩
    have hk2 := (hb2.block _ hz0).trans HK.out
    have d2 := hR2.c2
    have f2 := hR2.fz 2
    have z0 : w2.cell? ⟨w.heap.size, 0, none⟩ = some (.string ⟨#[]⟩) := by rw [Lib.cell_of_heap hk2]; rfl
    have z1 : w2.cell? ⟨w.heap.size, 1, none⟩ = some (.int .i64 0) := by rw [Lib.cell_of_heap hk2]; rfl
    have z2 : w2.cell? ⟨w.heap.size, 2, none⟩ = some (.int .i64 0) := by rw [Lib.cell_of_heap hk2]; rfl
    have fz : ∀ j : Nat, w2.frozen? ⟨w.heap.size, j, none⟩ = false := fun j => Lib.frozen_of_heap hk2 j
    have HK2 := Lib.hid hk2
    clear c0 c1 hk2
    go_wp2_with fail
    refine bodyPost_ret (v := .agg #[.string (txt []), .int .i64 0, .int .i64 0]) (results_one (a := 2) (t := 114) rfl _ _ ⟨w.heap.size, 0, none⟩ _ rfl (run_loadVar_row _ _ 114 114 #[.string (txt []), .int .i64 0, .int .i64 0] (0, 0) _ (cells_set3 (heap_far HK2.out hn2 2 (.bool true))) Tryz.underlying114 rfl (by kernel_rfl))) rfl ⟨rfl, (((hR2.setBad true).far hn1 _ _).far hn1 _ _).far hn1 _ _, ?_⟩
    have hB : Bar b w w2 := (Bar.of hb0 (Nat.le_of_lt hlt)).below hb2 hlt
    exact (((hB.setAt 2 _).setNew (Nat.le_refl _) (Nat.le_of_lt hlt) 0 _).setNew (Nat.le_refl _) (Nat.le_of_lt hlt) 1 _).setNew (Nat.le_refl _) (Nat.le_of_lt hlt) 2 _
end Go.Proofs.YtolbfeggceemfaaGreatDoor
