/-
  The walk of wire.Get. Condition: none on the text but that it is of at most 2^40 bytes.
-/
import Derived.Test.YtolbfeggceemfaaGreatDoorG11
import Derived.Test.YtolbfeggceemfaaGreatDoorG12
import Derived.Test.YtolbfeggceemfaaGreatDoorW12
namespace Go.Proofs.YtolbfeggceemfaaGreatDoor
open Go.RowKit
namespace Rd
/-- The reader behind all four lists. -/
def readAll (l : List UInt8) : R := list (record l) (two l 10) (list (record l) (two l 8) (list (record l) (two l 6) (list (fun r => (question l r).2) (two l 4) ⟨12, false⟩)))
/-- A message's four numbers, or what is wrong with it. -/
def get (l : List UInt8) : Except Int (Nat × Nat × Nat × Nat) :=
  if 4096 < l.length then .error 701 else if l.length < 12 then .error 700
  else if (readAll l).bad = true ∨ (readAll l).i ≠ l.length then .error 700 else .ok (two l 4, two l 6, two l 8, two l 10)
end Rd
/-- A message's cells. -/
def msgOf (a o z r : Int) (q aa tc rd ra : Bool) (s1 s2 s3 s4 : Value) : Array Value := #[.int .i64 a, .bool q, .int .i64 o, .bool aa, .bool tc, .bool rd, .bool ra, .int .i64 z, .int .i64 r, s1, s2, s3, s4]
def zeroMsg : Array Value := #[.int .i64 0, .bool false, .int .i64 0, .bool false, .bool false, .bool false, .bool false, .int .i64 0, .int .i64 0, .slice none 0 0, .slice none 0 0, .slice none 0 0, .slice none 0 0]
def GetP (g : Except Int (Nat × Nat × Nat × Nat)) (w : World) (e : Ending) (w' : World) : Prop :=
  Below w.heap.size w w' ∧ ∃ a o z r q aa tc rd ra p1 n1 c1 p2 n2 c2 p3 n3 c3 p4 n4 c4 code, e = .returned (.tuple #[.agg (msgOf a o z r q aa tc rd ra (.slice p1 n1 c1) (.slice p2 n2 c2) (.slice p3 n3 c3) (.slice p4 n4 c4)), .int .i64 code]) ∧
    n1 ≤ 65535 ∧ n2 ≤ 65535 ∧ n3 ≤ 65535 ∧ n4 ≤ 65535 ∧ match g with
    | .error x => code = x
    | .ok k => code = 0 ∧ n1 = k.1 ∧ n2 = k.2.1 ∧ n3 = k.2.2.1 ∧ n4 = k.2.2.2
theorem results_two {P : Program} {fn : Func} {t : TypeId} {a u : Tmp} (h : fn.results = #[.cell a t, .tmp u]) (tmps : Array Value) (w : World) (p : Addr) (v : Value) (ha : tmps.getD a undef = .pointer (some p)) (hl : (loadVar t p).run P w = .ok v w) :
    (results fn tmps).run P w = .ok (.tuple #[v, tmps.getD u undef]) w := by
  have ha' : tmps[a]?.getD undef = .pointer (some p) := by simpa using ha
  simp [results, h, ha', hl, asAddr, Result.andThen]

set_option maxHeartbeats 2000000 in
set_option maxRecDepth 100000 in
theorem wireGet_long (s : ByteArray) (w : World) (h : 4096 < s.size) : Calls Tryz.prog 65 #[.string s] w fun e w' => e = .returned (.tuple #[.agg zeroMsg, .int .i64 701]) ∧ Below w.heap.size w w' := by
  have q : ((4096 : Int) < (s.size : Int)) = True := by simp; omega
  go_enter Tryz.func65, Tryz.ntmps65
  go_wp2_with fail
  refine bodyPost_ret (results_two (a := 2) (t := 96) (u := 3) rfl _ _ ⟨w.heap.size, 0, none⟩ _ rfl (run_loadVar_row _ _ 96 96 _ (0, 0) _ (heap_alloc_new w _) Tryz.underlying96 rfl (by kernel_rfl))) rfl ?_
  exact ⟨rfl, (Below.refl _ w).alloc (Nat.le_refl _) _⟩

theorem all_op2 {l : List Oper} {Q : Exit → Act → World → Prop} {md : Region.Mode} {S : World → Prop} {i j : Nat} {oi oj : Oper} {rest rest' : List Oper} {fuel : Nat} {listed : Array Bool} {a : Act} {w : World} (hd : l.drop i = oi :: rest) (hd' : l.drop j = oj :: rest')
    (hr : Region.ready md l.toArray listed = [i, j])
    (h : ∀ K' : Act → World → Prop, Shut (∀ a w, S w → (S w → wpAnyH Tryz.prog md l.toArray Q S fuel (listed.setIfInBounds i true) a w) → K' a w) → if Region.wanted oi (yielded l.toArray a.tmps) = true then Oper.wp Tryz.prog oi a w K' Q else K' (a.put oi.dst undef) w)
    (h' : ∀ K' : Act → World → Prop, Shut (∀ a w, S w → (S w → wpAnyH Tryz.prog md l.toArray Q S fuel (listed.setIfInBounds j true) a w) → K' a w) → if Region.wanted oj (yielded l.toArray a.tmps) = true then Oper.wp Tryz.prog oj a w K' Q else K' (a.put oj.dst undef) w) :
    wpAnyH Tryz.prog md l.toArray Q S (fuel + 1) listed a w := by
  refine wpAnyH_ready (rs := [i, j]) hr (by simp) (AllReadyH.cons (o := oi) ?_ h (AllReadyH.cons (o := oj) ?_ h' AllReadyH.nil))
  · have := congrArg (fun k => k[0]?) hd
    simpa using this
  · have := congrArg (fun k => k[0]?) hd'
    simpa using this

theorem Rd.list_bad (step : Rd.R → Rd.R) (m : Nat) (r : Rd.R) (h : r.bad = true) : (Rd.list step m r).bad = true := by
  unfold Rd.list
  rw [h, Bool.true_or, Rd.run_bad _ _ _ rfl]

/-- The header's flags and the counts. -/
def Tc (w : World) (g : Nat) (H : Array Value) (x4 x6 x8 x10 : Nat) : Prop := w.heap[g]? = some (.cells H 92 (0, 0)) ∧ w.heap[g + 1]? = some (.cells #[.int .i64 (x4 : Int), .int .i64 (x6 : Int), .int .i64 (x8 : Int), .int .i64 (x10 : Int)] 99 (0, 0))
theorem Tc.lt {w : World} {g x4 x6 x8 x10 : Nat} {H : Array Value} (h : Tc w g H x4 x6 x8 x10) : g + 1 < w.heap.size := (Array.getElem?_eq_some_iff.1 h.2).1
theorem Tc.bar {w w' : World} {b g x4 x6 x8 x10 : Nat} {H : Array Value} (h : Tc w g H x4 x6 x8 x10) (hb : Bar b w w') (h1 : g + 1 < b) : Tc w' g H x4 x6 x8 x10 :=
  ⟨(hb.2 _ (by have := h.lt; omega) (by omega)).trans h.1, (hb.2 _ h.lt (by omega)).trans h.2⟩
theorem Tc.alloc {w : World} {g x4 x6 x8 x10 : Nat} {H : Array Value} (h : Tc w g H x4 x6 x8 x10) (o : Obj) : Tc (w.alloc o) g H x4 x6 x8 x10 :=
  ⟨(Lib.alloc_old _ _ _ (by have := h.lt; omega)).trans h.1, (Lib.alloc_old _ _ _ h.lt).trans h.2⟩
theorem Tc.row {w : World} {g k x4 x6 x8 x10 : Nat} {H cs : Array Value} (h : Tc w g H x4 x6 x8 x10) (hk : g + 1 < k) : Tc (w.setRow k cs) g H x4 x6 x8 x10 :=
  ⟨(setRow_other _ _ _ _ (by omega)).trans h.1, (setRow_other _ _ _ _ (by omega)).trans h.2⟩
def TcS (w : World) (g : Nat) (v0 v1 v2 v3 v4 v5 v6 v7 v8 : Value) (x4 x6 x8 x10 : Nat) : Prop := Tc w g #[v0, v1, v2, v3, v4, v5, v6, v7, v8] x4 x6 x8 x10 ∧ w.cell? ⟨g, 0, none⟩ = some v0 ∧ w.cell? ⟨g, 1, none⟩ = some v1 ∧ w.cell? ⟨g, 2, none⟩ = some v2 ∧ w.cell? ⟨g, 3, none⟩ = some v3 ∧
    w.cell? ⟨g, 4, none⟩ = some v4 ∧ w.cell? ⟨g, 5, none⟩ = some v5 ∧ w.cell? ⟨g, 6, none⟩ = some v6 ∧ w.cell? ⟨g, 7, none⟩ = some v7 ∧ w.cell? ⟨g, 8, none⟩ = some v8 ∧ w.cell? ⟨g + 1, 0, none⟩ = some (.int .i64 (x4 : Int))
theorem tc_cells {w : World} {g x4 x6 x8 x10 : Nat} {v0 v1 v2 v3 v4 v5 v6 v7 v8 : Value} (h : Tc w g #[v0, v1, v2, v3, v4, v5, v6, v7, v8] x4 x6 x8 x10) : TcS w g v0 v1 v2 v3 v4 v5 v6 v7 v8 x4 x6 x8 x10 := by
  obtain ⟨a0, a1, a2, a3, a4, a5, a6, a7, a8, _⟩ := h9_c h.1
  exact ⟨h, a0, a1, a2, a3, a4, a5, a6, a7, a8, (q4_c h.2).1⟩
theorem Bar.row {b k : Nat} {w w1 : World} {cs : Array Value} (h : Bar b w w1) (hk : w.heap.size ≤ k) (hb : b < w.heap.size) : Bar b w (w1.setRow k cs) :=
  ⟨below_row h.1 (by omega), fun g hg hn => (setRow_other _ _ _ _ (by omega)).trans (h.2 g hg hn)⟩
theorem RdAt.row {w : World} {b k : Nat} {s : ByteArray} {r : Rd.R} {cs : Array Value} (h : RdAt w b s r) (hk : b ≠ k) : RdAt (w.setRow k cs) b s r := (setRow_other _ _ _ _ hk).trans h

theorem m13_c {w : World} {g : Nat} {T : TypeId} {v0 v1 v2 v3 v4 v5 v6 v7 v8 v9 v10 v11 v12 : Value} (h : w.heap[g]? = some (.cells #[v0, v1, v2, v3, v4, v5, v6, v7, v8, v9, v10, v11, v12] T (0, 0))) : w.cell? ⟨g, 0, none⟩ = some v0 ∧ w.cell? ⟨g, 1, none⟩ = some v1 ∧ w.cell? ⟨g, 2, none⟩ = some v2 ∧ w.cell? ⟨g, 3, none⟩ = some v3 ∧
    w.cell? ⟨g, 4, none⟩ = some v4 ∧ w.cell? ⟨g, 5, none⟩ = some v5 ∧ w.cell? ⟨g, 6, none⟩ = some v6 ∧ w.cell? ⟨g, 7, none⟩ = some v7 ∧ w.cell? ⟨g, 8, none⟩ = some v8 ∧ w.cell? ⟨g, 9, none⟩ = some v9 ∧ w.cell? ⟨g, 10, none⟩ = some v10 ∧ w.cell? ⟨g, 11, none⟩ = some v11 ∧ w.cell? ⟨g, 12, none⟩ = some v12 ∧ ∀ j : Nat, w.frozen? ⟨g, j, none⟩ = false :=
  ⟨by rw [Lib.cell_of_heap h]; rfl, by rw [Lib.cell_of_heap h]; rfl, by rw [Lib.cell_of_heap h]; rfl, by rw [Lib.cell_of_heap h]; rfl, by rw [Lib.cell_of_heap h]; rfl, by rw [Lib.cell_of_heap h]; rfl, by rw [Lib.cell_of_heap h]; rfl, by rw [Lib.cell_of_heap h]; rfl, by rw [Lib.cell_of_heap h]; rfl, by rw [Lib.cell_of_heap h]; rfl, by rw [Lib.cell_of_heap h]; rfl, by rw [Lib.cell_of_heap h]; rfl, by rw [Lib.cell_of_heap h]; rfl, fun j => Lib.frozen_of_heap h j⟩

set_option maxHeartbeats 2000000 in
set_option maxRecDepth 100000 in
theorem wireGet_short (s : ByteArray) (w : World) (h : s.size < 12) : Calls Tryz.prog 65 #[.string s] w fun e w' => e = .returned (.tuple #[.agg zeroMsg, .int .i64 700]) ∧ Below w.heap.size w w' := by
  have q : ((4096 : Int) < (s.size : Int)) = False := by simp; omega
  have H0 := fun W => headGet_short s W h
  unfold zeroHd zero4 at H0
  have H := Lib.hid H0
  clear H0
  go_enter Tryz.func65, Tryz.ntmps65
  go_wp2_with fail
  refine (H.out _).mono ?_
  rintro e w1 ⟨rfl, hb1⟩
  have hk1 := (hb1.block w.heap.size (by simp)).trans (heap_alloc_new w (.cells zeroMsg 96))
  have hl1 : w.heap.size < w1.heap.size := (Array.getElem?_eq_some_iff.1 hk1).1
  obtain ⟨z0, z1, z2, z3, z4, z5, z6, z7, z8, z9, z10, z11, z12, fz⟩ := m13_c hk1
  have HK1 := Lib.hid hk1
  clear hk1
  have hb01 : Below w.heap.size w w1 := ((Below.refl _ w).alloc (Nat.le_refl _) _).trans (hb1.mono (by simp))
  go_wp2_with fail
  have hx := heap_set13 (x0 := .int .i64 0) (x1 := .bool false) (x2 := .int .i64 0) (x3 := .bool false) (x4 := .bool false) (x5 := .bool false) (x6 := .bool false) (x7 := .int .i64 0) (x8 := .int .i64 0) (x9 := .slice none 0 0) (x10 := .slice none 0 0) (x11 := .slice none 0 0) (x12 := .slice none 0 0) HK1.out
  have hy := below_set13 (x0 := .int .i64 0) (x1 := .bool false) (x2 := .int .i64 0) (x3 := .bool false) (x4 := .bool false) (x5 := .bool false) (x6 := .bool false) (x7 := .int .i64 0) (x8 := .int .i64 0) (x9 := .slice none 0 0) (x10 := .slice none 0 0) (x11 := .slice none 0 0) (x12 := .slice none 0 0) hb01 (Nat.le_refl _)
  have hxl := (Array.getElem?_eq_some_iff.1 hx).1
  refine bodyPost_ret (results_two (a := 2) (t := 96) (u := 3) rfl _ _ ⟨w.heap.size, 0, none⟩ _ rfl (run_loadVar_row _ _ 96 96 zeroMsg (0, 0) _ ((Lib.alloc_old _ _ _ (by rw [World.size_alloc]; exact Nat.lt_succ_of_lt hxl)).trans ((Lib.alloc_old _ _ _ hxl).trans hx)) Tryz.underlying96 rfl (by kernel_rfl))) rfl ?_
  exact ⟨rfl, (hy.alloc (Nat.le_of_lt hxl) _).alloc (by rw [World.size_alloc]; exact Nat.le_succ_of_le (Nat.le_of_lt hxl)) _⟩

theorem Bar.ofDrew {b : Nat} {w w' : World} (h : Bar b w.drew w') : Bar b w w' := ⟨⟨h.1.os, h.1.tape, h.1.output, h.1.size, h.1.block⟩, h.2⟩
theorem msg_set10 {w : World} {g : Nat} {v0 v1 v2 v3 v4 v5 v6 v7 v8 s1 s2 s3 s4 v : Value} (h : w.heap[g]? = some (.cells #[v0, v1, v2, v3, v4, v5, v6, v7, v8, s1, s2, s3, s4] 96 (0, 0))) : (w.setCell ⟨g, 10, none⟩ v).heap[g]? = some (.cells #[v0, v1, v2, v3, v4, v5, v6, v7, v8, s1, v, s3, s4] 96 (0, 0)) := by
  have := Lib.heap_setCell_same (i := 10) h v
  simpa using this
theorem msg_set11 {w : World} {g : Nat} {v0 v1 v2 v3 v4 v5 v6 v7 v8 s1 s2 s3 s4 v : Value} (h : w.heap[g]? = some (.cells #[v0, v1, v2, v3, v4, v5, v6, v7, v8, s1, s2, s3, s4] 96 (0, 0))) : (w.setCell ⟨g, 11, none⟩ v).heap[g]? = some (.cells #[v0, v1, v2, v3, v4, v5, v6, v7, v8, s1, s2, v, s4] 96 (0, 0)) := by
  have := Lib.heap_setCell_same (i := 11) h v
  simpa using this
theorem msg_set12 {w : World} {g : Nat} {v0 v1 v2 v3 v4 v5 v6 v7 v8 s1 s2 s3 s4 v : Value} (h : w.heap[g]? = some (.cells #[v0, v1, v2, v3, v4, v5, v6, v7, v8, s1, s2, s3, s4] 96 (0, 0))) : (w.setCell ⟨g, 12, none⟩ v).heap[g]? = some (.cells #[v0, v1, v2, v3, v4, v5, v6, v7, v8, s1, s2, s3, v] 96 (0, 0)) := by
  have := Lib.heap_setCell_same (i := 12) h v
  simpa using this
theorem Tryz.idx125_0 (a b c : Value) (w : World) : (Instr.index 125 (.agg #[a, b, c]) (.int .i64 0)).run Tryz.prog w = .ok a w := by kernel_rfl
theorem Tryz.idx125_1 (a b c : Value) (w : World) : (Instr.index 125 (.agg #[a, b, c]) (.int .i64 1)).run Tryz.prog w = .ok b w := by kernel_rfl
theorem Tryz.idx125_2 (a b c : Value) (w : World) : (Instr.index 125 (.agg #[a, b, c]) (.int .i64 2)).run Tryz.prog w = .ok c w := by kernel_rfl

set_option maxHeartbeats 8000000 in
set_option maxRecDepth 100000 in
theorem wireGet_full (s : ByteArray) (w : World) (h : 12 ≤ s.size) (h2 : s.size ≤ 4096) : Calls Tryz.prog 65 #[.string s] w (GetP (if (Rd.readAll s.data.toList).bad = true ∨ (Rd.readAll s.data.toList).i ≠ s.data.toList.length then .error 700 else .ok (Rd.two s.data.toList 4, Rd.two s.data.toList 6, Rd.two s.data.toList 8, Rd.two s.data.toList 10)) w) := by
  have q : ((4096 : Int) < (s.size : Int)) = False := by simp; omega
  have H0 := fun W => headGet_ok s W (by omega) h
  have hL : s.data.toList.length = s.size := by rw [← Lib.size_eq]
  unfold Rd.readAll
  rw [hL]
  have m4 := Rd.two_lt s.data.toList 4
  have m6 := Rd.two_lt s.data.toList 6
  have m8 := Rd.two_lt s.data.toList 8
  have m10 := Rd.two_lt s.data.toList 10
  generalize Rd.two s.data.toList 4 = x4 at *
  generalize Rd.two s.data.toList 6 = x6 at *
  generalize Rd.two s.data.toList 8 = x8 at *
  generalize Rd.two s.data.toList 10 = x10 at *
  have qle : ∀ r : Rd.R, r.i ≤ s.size → ((fun r => (Rd.question s.data.toList r).2) r).i ≤ s.size := fun r hr => by have := Rd.question_le s.data.toList r (by omega); show (Rd.question s.data.toList r).2.i ≤ _; omega
  have rle : ∀ r : Rd.R, r.i ≤ s.size → (Rd.record s.data.toList r).i ≤ s.size := fun r hr => by have := Rd.record_le s.data.toList r (by omega); omega
  have L1 := fun b W (hR : RdAt W b s ⟨12, false⟩) => listQ_calls s b x4 W ⟨12, false⟩ (by omega) h m4 hR
  have l1 := Rd.list_le _ s.size qle x4 ⟨12, false⟩ h
  obtain ⟨r1, hr1⟩ : ∃ r1, Rd.list (fun r => (Rd.question s.data.toList r).2) x4 ⟨12, false⟩ = r1 := ⟨_, rfl⟩
  rw [hr1] at l1 ⊢
  simp only [hr1] at L1
  have L2 := fun b W (hR : RdAt W b s r1) => listR_calls s b x6 W r1 (by omega) l1 m6 hR
  have l2 := Rd.list_le _ s.size rle x6 r1 l1
  have k2 := Rd.list_bad (Rd.record s.data.toList) x6 r1
  obtain ⟨r2, hr2⟩ : ∃ r2, Rd.list (Rd.record s.data.toList) x6 r1 = r2 := ⟨_, rfl⟩
  rw [hr2] at l2 k2 ⊢
  simp only [hr2] at L2
  have L3 := fun b W (hR : RdAt W b s r2) => listR_calls s b x8 W r2 (by omega) l2 m8 hR
  have l3 := Rd.list_le _ s.size rle x8 r2 l2
  have k3 := Rd.list_bad (Rd.record s.data.toList) x8 r2
  obtain ⟨r3, hr3⟩ : ∃ r3, Rd.list (Rd.record s.data.toList) x8 r2 = r3 := ⟨_, rfl⟩
  rw [hr3] at l3 k3 ⊢
  simp only [hr3] at L3
  have L4 := fun b W (hR : RdAt W b s r3) => listR_calls s b x10 W r3 (by omega) l3 m10 hR
  have l4 := Rd.list_le _ s.size rle x10 r3 l3
  have k4 := Rd.list_bad (Rd.record s.data.toList) x10 r3
  obtain ⟨r4, hr4⟩ : ∃ r4, Rd.list (Rd.record s.data.toList) x10 r3 = r4 := ⟨_, rfl⟩
  rw [hr4] at l4 k4 ⊢
  simp only [hr4] at L4
  obtain ⟨gv, hgv⟩ : ∃ gv, (if r4.bad = true ∨ r4.i ≠ s.size then Except.error 700 else Except.ok (x4, x6, x8, x10) : Except Int (Nat × Nat × Nat × Nat)) = gv := ⟨_, rfl⟩
  rw [hgv]
  have HGV := Lib.hid hgv
  have H := Lib.hid H0
  have HL1 := Lib.hid L1
  have HL2 := Lib.hid L2
  have HL3 := Lib.hid L3
  have HL4 := Lib.hid L4
  have HK2 := Lib.hid k2
  have HK3 := Lib.hid k3
  have HK4 := Lib.hid k4
  clear H0 L1 L2 L3 L4 hr1 hr2 hr3 hr4 qle rle hgv hL k2 k3 k4 l1 l2 l3
  go_enter Tryz.func65, Tryz.ntmps65
  go_wp2_with fail
  clear q
  refine (H.out _).mono ?_
  rintro e w1 ⟨⟨a, o, z, r, q, aa, tc, rd, ra, rfl⟩, hb1⟩
  have hk1 := (hb1.block w.heap.size (by simp)).trans (heap_alloc_new w (.cells zeroMsg 96))
  have hl1 : w.heap.size < w1.heap.size := (Array.getElem?_eq_some_iff.1 hk1).1
  have hb01 : Below w.heap.size w w1 := ((Below.refl _ w).alloc (Nat.le_refl _) _).trans (hb1.mono (by simp))
  have HKZ := Lib.hid hk1
  clear hk1 hb1
  go_wp2_with fail
  obtain ⟨hA, hB, hC, hW⟩ := three_blocks w1 (.cells #[.int .i64 a, .bool q, .int .i64 o, .bool aa, .bool tc, .bool rd, .bool ra, .int .i64 z, .int .i64 r] 92) (.cells #[.int .i64 (x4 : Int), .int .i64 (x6 : Int), .int .i64 (x8 : Int), .int .i64 (x10 : Int)] 99) (.cells #[.string s, .int .i64 12, .bool false] 120)
  generalize (((w1.alloc (.cells #[.int .i64 a, .bool q, .int .i64 o, .bool aa, .bool tc, .bool rd, .bool ra, .int .i64 z, .int .i64 r] 92)).alloc (.cells #[.int .i64 (x4 : Int), .int .i64 (x6 : Int), .int .i64 (x8 : Int), .int .i64 (x10 : Int)] 99)).alloc (.cells #[.string s, .int .i64 12, .bool false] 120)) = w2 at *
  have hR2 : RdAt w2 (w1.heap.size + 1 + 1) s ⟨12, false⟩ := hC
  have hT2 : Tc w2 w1.heap.size _ x4 x6 x8 x10 := ⟨hA, hB⟩
  have hZ2 := (hW.block w.heap.size hl1).trans HKZ.out
  have hb02 : Below w.heap.size w w2 := hb01.trans (hW.mono (Nat.le_of_lt hl1))
  clear hA hB hC hW hb01 HKZ
  obtain ⟨g, hg⟩ : ∃ g, w1.heap.size = g := ⟨_, rfl⟩
  rw [hg] at hR2 hT2 hl1 ⊢
  clear hg
  have hbl := hR2.lt
  have HZ2 := Lib.hid hZ2
  have hS0 := tc_cells (show Tc w2.drew g _ x4 x6 x8 x10 from hT2)
  clear hZ2
  refine wp_region_noPanic ?_
  refine wp_region_held_drew (S := fun w' => TcS w' g (.int .i64 a) (.bool q) (.int .i64 o) (.bool aa) (.bool tc) (.bool rd) (.bool ra) (.int .i64 z) (.int .i64 r) x4 x6 x8 x10) (by kernel_rfl) hS0 (fun hHeld => ?_)
  unfold TcS at hS0
  refine take_op (i := 0) (v := ?_) rfl (by kernel_rfl) (by kernel_rfl) (by kernel_rfl) (fun _ _ _ h => h) (Or.inl ⟨by rfl, ?_⟩) (by assumption) ?_
  rotate_left
  · intro wS hSw; unfold TcS at hSw; go_simp; (try with_reducible rfl)
  try simp only [Act.put]
  refine take_op (i := 1) (v := ?_) rfl (by kernel_rfl) (by kernel_rfl) (by kernel_rfl) (fun _ _ _ h => h) (Or.inl ⟨by rfl, ?_⟩) (by assumption) ?_
  rotate_left
  · intro wS hSw; unfold TcS at hSw; go_simp; (try with_reducible rfl)
  try simp only [Act.put]
  refine take_op (i := 2) (v := ?_) rfl (by kernel_rfl) (by kernel_rfl) (by kernel_rfl) (fun _ _ _ h => h) (Or.inl ⟨by rfl, ?_⟩) (by assumption) ?_
  rotate_left
  · intro wS hSw; unfold TcS at hSw; go_simp; (try with_reducible rfl)
  try simp only [Act.put]
  refine take_op (i := 3) (v := ?_) rfl (by kernel_rfl) (by kernel_rfl) (by kernel_rfl) (fun _ _ _ h => h) (Or.inl ⟨by rfl, ?_⟩) (by assumption) ?_
  rotate_left
  · intro wS hSw; unfold TcS at hSw; go_simp; (try with_reducible rfl)
  try simp only [Act.put]
  refine all_op2 (i := 4) (j := 6) rfl rfl (by kernel_rfl) (fun K hK => ?_) (fun K hK => ?_)
  · go_simp
    refine (HL1.out _ _ hR2.drew).mono ?_
    rintro e wF ⟨⟨p1, n1, c1, rfl, hn1⟩, hRF, hBF⟩
    go_wp2_with fail
    have hB2F := Bar.ofDrew hBF
    have hTF := hT2.bar hB2F (by omega)
    refine hK.out _ _ (tc_cells hTF) (fun hHeld => ?_)
    clear hK K
    try simp only [Act.put]
    refine take_op (i := 5) (v := ?_) rfl (by kernel_rfl) (by kernel_rfl) (by kernel_rfl) (fun _ _ _ h => h) (Or.inl ⟨by rfl, ?_⟩) (by assumption) ?_
    rotate_left
    · intro wS hSw; unfold TcS at hSw; go_simp; (try with_reducible rfl)
    try simp only [Act.put]
    refine all_op (i := 6) rfl (by kernel_rfl) (fun K hK => ?_)
    go_simp
    refine hK.out _ _ (tc_cells (hTF.alloc _)) (fun hHeld => ?_)
    clear hK K
    try simp only [Act.put]
    refine all_op (i := 7) rfl (by kernel_rfl) (fun K hK => ?_)
    refine step_store_row rfl 96 (.tmp 8) (.tmp 32) rfl wF.heap.size ?_ ?_ ?_ 96 _ (heap_alloc_new wF _) ?_ ?_ ?_ ?_
    rotate_left
    · rfl
    · rfl
    · kernel_rfl
    · rfl
    · rfl
    refine hK.out _ _ ?_ (fun hHeld => ?_)
    · exact tc_cells ((hTF.alloc _).row hTF.lt)
    clear hK K
    try simp only [Act.put]
    refine wpAnyH_done (by kernel_rfl) ?_ _
    refine NoPanic.normal ?_
    have hk5 := setRow_heap (wF.alloc (.cells #[.int .i64 0, .bool false, .int .i64 0, .bool false, .bool false, .bool false, .bool false, .int .i64 0, .int .i64 0, .slice none 0 0, .slice none 0 0, .slice none 0 0, .slice none 0 0] 96)) wF.heap.size _ #[.int .i64 a, .bool q, .int .i64 o, .bool aa, .bool tc, .bool rd, .bool ra, .int .i64 z, .int .i64 r, .slice p1 n1 c1, .slice none 0 0, .slice none 0 0, .slice none 0 0] _ _ (heap_alloc_new wF (.cells #[.int .i64 0, .bool false, .int .i64 0, .bool false, .bool false, .bool false, .bool false, .int .i64 0, .int .i64 0, .slice none 0 0, .slice none 0 0, .slice none 0 0, .slice none 0 0] 96))
    have hR5 := (hRF.alloc (.cells #[.int .i64 0, .bool false, .int .i64 0, .bool false, .bool false, .bool false, .bool false, .int .i64 0, .int .i64 0, .slice none 0 0, .slice none 0 0, .slice none 0 0, .slice none 0 0] 96)).row (k := wF.heap.size) (cs := #[.int .i64 a, .bool q, .int .i64 o, .bool aa, .bool tc, .bool rd, .bool ra, .int .i64 z, .int .i64 r, .slice p1 n1 c1, .slice none 0 0, .slice none 0 0, .slice none 0 0]) (by have := hRF.lt; omega)
    have hB5 := (hB2F.alloc hbl (.cells #[.int .i64 0, .bool false, .int .i64 0, .bool false, .bool false, .bool false, .bool false, .int .i64 0, .int .i64 0, .slice none 0 0, .slice none 0 0, .slice none 0 0, .slice none 0 0] 96)).row (k := wF.heap.size) (cs := #[.int .i64 a, .bool q, .int .i64 o, .bool aa, .bool tc, .bool rd, .bool ra, .int .i64 z, .int .i64 r, .slice p1 n1 c1, .slice none 0 0, .slice none 0 0, .slice none 0 0]) hB2F.size hbl
    have hg8 : w2.heap.size ≤ wF.heap.size := hB2F.size
    have hl8 : wF.heap.size < ((wF.alloc (.cells #[.int .i64 0, .bool false, .int .i64 0, .bool false, .bool false, .bool false, .bool false, .int .i64 0, .int .i64 0, .slice none 0 0, .slice none 0 0, .slice none 0 0, .slice none 0 0] 96)).setRow wF.heap.size #[.int .i64 a, .bool q, .int .i64 o, .bool aa, .bool tc, .bool rd, .bool ra, .int .i64 z, .int .i64 r, .slice p1 n1 c1, .slice none 0 0, .slice none 0 0, .slice none 0 0]).heap.size := by simp
    generalize (wF.alloc (.cells #[.int .i64 0, .bool false, .int .i64 0, .bool false, .bool false, .bool false, .bool false, .int .i64 0, .int .i64 0, .slice none 0 0, .slice none 0 0, .slice none 0 0, .slice none 0 0] 96)).setRow wF.heap.size #[.int .i64 a, .bool q, .int .i64 o, .bool aa, .bool tc, .bool rd, .bool ra, .int .i64 z, .int .i64 r, .slice p1 n1 c1, .slice none 0 0, .slice none 0 0, .slice none 0 0] = w5 at *
    clear hBF hRF hB2F hTF hHeld hS0
    generalize wF.heap.size = g8 at *
    have hT5 := hT2.bar hB5 (by omega)
    have i0 := Tryz.idx125_0
    have i1 := Tryz.idx125_1
    have i2 := Tryz.idx125_2
    have e1 : g + 1 + 1 ≠ g8 := by omega
    have e2 : g8 ≠ g + 1 + 1 := by omega
    have e3 : g + 1 ≠ g8 := by omega
    have e4 : g8 ≠ g + 1 := by omega
    obtain ⟨_, t1, _, _, _⟩ := q4_c hT5.2
    have HK5 := Lib.hid hk5
    have HT5 := Lib.hid hT5
    clear hk5 hT5
    go_wp2_with fail
    refine wp_loop_rounds 4 ?_
    rw [rounds_succ]
    go_wp2_with fail
    refine (HL2.out _ _ hR5).mono ?_
    rintro e w6 ⟨⟨p2, n2, c2, rfl, hn2⟩, hR6, hB6⟩
    have hk6 := (hB6.2 g8 hl8 e2).trans HK5.out
    have hl6 : g8 < w6.heap.size := Nat.lt_of_lt_of_le hl8 hB6.size
    have hT6 := HT5.out.bar hB6 (by omega)
    have hB26 := hB5.trans hB6
    obtain ⟨_, _, u1, _, _⟩ := q4_c hT6.2
    obtain ⟨_, _, _, _, _, _, _, _, _, _, s10, _, _, sf⟩ := m13_c hk6
    have HK6 := Lib.hid hk6
    have HT6 := Lib.hid hT6
    clear hk6 hT6 hB6 hB5 t1 hR5 hl8
    go_wp2_with fail
    rw [rounds_succ]
    go_wp2_with fail
    refine (HL3.out _ _ (hR6.far e1 10 _)).mono ?_
    rintro e w7 ⟨⟨p3, n3, c3, rfl, hn3⟩, hR7, hB7⟩
    have hk7 := (hB7.2 g8 (by simpa [World.setCell] using hl6) e2).trans (msg_set10 HK6.out)
    have hl7 : g8 < w7.heap.size := Nat.lt_of_lt_of_le (by simpa [World.setCell] using hl6) hB7.size
    have hB27 := (hB26.setNew hg8 (by omega) 10 _).trans hB7
    have hT7 := hT2.bar hB27 (by omega)
    obtain ⟨_, _, _, u2, _⟩ := q4_c hT7.2
    obtain ⟨_, _, _, _, _, _, _, _, _, _, _, s11, _, sf7⟩ := m13_c hk7
    have HK7 := Lib.hid hk7
    clear hk7 hT7 hB7 hB26 u1 hR6 hl6 s10 sf
    go_wp2_with fail
    rw [rounds_succ]
    go_wp2_with fail
    refine (HL4.out _ _ (hR7.far e1 11 _)).mono ?_
    rintro e w8 ⟨⟨p4, n4, c4, rfl, hn4⟩, hR8, hB8⟩
    have hk8 := (hB8.2 g8 (by simpa [World.setCell] using hl7) e2).trans (msg_set11 HK7.out)
    have hl8 : g8 < w8.heap.size := Nat.lt_of_lt_of_le (by simpa [World.setCell] using hl7) hB8.size
    have hB28 := (hB27.setNew hg8 (by omega) 11 _).trans hB8
    have hk9 := msg_set12 (v := .slice p4 n4 c4) hk8
    have hB29 := hB28.setNew hg8 (by omega) 12 (.slice p4 n4 c4)
    have hR9 := hR8.far e1 12 (.slice p4 n4 c4)
    obtain ⟨_, _, _, _, _, _, _, _, _, _, _, _, s12, sf8⟩ := m13_c hk8
    have HK9 := Lib.hid hk9
    have HB9 := Lib.hid hB29
    have HR9 := Lib.hid hR9
    clear hk8 hB8 hB27 hB28 u2 hR7 hl7 s11 sf7 hk9 hB29 hR9 hR8
    go_wp2_with fail
    rw [rounds_succ]
    generalize w8.setCell ⟨g8, 12, none⟩ (.slice p4 n4 c4) = w9 at *
    have hz9 := (HB9.out.2 w.heap.size (by omega) (by omega)).trans HZ2.out
    have hbw : Below w.heap.size w w9 := hb02.trans (HB9.out.1.mono (by omega))
    obtain ⟨z0, z1, z2, z3, z4, z5, z6, z7, z8, z9, z10, z11, z12, fz⟩ := m13_c hz9
    have HZ9 := Lib.hid hz9
    have HBW := Lib.hid hbw
    have d1 := HR9.out.c1
    have d2 := HR9.out.c2
    clear hz9 hbw s12 sf8 hl8
    cases hbad : r4.bad with
    | true =>
      rw [hbad] at d2
      have HBAD := Lib.hid hbad
      clear hbad
      go_wp2_with fail
      refine bodyPost_ret (results_two (a := 2) (t := 96) (u := 3) rfl _ _ ⟨w.heap.size, 0, none⟩ _ rfl (run_loadVar_row _ _ 96 96 zeroMsg (0, 0) _ (heap_set13 HZ9.out) Tryz.underlying96 rfl (by kernel_rfl))) rfl ?_
      rw [← HGV.out, if_pos (.inl HBAD.out)]
      exact ⟨below_set13 HBW.out (Nat.le_refl _), 0, 0, 0, 0, false, false, false, false, false, none, 0, 0, none, 0, 0, none, 0, 0, none, 0, 0, 700, rfl, by decide, by decide, by decide, by decide, rfl⟩
    | false =>
      rw [hbad] at d2
      have HBAD := Lib.hid hbad
      clear hbad
      by_cases hat : r4.i = s.size
      · have hq : ((r4.i : Int) != (s.size : Int)) = false := by simp; omega
        obtain ⟨y0, y1, y2, y3, y4, y5, y6, y7, y8, y9, y10, y11, y12, fy⟩ := m13_c HK9.out
        have HAT := Lib.hid hat
        have hr3 : r3.bad = false := by
          cases h : r3.bad with
          | false => rfl
          | true => have := HK4.out h; rw [HBAD.out] at this; cases this
        have hr2 : r2.bad = false := by
          cases h : r2.bad with
          | false => rfl
          | true => have := HK3.out h; rw [hr3] at this; cases this
        have hr1 : r1.bad = false := by
          cases h : r1.bad with
          | false => rfl
          | true => have := HK2.out h; rw [hr2] at this; cases this
        have hN := Lib.hid (And.intro (hn1 hr1) (And.intro (hn2 hr2) (And.intro (hn3 hr3) (hn4 HBAD.out))))
        clear hat hr1 hr2 hr3 hn1 hn2 hn3 hn4
        go_wp2_with fail
        refine bodyPost_ret (results_two (a := 2) (t := 96) (u := 3) rfl _ _ ⟨w.heap.size, 0, none⟩ _ rfl (run_loadVar_row _ _ 96 96 (msgOf a o z r q aa tc rd ra (.slice p1 n1 c1) (.slice p2 n2 c2) (.slice p3 n3 c3) (.slice p4 n4 c4)) (0, 0) _ (heap_set13 HZ9.out) Tryz.underlying96 rfl (by kernel_rfl))) rfl ?_
        rw [← HGV.out, if_neg (fun h => h.elim (fun h => by rw [HBAD.out] at h; cases h) (fun h => h HAT.out))]
        obtain ⟨e1, e2, e3, e4⟩ := hN.out
        exact ⟨below_set13 HBW.out (Nat.le_refl _), a, o, z, r, q, aa, tc, rd, ra, p1, n1, c1, p2, n2, c2, p3, n3, c3, p4, n4, c4, 0, rfl, by omega, by omega, by omega, by omega, rfl, e1, e2, e3, e4⟩
      · have hq : ((r4.i : Int) != (s.size : Int)) = true := by simp; omega
        have HAT := Lib.hid hat
        clear hat
        go_wp2_with fail
        refine bodyPost_ret (results_two (a := 2) (t := 96) (u := 3) rfl _ _ ⟨w.heap.size, 0, none⟩ _ rfl (run_loadVar_row _ _ 96 96 zeroMsg (0, 0) _ (heap_set13 HZ9.out) Tryz.underlying96 rfl (by kernel_rfl))) rfl ?_
        rw [← HGV.out, if_pos (.inr HAT.out)]
        exact ⟨below_set13 HBW.out (Nat.le_refl _), 0, 0, 0, 0, false, false, false, false, false, none, 0, 0, none, 0, 0, none, 0, 0, none, 0, 0, 700, rfl, by decide, by decide, by decide, by decide, rfl⟩
  · go_simp
    refine hK.out _ _ (tc_cells ((hT2.alloc _ : Tc (w2.alloc (.cells zeroMsg 96)) g _ x4 x6 x8 x10))) (fun hHeld => ?_)
    clear hK K
    try simp only [Act.put]
    refine all_op (i := 4) rfl (by kernel_rfl) (fun K hK => ?_)
    go_simp
    refine (HL1.out _ _ (hR2.alloc _).drew).mono ?_
    rintro e wF ⟨⟨p1, n1, c1, rfl, hn1⟩, hRF, hBF⟩
    go_wp2_with fail
    have hB2F : Bar (g + 1 + 1) w2 wF := ((Bar.refl _ w2).alloc hbl (.cells zeroMsg 96)).trans (show Bar (g + 1 + 1) (w2.alloc (.cells zeroMsg 96)) wF from Bar.ofDrew hBF)
    have hTF := hT2.bar hB2F (by omega)
    have hgF := (hBF.2 w2.heap.size (by show _ < (w2.alloc _).heap.size; simp) (by omega)).trans (heap_alloc_new w2 (.cells zeroMsg 96))
    refine hK.out _ _ (tc_cells hTF) (fun hHeld => ?_)
    clear hK K
    try simp only [Act.put]
    refine take_op (i := 5) (v := ?_) rfl (by kernel_rfl) (by kernel_rfl) (by kernel_rfl) (fun _ _ _ h => h) (Or.inl ⟨by rfl, ?_⟩) (by assumption) ?_
    rotate_left
    · intro wS hSw; unfold TcS at hSw; go_simp; (try with_reducible rfl)
    try simp only [Act.put]
    refine all_op (i := 7) rfl (by kernel_rfl) (fun K hK => ?_)
    refine step_store_row rfl 96 (.tmp 8) (.tmp 32) rfl w2.heap.size ?_ ?_ ?_ 96 _ hgF ?_ ?_ ?_ ?_
    rotate_left
    · rfl
    · rfl
    · kernel_rfl
    · rfl
    · rfl
    refine hK.out _ _ ?_ (fun hHeld => ?_)
    · exact tc_cells (hTF.row hT2.lt)
    clear hK K
    try simp only [Act.put]
    refine wpAnyH_done (by kernel_rfl) ?_ _
    refine NoPanic.normal ?_
    have hk5 := setRow_heap wF w2.heap.size _ #[.int .i64 a, .bool q, .int .i64 o, .bool aa, .bool tc, .bool rd, .bool ra, .int .i64 z, .int .i64 r, .slice p1 n1 c1, .slice none 0 0, .slice none 0 0, .slice none 0 0] _ _ hgF
    have hR5 := hRF.row (k := w2.heap.size) (cs := #[.int .i64 a, .bool q, .int .i64 o, .bool aa, .bool tc, .bool rd, .bool ra, .int .i64 z, .int .i64 r, .slice p1 n1 c1, .slice none 0 0, .slice none 0 0, .slice none 0 0]) (by omega)
    have hB5 := hB2F.row (k := w2.heap.size) (cs := #[.int .i64 a, .bool q, .int .i64 o, .bool aa, .bool tc, .bool rd, .bool ra, .int .i64 z, .int .i64 r, .slice p1 n1 c1, .slice none 0 0, .slice none 0 0, .slice none 0 0]) (Nat.le_refl _) hbl
    have hl8 : w2.heap.size < (wF.setRow w2.heap.size #[.int .i64 a, .bool q, .int .i64 o, .bool aa, .bool tc, .bool rd, .bool ra, .int .i64 z, .int .i64 r, .slice p1 n1 c1, .slice none 0 0, .slice none 0 0, .slice none 0 0]).heap.size := by simpa using Nat.lt_of_lt_of_le (show w2.heap.size < (w2.alloc (.cells zeroMsg 96)).heap.size by simp) (Bar.ofDrew hBF).size
    generalize wF.setRow w2.heap.size #[.int .i64 a, .bool q, .int .i64 o, .bool aa, .bool tc, .bool rd, .bool ra, .int .i64 z, .int .i64 r, .slice p1 n1 c1, .slice none 0 0, .slice none 0 0, .slice none 0 0] = w5 at *
    obtain ⟨g8, hg8e⟩ : ∃ g8, w2.heap.size = g8 := ⟨_, rfl⟩
    have hg8 : w2.heap.size ≤ g8 := by omega
    rw [hg8e] at hk5 hl8 ⊢
    clear hBF hRF hB2F hTF hHeld hS0 hgF hg8e
    have hT5 := hT2.bar hB5 (by omega)
    have i0 := Tryz.idx125_0
    have i1 := Tryz.idx125_1
    have i2 := Tryz.idx125_2
    have e1 : g + 1 + 1 ≠ g8 := by omega
    have e2 : g8 ≠ g + 1 + 1 := by omega
    have e3 : g + 1 ≠ g8 := by omega
    have e4 : g8 ≠ g + 1 := by omega
    obtain ⟨_, t1, _, _, _⟩ := q4_c hT5.2
    have HK5 := Lib.hid hk5
    have HT5 := Lib.hid hT5
    clear hk5 hT5
    go_wp2_with fail
    refine wp_loop_rounds 4 ?_
    rw [rounds_succ]
    go_wp2_with fail
    refine (HL2.out _ _ hR5).mono ?_
    rintro e w6 ⟨⟨p2, n2, c2, rfl, hn2⟩, hR6, hB6⟩
    have hk6 := (hB6.2 g8 hl8 e2).trans HK5.out
    have hl6 : g8 < w6.heap.size := Nat.lt_of_lt_of_le hl8 hB6.size
    have hT6 := HT5.out.bar hB6 (by omega)
    have hB26 := hB5.trans hB6
    obtain ⟨_, _, u1, _, _⟩ := q4_c hT6.2
    obtain ⟨_, _, _, _, _, _, _, _, _, _, s10, _, _, sf⟩ := m13_c hk6
    have HK6 := Lib.hid hk6
    have HT6 := Lib.hid hT6
    clear hk6 hT6 hB6 hB5 t1 hR5 hl8
    go_wp2_with fail
    rw [rounds_succ]
    go_wp2_with fail
    refine (HL3.out _ _ (hR6.far e1 10 _)).mono ?_
    rintro e w7 ⟨⟨p3, n3, c3, rfl, hn3⟩, hR7, hB7⟩
    have hk7 := (hB7.2 g8 (by simpa [World.setCell] using hl6) e2).trans (msg_set10 HK6.out)
    have hl7 : g8 < w7.heap.size := Nat.lt_of_lt_of_le (by simpa [World.setCell] using hl6) hB7.size
    have hB27 := (hB26.setNew hg8 (by omega) 10 _).trans hB7
    have hT7 := hT2.bar hB27 (by omega)
    obtain ⟨_, _, _, u2, _⟩ := q4_c hT7.2
    obtain ⟨_, _, _, _, _, _, _, _, _, _, _, s11, _, sf7⟩ := m13_c hk7
    have HK7 := Lib.hid hk7
    clear hk7 hT7 hB7 hB26 u1 hR6 hl6 s10 sf
    go_wp2_with fail
    rw [rounds_succ]
    go_wp2_with fail
    refine (HL4.out _ _ (hR7.far e1 11 _)).mono ?_
    rintro e w8 ⟨⟨p4, n4, c4, rfl, hn4⟩, hR8, hB8⟩
    have hk8 := (hB8.2 g8 (by simpa [World.setCell] using hl7) e2).trans (msg_set11 HK7.out)
    have hl8 : g8 < w8.heap.size := Nat.lt_of_lt_of_le (by simpa [World.setCell] using hl7) hB8.size
    have hB28 := (hB27.setNew hg8 (by omega) 11 _).trans hB8
    have hk9 := msg_set12 (v := .slice p4 n4 c4) hk8
    have hB29 := hB28.setNew hg8 (by omega) 12 (.slice p4 n4 c4)
    have hR9 := hR8.far e1 12 (.slice p4 n4 c4)
    obtain ⟨_, _, _, _, _, _, _, _, _, _, _, _, s12, sf8⟩ := m13_c hk8
    have HK9 := Lib.hid hk9
    have HB9 := Lib.hid hB29
    have HR9 := Lib.hid hR9
    clear hk8 hB8 hB27 hB28 u2 hR7 hl7 s11 sf7 hk9 hB29 hR9 hR8
    go_wp2_with fail
    rw [rounds_succ]
    generalize w8.setCell ⟨g8, 12, none⟩ (.slice p4 n4 c4) = w9 at *
    have hz9 := (HB9.out.2 w.heap.size (by omega) (by omega)).trans HZ2.out
    have hbw : Below w.heap.size w w9 := hb02.trans (HB9.out.1.mono (by omega))
    obtain ⟨z0, z1, z2, z3, z4, z5, z6, z7, z8, z9, z10, z11, z12, fz⟩ := m13_c hz9
    have HZ9 := Lib.hid hz9
    have HBW := Lib.hid hbw
    have d1 := HR9.out.c1
    have d2 := HR9.out.c2
    clear hz9 hbw s12 sf8 hl8
    cases hbad : r4.bad with
    | true =>
      rw [hbad] at d2
      have HBAD := Lib.hid hbad
      clear hbad
      go_wp2_with fail
      refine bodyPost_ret (results_two (a := 2) (t := 96) (u := 3) rfl _ _ ⟨w.heap.size, 0, none⟩ _ rfl (run_loadVar_row _ _ 96 96 zeroMsg (0, 0) _ (heap_set13 HZ9.out) Tryz.underlying96 rfl (by kernel_rfl))) rfl ?_
      rw [← HGV.out, if_pos (.inl HBAD.out)]
      exact ⟨below_set13 HBW.out (Nat.le_refl _), 0, 0, 0, 0, false, false, false, false, false, none, 0, 0, none, 0, 0, none, 0, 0, none, 0, 0, 700, rfl, by decide, by decide, by decide, by decide, rfl⟩
    | false =>
      rw [hbad] at d2
      have HBAD := Lib.hid hbad
      clear hbad
      by_cases hat : r4.i = s.size
      · have hq : ((r4.i : Int) != (s.size : Int)) = false := by simp; omega
        obtain ⟨y0, y1, y2, y3, y4, y5, y6, y7, y8, y9, y10, y11, y12, fy⟩ := m13_c HK9.out
        have HAT := Lib.hid hat
        have hr3 : r3.bad = false := by
          cases h : r3.bad with
          | false => rfl
          | true => have := HK4.out h; rw [HBAD.out] at this; cases this
        have hr2 : r2.bad = false := by
          cases h : r2.bad with
          | false => rfl
          | true => have := HK3.out h; rw [hr3] at this; cases this
        have hr1 : r1.bad = false := by
          cases h : r1.bad with
          | false => rfl
          | true => have := HK2.out h; rw [hr2] at this; cases this
        have hN := Lib.hid (And.intro (hn1 hr1) (And.intro (hn2 hr2) (And.intro (hn3 hr3) (hn4 HBAD.out))))
        clear hat hr1 hr2 hr3 hn1 hn2 hn3 hn4
        go_wp2_with fail
        refine bodyPost_ret (results_two (a := 2) (t := 96) (u := 3) rfl _ _ ⟨w.heap.size, 0, none⟩ _ rfl (run_loadVar_row _ _ 96 96 (msgOf a o z r q aa tc rd ra (.slice p1 n1 c1) (.slice p2 n2 c2) (.slice p3 n3 c3) (.slice p4 n4 c4)) (0, 0) _ (heap_set13 HZ9.out) Tryz.underlying96 rfl (by kernel_rfl))) rfl ?_
        rw [← HGV.out, if_neg (fun h => h.elim (fun h => by rw [HBAD.out] at h; cases h) (fun h => h HAT.out))]
        obtain ⟨e1, e2, e3, e4⟩ := hN.out
        exact ⟨below_set13 HBW.out (Nat.le_refl _), a, o, z, r, q, aa, tc, rd, ra, p1, n1, c1, p2, n2, c2, p3, n3, c3, p4, n4, c4, 0, rfl, by omega, by omega, by omega, by omega, rfl, e1, e2, e3, e4⟩
      · have hq : ((r4.i : Int) != (s.size : Int)) = true := by simp; omega
        have HAT := Lib.hid hat
        clear hat
        go_wp2_with fail
        refine bodyPost_ret (results_two (a := 2) (t := 96) (u := 3) rfl _ _ ⟨w.heap.size, 0, none⟩ _ rfl (run_loadVar_row _ _ 96 96 zeroMsg (0, 0) _ (heap_set13 HZ9.out) Tryz.underlying96 rfl (by kernel_rfl))) rfl ?_
        rw [← HGV.out, if_pos (.inr HAT.out)]
        exact ⟨below_set13 HBW.out (Nat.le_refl _), 0, 0, 0, 0, false, false, false, false, false, none, 0, 0, none, 0, 0, none, 0, 0, none, 0, 0, 700, rfl, by decide, by decide, by decide, by decide, rfl⟩
end Go.Proofs.YtolbfeggceemfaaGreatDoor
