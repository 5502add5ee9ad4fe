/-
  The walk of head.Get. Condition: the text is of at most 100000 bytes.
-/
import Derived.Test.YtolbfeggceemfaaGreatDoorG10
import Derived.StillTailTactics
namespace Go.Proofs.YtolbfeggceemfaaGreatDoor
open Go.RowKit
namespace Rd
/-- Two bytes as a number. -/
def two (l : List UInt8) (i : Nat) : Nat := Oc.be 0 ((l.drop i).take 2)
theorem two_lt (l : List UInt8) (i : Nat) : two l i ≤ 65535 := by
  have h := Oc.be_lt ((l.drop i).take 2) 0
  have h2 : ((l.drop i).take 2).length ≤ 2 := by rw [List.length_take]; omega
  have h3 : 256 ^ ((l.drop i).take 2).length ≤ 256 ^ 2 := Nat.pow_le_pow_right (by decide) h2
  unfold two
  omega
end Rd
theorem u16_at (s : ByteArray) (i : Nat) (z z2 : Int) (w : World) (hs : s.size ≤ 100000) (h : i + 2 ≤ s.size) (hz : (i : Int) = z) (hz2 : ((i + 2 : Nat) : Int) = z2) :
    Calls Tryz.prog 111 #[.string s, .int .i64 z] w fun e w' => e = .returned (.tuple #[.int .i64 (Rd.two s.data.toList i : Int), .int .i64 z2, .int .i64 0]) ∧ w = w' := by
  subst hz
  subst hz2
  have h1 := u16_calls s i w (by omega) (by omega)
  rw [Oc.num, if_pos (by rw [← Lib.size_eq]; exact h)] at h1
  refine h1.mono ?_
  rintro e w' ⟨h2, h3⟩
  exact ⟨h3, h2⟩

def bitD (k : Int) : Int := if k = 15 then 32768 else if k = 10 then 1024 else if k = 9 then 512 else if k = 8 then 256 else 128
set_option maxHeartbeats 1000000 in
set_option maxRecDepth 100000 in
theorem bitGet_calls (k f : Int) (g : Nat) (w : World) (hk : k = 15 ∨ k = 10 ∨ k = 9 ∨ k = 8 ∨ k = 7) (hc : w.cell? ⟨g, 0, none⟩ = some (.int .i64 f)) :
    Calls Tryz.prog 112 #[.int .i64 k, .pointer (some ⟨g, 0, none⟩)] w fun e w' => e = .returned (.bool (bits BinOp.and IntKind.i64 (f / bitD k) 1 == 1)) ∧ w' = w := by
  rcases hk with rfl | rfl | rfl | rfl | rfl
  all_goals
    go_enter Tryz.func112, Tryz.ntmps112
    go_wp2
    go_ret
    exact ⟨rfl, rfl⟩

theorem results_cell3 {P : Program} {fn : Func} {t t2 : TypeId} {a b u : Tmp} (h : fn.results = #[.cell a t, .cell b t2, .tmp u]) (tmps : Array Value) (w : World) (p q : Addr) (v v2 : Value) (ha : tmps.getD a undef = .pointer (some p)) (hb : tmps.getD b undef = .pointer (some q))
    (hl : (loadVar t p).run P w = .ok v w) (hl2 : (loadVar t2 q).run P w = .ok v2 w) : (results fn tmps).run P w = .ok (.tuple #[v, v2, tmps.getD u undef]) w := by
  have ha' : tmps[a]?.getD undef = .pointer (some p) := by simpa using ha
  have hb' : tmps[b]?.getD undef = .pointer (some q) := by simpa using hb
  simp [results, h, ha', hb', hl, hl2, asAddr, Result.andThen]

theorem four_new (w : World) (o1 o2 o3 o4 : Obj) : ((((w.alloc o1).alloc o2).alloc o3).alloc o4).heap[w.heap.size]? = some o1 ∧ ((((w.alloc o1).alloc o2).alloc o3).alloc o4).heap[w.heap.size + 1]? = some o2 ∧
    ((((w.alloc o1).alloc o2).alloc o3).alloc o4).heap[w.heap.size + 1 + 1]? = some o3 ∧ ((((w.alloc o1).alloc o2).alloc o3).alloc o4).heap[w.heap.size + 1 + 1 + 1]? = some o4 ∧ Below w.heap.size w ((((w.alloc o1).alloc o2).alloc o3).alloc o4) := by
  have e1 : (w.alloc o1).heap.size = w.heap.size + 1 := by simp
  have e2 : ((w.alloc o1).alloc o2).heap.size = w.heap.size + 1 + 1 := by simp
  have e3 : (((w.alloc o1).alloc o2).alloc o3).heap.size = w.heap.size + 1 + 1 + 1 := by simp
  refine ⟨?_, ?_, ?_, ?_, (((Below.refl _ w).alloc (Nat.le_refl _) _).alloc (by omega) _).alloc (by omega) _ |>.alloc (by omega) _⟩
  · rw [Lib.alloc_old _ _ _ (by omega), Lib.alloc_old _ _ _ (by omega), Lib.alloc_old _ _ _ (by omega)]
    exact heap_alloc_new w _
  · rw [Lib.alloc_old _ _ _ (by omega), Lib.alloc_old _ _ _ (by omega), ← e1]
    exact heap_alloc_new (w.alloc o1) _
  · rw [Lib.alloc_old _ _ _ (by omega), ← e2]
    exact heap_alloc_new ((w.alloc o1).alloc o2) _
  · rw [← e3]
    exact heap_alloc_new (((w.alloc o1).alloc o2).alloc o3) _
theorem cells_set4 {w : World} {g : Nat} {T : TypeId} {a b c d x0 x1 x2 x3 : Value} (h : w.heap[g]? = some (.cells #[a, b, c, d] T (0, 0))) :
    ((((w.setCell ⟨g, 0, none⟩ x0).setCell ⟨g, 1, none⟩ x1).setCell ⟨g, 2, none⟩ x2).setCell ⟨g, 3, none⟩ x3).heap[g]? = some (.cells #[x0, x1, x2, x3] T (0, 0)) :=
  Lib.heap_setCell_same (Lib.heap_setCell_same (Lib.heap_setCell_same (Lib.heap_setCell_same h x0) x1) x2) x3
theorem far4 {w : World} {k g : Nat} {o : Option Obj} {x0 x1 x2 x3 : Value} (h : w.heap[k]? = o) (hn : k ≠ g) :
    ((((w.setCell ⟨g, 0, none⟩ x0).setCell ⟨g, 1, none⟩ x1).setCell ⟨g, 2, none⟩ x2).setCell ⟨g, 3, none⟩ x3).heap[k]? = o :=
  heap_far (heap_far (heap_far (heap_far h hn 0 x0) hn 1 x1) hn 2 x2) hn 3 x3
theorem below_set4 {B g : Nat} {w0 w : World} {x0 x1 x2 x3 : Value} (h : Below B w0 w) (hB : B ≤ g) :
    Below B w0 ((((w.setCell ⟨g, 0, none⟩ x0).setCell ⟨g, 1, none⟩ x1).setCell ⟨g, 2, none⟩ x2).setCell ⟨g, 3, none⟩ x3) :=
  (((h.setCell (p := ⟨g, 0, none⟩) hB _).setCell (p := ⟨g, 1, none⟩) hB _).setCell (p := ⟨g, 2, none⟩) hB _).setCell (p := ⟨g, 3, none⟩) hB _
theorem q4_c {w : World} {g : Nat} {T : TypeId} {v0 v1 v2 v3 : Value} (h : w.heap[g]? = some (.cells #[v0, v1, v2, v3] T (0, 0))) : w.cell? ⟨g, 0, none⟩ = some v0 ∧ w.cell? ⟨g, 1, none⟩ = some v1 ∧ w.cell? ⟨g, 2, none⟩ = some v2 ∧ w.cell? ⟨g, 3, none⟩ = some v3 ∧ ∀ j : Nat, w.frozen? ⟨g, j, none⟩ = false :=
  ⟨by rw [Lib.cell_of_heap h]; rfl, by rw [Lib.cell_of_heap h]; rfl, by rw [Lib.cell_of_heap h]; rfl, by rw [Lib.cell_of_heap h]; rfl, fun j => Lib.frozen_of_heap h j⟩

def zeroHd : Array Value := #[.int .i64 0, .bool false, .int .i64 0, .bool false, .bool false, .bool false, .bool false, .int .i64 0, .int .i64 0]
def zero4 : Array Value := #[.int .i64 0, .int .i64 0, .int .i64 0, .int .i64 0]

/-- The blocks of the counts and of the flags, behind the result's two. -/
def Hc (w : World) (g f x4 x6 x8 x10 : Nat) : Prop := w.heap[g + 1 + 1]? = some (.cells #[.int .i64 (x4 : Int), .int .i64 (x6 : Int), .int .i64 (x8 : Int), .int .i64 (x10 : Int)] 99 (0, 0)) ∧ w.heap[g + 1 + 1 + 1]? = some (.cells #[.int .i64 (f : Int)] 3 (0, 0))
theorem hc_cells {w : World} {g f x4 x6 x8 x10 : Nat} (h : Hc w g f x4 x6 x8 x10) : Hc w g f x4 x6 x8 x10 ∧ w.cell? ⟨g + 1 + 1 + 1, 0, none⟩ = some (.int .i64 (f : Int)) ∧ w.cell? ⟨g + 1 + 1, 0, none⟩ = some (.int .i64 (x4 : Int)) ∧
    w.cell? ⟨g + 1 + 1, 1, none⟩ = some (.int .i64 (x6 : Int)) ∧ w.cell? ⟨g + 1 + 1, 2, none⟩ = some (.int .i64 (x8 : Int)) ∧ w.cell? ⟨g + 1 + 1, 3, none⟩ = some (.int .i64 (x10 : Int)) :=
  ⟨h, by rw [Lib.cell_of_heap h.2]; rfl, by rw [Lib.cell_of_heap h.1]; rfl, by rw [Lib.cell_of_heap h.1]; rfl, by rw [Lib.cell_of_heap h.1]; rfl, by rw [Lib.cell_of_heap h.1]; rfl⟩
theorem Hc.set4 {w : World} {g f x4 x6 x8 x10 : Nat} {y0 y1 y2 y3 : Value} (h : Hc w g f x4 x6 x8 x10) : Hc ((((w.setCell ⟨g + 1, 0, none⟩ y0).setCell ⟨g + 1, 1, none⟩ y1).setCell ⟨g + 1, 2, none⟩ y2).setCell ⟨g + 1, 3, none⟩ y3) g f x4 x6 x8 x10 :=
  ⟨far4 h.1 (by omega), far4 h.2 (by omega)⟩
theorem step_store_row {ops : Array Oper} {o : Oper} {a : Act} {w : World} {K : Act → World → Prop} {Q : Exit → Act → World → Prop} {E : Prop} (hgd : o.guard = none) (ty : TypeId) (x y : Operand) (ho : o.op = .store ty x y)
    (g : Nat) (cells : List Value) (hx : a.eval x = .pointer (some ⟨g, 0, none⟩)) (hy : a.eval y = .agg cells.toArray)
    (t : TypeId) (old : List Value) (hg : w.heap[g]? = some (.cells old.toArray t (0, 0))) (hi : (Tryz.prog.info? ty).map (·.size) = some cells.length)
    (hold : old.length = cells.length) (h1 : cells.all (·.oneCell') = true)
    (h : K (a.put o.dst undef) (w.setRow g cells.toArray)) : if Region.wanted o (yielded ops a.tmps) = true then Oper.wp Tryz.prog o a w K Q else E := by
  have hw : Region.wanted o (yielded ops a.tmps) = true := by simp [Region.wanted, hgd]
  rw [if_pos hw]
  exact wp_store_row ty x y ho g cells.toArray hx hy t old.toArray hg (by rw [hi]; simp) (by simpa using hold) (by simpa using h1) h
theorem Hc.row {w : World} {g f x4 x6 x8 x10 k : Nat} {cs : Array Value} (h : Hc w g f x4 x6 x8 x10) (hk : k = g ∨ k = g + 1) : Hc (w.setRow k cs) g f x4 x6 x8 x10 :=
  ⟨(setRow_other _ _ _ _ (by omega)).trans h.1, (setRow_other _ _ _ _ (by omega)).trans h.2⟩
theorem below_row {B g : Nat} {w0 w : World} {cs : Array Value} (h : Below B w0 w) (hB : B ≤ g) : Below B w0 (w.setRow g cs) :=
  ⟨h.os, h.tape, h.output, by simpa using h.size, fun k hk => (setRow_other _ _ _ _ (by omega)).trans (h.block k hk)⟩
theorem h9_c {w : World} {g : Nat} {T : TypeId} {v0 v1 v2 v3 v4 v5 v6 v7 v8 : Value} (h : w.heap[g]? = some (.cells #[v0, v1, v2, v3, v4, v5, v6, v7, v8] T (0, 0))) : w.cell? ⟨g, 0, none⟩ = some v0 ∧ w.cell? ⟨g, 1, none⟩ = some v1 ∧ w.cell? ⟨g, 2, none⟩ = some v2 ∧ w.cell? ⟨g, 3, none⟩ = some v3 ∧
    w.cell? ⟨g, 4, none⟩ = some v4 ∧ w.cell? ⟨g, 5, none⟩ = some v5 ∧ w.cell? ⟨g, 6, none⟩ = some v6 ∧ w.cell? ⟨g, 7, none⟩ = some v7 ∧ w.cell? ⟨g, 8, none⟩ = some v8 ∧ ∀ j : Nat, w.frozen? ⟨g, j, none⟩ = false :=
  ⟨by rw [Lib.cell_of_heap h]; rfl, by rw [Lib.cell_of_heap h]; rfl, by rw [Lib.cell_of_heap h]; rfl, by rw [Lib.cell_of_heap h]; rfl, by rw [Lib.cell_of_heap h]; rfl, by rw [Lib.cell_of_heap h]; rfl, by rw [Lib.cell_of_heap h]; rfl, by rw [Lib.cell_of_heap h]; rfl, by rw [Lib.cell_of_heap h]; rfl, fun j => Lib.frozen_of_heap h j⟩

theorem take_op {l : List Oper} {Q : Exit → Act → World → Prop} {md : Region.Mode} {S : World → Prop} {i : Nat} {oi : Oper} {rest : List Oper} {v : Value} {fuel : Nat} {listed : Array Bool} {a : Act} {w : World} (hd : l.drop i = oi :: rest)
    (hs : Region.noSelect l.toArray = true) (hf : Region.free md l.toArray listed i = true) (hr : (Region.ready md l.toArray listed).contains i = true)
    (hQ : ∀ c a w, Q (.panic c) (a.put oi.dst v) w → Q (.panic c) a w) (hy : YieldsIf Tryz.prog l.toArray S oi v a) (hS : S w)
    (h : wpAnyH Tryz.prog md l.toArray Q S fuel (listed.setIfInBounds i true) (a.put oi.dst v) w) : wpAnyH Tryz.prog md l.toArray Q S (fuel + 1) listed a w := by
  refine wpAnyH_take ?_ hs hf hr hQ hy hS h
  have := congrArg (fun k => k[0]?) hd
  simpa using this
theorem all_op {l : List Oper} {Q : Exit → Act → World → Prop} {md : Region.Mode} {S : World → Prop} {i : Nat} {oi : Oper} {rest : List Oper} {fuel : Nat} {listed : Array Bool} {a : Act} {w : World} (hd : l.drop i = oi :: rest)
    (hr : Region.ready md l.toArray listed = [i])
    (h : ∀ K' : Act → World → Prop, Shut (∀ a w, S w → (S w → wpAnyH Tryz.prog md l.toArray Q S fuel (listed.setIfInBounds i true) a w) → K' a w) → if Region.wanted oi (yielded l.toArray a.tmps) = true then Oper.wp Tryz.prog oi a w K' Q else K' (a.put oi.dst undef) w) :
    wpAnyH Tryz.prog md l.toArray Q S (fuel + 1) listed a w := by
  refine wpAnyH_ready (rs := [i]) hr (by simp) (AllReadyH.cons (o := oi) ?_ h AllReadyH.nil)
  have := congrArg (fun k => k[0]?) hd
  simpa using this

def HeadP (x4 x6 x8 x10 : Nat) (w : World) (e : Ending) (w' : World) : Prop := (∃ a o z r q aa tc rd ra, e = .returned (.tuple #[.agg #[.int .i64 a, .bool q, .int .i64 o, .bool aa, .bool tc, .bool rd, .bool ra, .int .i64 z, .int .i64 r],
  .agg #[.int .i64 (x4 : Int), .int .i64 (x6 : Int), .int .i64 (x8 : Int), .int .i64 (x10 : Int)], .int .i64 0])) ∧ Below w.heap.size w w'

set_option maxHeartbeats 20000000 in
set_option maxRecDepth 100000 in
theorem headGet_ok (s : ByteArray) (w : World) (hs : s.size ≤ 100000) (h : 12 ≤ s.size) :
    Calls Tryz.prog 84 #[.string s] w (HeadP (Rd.two s.data.toList 4) (Rd.two s.data.toList 6) (Rd.two s.data.toList 8) (Rd.two s.data.toList 10) w) := by
  have h0 := Lib.hid (fun W => u16_at s 0 0 2 W hs (by omega) rfl rfl)
  have h2 := Lib.hid (fun W => u16_at s 2 2 4 W hs (by omega) rfl rfl)
  have h4 := Lib.hid (fun W => u16_at s 4 4 6 W hs (by omega) rfl rfl)
  have h6 := Lib.hid (fun W => u16_at s 6 6 8 W hs (by omega) rfl rfl)
  have h8 := Lib.hid (fun W => u16_at s 8 8 10 W hs (by omega) rfl rfl)
  have h10 := Lib.hid (fun W => u16_at s 10 10 12 W hs (by omega) rfl rfl)
  have q : ((s.size : Int) < 12) = False := by simp; omega
  have hf := Rd.two_lt s.data.toList 2
  generalize Rd.two s.data.toList 0 = x0 at *
  generalize Rd.two s.data.toList 2 = f at *
  generalize Rd.two s.data.toList 4 = x4 at *
  generalize Rd.two s.data.toList 6 = x6 at *
  generalize Rd.two s.data.toList 8 = x8 at *
  generalize Rd.two s.data.toList 10 = x10 at *
  go_enter Tryz.func84, Tryz.ntmps84
  go_wp2_with fail
  refine (h0.out _).mono ?_
  rintro e w1 ⟨rfl, rfl⟩
  go_wp2_with fail
  refine (h2.out _).mono ?_
  rintro e w1 ⟨rfl, rfl⟩
  go_wp2_with fail
  obtain ⟨hA, hB, hC, hD, hW⟩ := four_new w (.cells zeroHd 92) (.cells zero4 99) (.cells zero4 99) (.cells #[.int .i64 (f : Int)] 3)
  unfold zeroHd zero4 at hA hB hC hD hW
  generalize (((w.alloc (.cells #[.int .i64 0, .bool false, .int .i64 0, .bool false, .bool false, .bool false, .bool false, .int .i64 0, .int .i64 0] 92)).alloc (.cells #[.int .i64 0, .int .i64 0, .int .i64 0, .int .i64 0] 99)).alloc (.cells #[.int .i64 0, .int .i64 0, .int .i64 0, .int .i64 0] 99)).alloc (.cells #[.int .i64 (f : Int)] 3) = w4 at *
  obtain ⟨c0, c1, c2, c3, fc⟩ := q4_c hC
  have HA := Lib.hid hA
  have HB := Lib.hid hB
  have HC := Lib.hid hC
  have HD := Lib.hid hD
  clear hA hB hC hD
  refine wp_loop_rounds 5 ?_
  rw [rounds_succ]
  go_wp2_with fail
  refine (h4.out _).mono ?_
  rintro e w1 ⟨rfl, rfl⟩
  go_wp2_with fail
  rw [rounds_succ]
  go_wp2_with fail
  refine (h6.out _).mono ?_
  rintro e w1 ⟨rfl, rfl⟩
  go_wp2_with fail
  rw [rounds_succ]
  go_wp2_with fail
  refine (h8.out _).mono ?_
  rintro e w1 ⟨rfl, rfl⟩
  go_wp2_with fail
  rw [rounds_succ]
  go_wp2_with fail
  refine (h10.out _).mono ?_
  rintro e w1 ⟨rfl, rfl⟩
  go_wp2_with fail
  rw [rounds_succ]
  go_wp2_with fail
  have hc5 := cells_set4 (x0 := .int .i64 (x4 : Int)) (x1 := .int .i64 (x6 : Int)) (x2 := .int .i64 (x8 : Int)) (x3 := .int .i64 (x10 : Int)) HC.out
  have hd5 := far4 (x0 := .int .i64 (x4 : Int)) (x1 := .int .i64 (x6 : Int)) (x2 := .int .i64 (x8 : Int)) (x3 := .int .i64 (x10 : Int)) HD.out (show w.heap.size + 1 + 1 + 1 ≠ w.heap.size + 1 + 1 by omega)
  have hb5 := far4 (x0 := .int .i64 (x4 : Int)) (x1 := .int .i64 (x6 : Int)) (x2 := .int .i64 (x8 : Int)) (x3 := .int .i64 (x10 : Int)) HB.out (show w.heap.size + 1 ≠ w.heap.size + 1 + 1 by omega)
  have ha5 := far4 (x0 := .int .i64 (x4 : Int)) (x1 := .int .i64 (x6 : Int)) (x2 := .int .i64 (x8 : Int)) (x3 := .int .i64 (x10 : Int)) HA.out (show w.heap.size ≠ w.heap.size + 1 + 1 by omega)
  have hw5 := below_set4 (x0 := .int .i64 (x4 : Int)) (x1 := .int .i64 (x6 : Int)) (x2 := .int .i64 (x8 : Int)) (x3 := .int .i64 (x10 : Int)) hW (show w.heap.size ≤ w.heap.size + 1 + 1 by omega)
  clear c0 c1 c2 c3 fc hW HA HB HC HD
  generalize ((((w4.setCell ⟨w.heap.size + 1 + 1, 0, none⟩ (.int .i64 (x4 : Int))).setCell ⟨w.heap.size + 1 + 1, 1, none⟩ (.int .i64 (x6 : Int))).setCell ⟨w.heap.size + 1 + 1, 2, none⟩ (.int .i64 (x8 : Int))).setCell ⟨w.heap.size + 1 + 1, 3, none⟩ (.int .i64 (x10 : Int))) = w5 at *
  have hS0 := hc_cells (show Hc w5.drew w.heap.size f x4 x6 x8 x10 from ⟨hc5, hd5⟩)
  have HA5 := Lib.hid (show w5.drew.heap[w.heap.size]? = _ from ha5)
  have HB6 := Lib.hid (fun cs => (setRow_other w5.drew w.heap.size (w.heap.size + 1) cs (by omega)).trans hb5)
  have HBIT := Lib.hid (fun k W hk hc => bitGet_calls k (f : Int) (w.heap.size + 1 + 1 + 1) W hk hc)
  clear ha5 hb5 hc5 hd5
  refine wp_region_noPanic ?_
  refine wp_region_held_drew (S := fun w' => Hc w' w.heap.size f x4 x6 x8 x10 ∧ w'.cell? ⟨w.heap.size + 1 + 1 + 1, 0, none⟩ = some (.int .i64 (f : Int)) ∧ w'.cell? ⟨w.heap.size + 1 + 1, 0, none⟩ = some (.int .i64 (x4 : Int)) ∧
    w'.cell? ⟨w.heap.size + 1 + 1, 1, none⟩ = some (.int .i64 (x6 : Int)) ∧ w'.cell? ⟨w.heap.size + 1 + 1, 2, none⟩ = some (.int .i64 (x8 : Int)) ∧ w'.cell? ⟨w.heap.size + 1 + 1, 3, none⟩ = some (.int .i64 (x10 : Int))) (by kernel_rfl) hS0 (fun hHeld => ?_)
  refine take_op (i := 0) (v := ?_) rfl (by kernel_rfl) (by kernel_rfl) (by kernel_rfl) (fun _ _ _ h => h) (Or.inl ⟨by rfl, ?_⟩) (by assumption) ?_
  rotate_left
  · intro wS hSw; (try dsimp only at hSw); go_simp; (try with_reducible rfl)
  try simp only [Act.put]
  refine take_op (i := 1) (v := ?_) rfl (by kernel_rfl) (by kernel_rfl) (by kernel_rfl) (fun _ _ _ h => h) (Or.inl ⟨by rfl, ?_⟩) (by assumption) ?_
  rotate_left
  · intro wS hSw; (try dsimp only at hSw); go_simp; (try with_reducible rfl)
  try simp only [Act.put]
  refine take_op (i := 3) (v := ?_) rfl (by kernel_rfl) (by kernel_rfl) (by kernel_rfl) (fun _ _ _ h => h) (Or.inl ⟨by rfl, ?_⟩) (by assumption) ?_
  rotate_left
  · intro wS hSw; (try dsimp only at hSw); go_simp; (try with_reducible rfl)
  try simp only [Act.put]
  refine take_op (i := 4) (v := ?_) rfl (by kernel_rfl) (by kernel_rfl) (by kernel_rfl) (fun _ _ _ h => h) (Or.inl ⟨by rfl, ?_⟩) (by assumption) ?_
  rotate_left
  · intro wS hSw; (try dsimp only at hSw); go_simp; (try with_reducible rfl)
  try simp only [Act.put]
  refine take_op (i := 5) (v := ?_) rfl (by kernel_rfl) (by kernel_rfl) (by kernel_rfl) (fun _ _ _ h => h) (Or.inl ⟨by rfl, ?_⟩) (by assumption) ?_
  rotate_left
  · intro wS hSw; (try dsimp only at hSw); go_simp; (try with_reducible rfl)
  try simp only [Act.put]
  refine take_op (i := 6) (v := ?_) rfl (by kernel_rfl) (by kernel_rfl) (by kernel_rfl) (fun _ _ _ h => h) (Or.inl ⟨by rfl, ?_⟩) (by assumption) ?_
  rotate_left
  · intro wS hSw; (try dsimp only at hSw); go_simp; (try with_reducible rfl)
  try simp only [Act.put]
  refine take_op (i := 8) (v := ?_) rfl (by kernel_rfl) (by kernel_rfl) (by kernel_rfl) (fun _ _ _ h => h) (Or.inl ⟨by rfl, ?_⟩) (by assumption) ?_
  rotate_left
  · intro wS hSw; (try dsimp only at hSw); go_simp; (try with_reducible rfl)
  try simp only [Act.put]
  refine take_op (i := 10) (v := ?_) rfl (by kernel_rfl) (by kernel_rfl) (by kernel_rfl) (fun _ _ _ h => h) (Or.inl ⟨by rfl, ?_⟩) (by assumption) ?_
  rotate_left
  · intro wS hSw; (try dsimp only at hSw); go_simp; (try with_reducible rfl)
  try simp only [Act.put]
  refine take_op (i := 12) (v := ?_) rfl (by kernel_rfl) (by kernel_rfl) (by kernel_rfl) (fun _ _ _ h => h) (Or.inl ⟨by rfl, ?_⟩) (by assumption) ?_
  rotate_left
  · intro wS hSw; (try dsimp only at hSw); go_simp; (try with_reducible rfl)
  try simp only [Act.put]
  refine take_op (i := 14) (v := ?_) rfl (by kernel_rfl) (by kernel_rfl) (by kernel_rfl) (fun _ _ _ h => h) (Or.inl ⟨by rfl, ?_⟩) (by assumption) ?_
  rotate_left
  · intro wS hSw; (try dsimp only at hSw); go_simp; (try with_reducible rfl)
  try simp only [Act.put]
  refine take_op (i := 15) (v := ?_) rfl (by kernel_rfl) (by kernel_rfl) (by kernel_rfl) (fun _ _ _ h => h) (Or.inl ⟨by rfl, ?_⟩) (by assumption) ?_
  rotate_left
  · intro wS hSw; (try dsimp only at hSw); go_simp; (try with_reducible rfl)
  try simp only [Act.put]
  refine take_op (i := 16) (v := ?_) rfl (by kernel_rfl) (by kernel_rfl) (by kernel_rfl) (fun _ _ _ h => h) (Or.inl ⟨by rfl, ?_⟩) (by assumption) ?_
  rotate_left
  · intro wS hSw; (try dsimp only at hSw); go_simp; (try with_reducible rfl)
  try simp only [Act.put]
  refine take_op (i := 17) (v := ?_) rfl (by kernel_rfl) (by kernel_rfl) (by kernel_rfl) (fun _ _ _ h => h) (Or.inl ⟨by rfl, ?_⟩) (by assumption) ?_
  rotate_left
  · intro wS hSw; (try dsimp only at hSw); go_simp; (try with_reducible rfl)
  try simp only [Act.put]
  refine take_op (i := 18) (v := ?_) rfl (by kernel_rfl) (by kernel_rfl) (by kernel_rfl) (fun _ _ _ h => h) (Or.inl ⟨by rfl, ?_⟩) (by assumption) ?_
  rotate_left
  · intro wS hSw; (try dsimp only at hSw); go_simp; (try with_reducible rfl)
  try simp only [Act.put]
  refine take_op (i := 20) (v := ?_) rfl (by kernel_rfl) (by kernel_rfl) (by kernel_rfl) (fun _ _ _ h => h) (Or.inl ⟨by rfl, ?_⟩) (by assumption) ?_
  rotate_left
  · intro wS hSw; (try dsimp only at hSw); go_simp; (try with_reducible rfl)
  try simp only [Act.put]
  refine all_op (i := 2) rfl (by kernel_rfl) (fun K hK => ?_)
  go_simp
  refine (HBIT.out _ _ (by decide) hS0.2.1).mono ?_
  rintro e wF ⟨rfl, rfl⟩
  go_wp2_with fail
  refine hK.out _ _ hS0 (fun hHeld => ?_)
  clear hK K
  try simp only [Act.put]
  refine all_op (i := 7) rfl (by kernel_rfl) (fun K hK => ?_)
  go_simp
  refine (HBIT.out _ _ (by decide) hS0.2.1).mono ?_
  rintro e wF ⟨rfl, rfl⟩
  go_wp2_with fail
  refine hK.out _ _ hS0 (fun hHeld => ?_)
  clear hK K
  try simp only [Act.put]
  refine all_op (i := 9) rfl (by kernel_rfl) (fun K hK => ?_)
  go_simp
  refine (HBIT.out _ _ (by decide) hS0.2.1).mono ?_
  rintro e wF ⟨rfl, rfl⟩
  go_wp2_with fail
  refine hK.out _ _ hS0 (fun hHeld => ?_)
  clear hK K
  try simp only [Act.put]
  refine all_op (i := 11) rfl (by kernel_rfl) (fun K hK => ?_)
  go_simp
  refine (HBIT.out _ _ (by decide) hS0.2.1).mono ?_
  rintro e wF ⟨rfl, rfl⟩
  go_wp2_with fail
  refine hK.out _ _ hS0 (fun hHeld => ?_)
  clear hK K
  try simp only [Act.put]
  refine all_op (i := 13) rfl (by kernel_rfl) (fun K hK => ?_)
  go_simp
  refine (HBIT.out _ _ (by decide) hS0.2.1).mono ?_
  rintro e wF ⟨rfl, rfl⟩
  go_wp2_with fail
  refine hK.out _ _ hS0 (fun hHeld => ?_)
  clear hK K
  try simp only [Act.put]
  refine take_op (i := 19) (v := ?_) rfl (by kernel_rfl) (by kernel_rfl) (by kernel_rfl) (fun _ _ _ h => h) (Or.inl ⟨by rfl, ?_⟩) (by assumption) ?_
  rotate_left
  · intro wS hSw; (try dsimp only at hSw); go_simp; (try with_reducible rfl)
  try simp only [Act.put]
  refine all_op (i := 21) rfl (by kernel_rfl) (fun K hK => ?_)
  refine step_store_row rfl 92 (.tmp 2) (.tmp 64) rfl w.heap.size ?_ ?_ ?_ 92 _ HA5.out ?_ ?_ ?_ ?_
  rotate_left
  · rfl
  · rfl
  · kernel_rfl
  · rfl
  · rfl
  refine hK.out _ _ ?_ (fun hHeld => ?_)
  · exact hc_cells (Hc.row hS0.1 (.inl rfl))
  clear hK K
  try simp only [Act.put]
  refine all_op (i := 22) rfl (by kernel_rfl) (fun K hK => ?_)
  refine step_store_row rfl 99 (.tmp 3) (.tmp 65) rfl (w.heap.size + 1) ?_ ?_ ?_ 99 _ (HB6.out _) ?_ ?_ ?_ ?_
  rotate_left
  · rfl
  · rfl
  · kernel_rfl
  · rfl
  · rfl
  refine hK.out _ _ ?_ (fun hHeld => ?_)
  · exact hc_cells (Hc.row (Hc.row hS0.1 (.inl rfl)) (.inr rfl))
  clear hK K
  try simp only [Act.put]
  refine take_op (i := 23) (v := ?_) rfl (by kernel_rfl) (by kernel_rfl) (by kernel_rfl) (fun _ _ _ h => h) (Or.inl ⟨by rfl, ?_⟩) (by assumption) ?_
  rotate_left
  · intro wS hSw; (try dsimp only at hSw); go_simp; (try with_reducible rfl)
  try simp only [Act.put]
  refine wpAnyH_done (by kernel_rfl) ?_ _
  refine NoPanic.normal ?_
  go_wp2_with fail
  refine bodyPost_ret (results_cell3 (a := 2) (t := 92) (b := 3) (t2 := 99) (u := 4) rfl _ _ ⟨w.heap.size, 0, none⟩ ⟨w.heap.size + 1, 0, none⟩ _ _ rfl rfl
    (run_loadVar_row _ _ 92 92 _ (0, 0) _ ((setRow_other _ _ _ _ (show w.heap.size ≠ w.heap.size + 1 by omega)).trans (setRow_heap _ _ _ _ _ _ HA5.out)) Tryz.underlying92 rfl (by kernel_rfl))
    (run_loadVar_row _ _ 99 99 _ (0, 0) _ (setRow_heap _ _ _ _ _ _ (HB6.out _)) Tryz.underlying99 rfl (by kernel_rfl))) rfl ?_
  exact ⟨⟨_, _, _, _, _, _, _, _, _, rfl⟩, below_row (below_row hw5.drew (Nat.le_refl _)) (Nat.le_succ _)⟩

theorem three_blocks (w : World) (o1 o2 o3 : Obj) : (((w.alloc o1).alloc o2).alloc o3).heap[w.heap.size]? = some o1 ∧ (((w.alloc o1).alloc o2).alloc o3).heap[w.heap.size + 1]? = some o2 ∧
    (((w.alloc o1).alloc o2).alloc o3).heap[w.heap.size + 1 + 1]? = some o3 ∧ Below w.heap.size w (((w.alloc o1).alloc o2).alloc o3) := by
  have e1 : (w.alloc o1).heap.size = w.heap.size + 1 := by simp
  have e2 : ((w.alloc o1).alloc o2).heap.size = w.heap.size + 1 + 1 := by simp
  refine ⟨?_, ?_, ?_, (((Below.refl _ w).alloc (Nat.le_refl _) _).alloc (by omega) _).alloc (by omega) _⟩
  · rw [Lib.alloc_old _ _ _ (by omega), Lib.alloc_old _ _ _ (by omega)]
    exact heap_alloc_new w _
  · rw [Lib.alloc_old _ _ _ (by omega), ← e1]
    exact heap_alloc_new (w.alloc o1) _
  · rw [← e2]
    exact heap_alloc_new ((w.alloc o1).alloc o2) _

def Fc (w : World) (g : Nat) : Prop := w.heap[g + 1 + 1]? = some (.cells zero4 99 (0, 0))
theorem fc_cells {w : World} {g : Nat} (h : Fc w g) : Fc w g ∧ w.cell? ⟨g + 1 + 1, 0, none⟩ = some (.int .i64 0) ∧ w.cell? ⟨g + 1 + 1, 1, none⟩ = some (.int .i64 0) ∧ w.cell? ⟨g + 1 + 1, 2, none⟩ = some (.int .i64 0) ∧ w.cell? ⟨g + 1 + 1, 3, none⟩ = some (.int .i64 0) :=
  ⟨h, by rw [Lib.cell_of_heap h]; rfl, by rw [Lib.cell_of_heap h]; rfl, by rw [Lib.cell_of_heap h]; rfl, by rw [Lib.cell_of_heap h]; rfl⟩
theorem Fc.row {w : World} {g k : Nat} {cs : Array Value} (h : Fc w g) (hk : k = g ∨ k = g + 1) : Fc (w.setRow k cs) g := (setRow_other _ _ _ _ (by omega)).trans h

set_option maxHeartbeats 20000000 in
set_option maxRecDepth 100000 in
theorem headGet_short (s : ByteArray) (w : World) (h : s.size < 12) :
    Calls Tryz.prog 84 #[.string s] w fun e w' => e = .returned (.tuple #[.agg zeroHd, .agg zero4, .int .i64 600]) ∧ Below w.heap.size w w' := by
  have q : ((s.size : Int) < 12) = True := by simp; omega
  go_enter Tryz.func84, Tryz.ntmps84
  go_wp2_with fail
  obtain ⟨hA, hB, hC, hW⟩ := three_blocks w (.cells zeroHd 92) (.cells zero4 99) (.cells zero4 99)
  have hw5 := hW.drew
  have hS0 := fc_cells (show Fc ((((w.alloc (.cells zeroHd 92)).alloc (.cells zero4 99)).alloc (.cells zero4 99)).drew) w.heap.size from hC)
  have HA5 := Lib.hid (show (((((w.alloc (.cells zeroHd 92)).alloc (.cells zero4 99)).alloc (.cells zero4 99)).drew)).heap[w.heap.size]? = some (.cells zeroHd 92 (0, 0)) from hA)
  have HB6 := Lib.hid (fun cs => (setRow_other ((((w.alloc (.cells zeroHd 92)).alloc (.cells zero4 99)).alloc (.cells zero4 99)).drew) w.heap.size (w.heap.size + 1) cs (by omega)).trans hB)
  unfold zeroHd zero4 at hS0 HA5 HB6 hw5
  clear hA hB hC hW
  generalize (((w.alloc (.cells #[.int .i64 0, .bool false, .int .i64 0, .bool false, .bool false, .bool false, .bool false, .int .i64 0, .int .i64 0] 92)).alloc (.cells #[.int .i64 0, .int .i64 0, .int .i64 0, .int .i64 0] 99)).alloc (.cells #[.int .i64 0, .int .i64 0, .int .i64 0, .int .i64 0] 99)) = w5 at *
  refine wp_region_noPanic ?_
  refine wp_region_held_drew (S := fun w' => Fc w' w.heap.size ∧ w'.cell? ⟨w.heap.size + 1 + 1, 0, none⟩ = some (.int .i64 0) ∧ w'.cell? ⟨w.heap.size + 1 + 1, 1, none⟩ = some (.int .i64 0) ∧ w'.cell? ⟨w.heap.size + 1 + 1, 2, none⟩ = some (.int .i64 0) ∧ w'.cell? ⟨w.heap.size + 1 + 1, 3, none⟩ = some (.int .i64 0)) (by kernel_rfl) hS0 (fun hHeld => ?_)
  refine take_op (i := 0) (v := ?_) rfl (by kernel_rfl) (by kernel_rfl) (by kernel_rfl) (fun _ _ _ h => h) (Or.inl ⟨by rfl, ?_⟩) (by assumption) ?_
  rotate_left
  · intro wS hSw; (try dsimp only at hSw); go_simp; (try with_reducible rfl)
  try simp only [Act.put]
  refine take_op (i := 1) (v := ?_) rfl (by kernel_rfl) (by kernel_rfl) (by kernel_rfl) (fun _ _ _ h => h) (Or.inl ⟨by rfl, ?_⟩) (by assumption) ?_
  rotate_left
  · intro wS hSw; (try dsimp only at hSw); go_simp; (try with_reducible rfl)
  try simp only [Act.put]
  refine all_op (i := 2) rfl (by kernel_rfl) (fun K hK => ?_)
  refine step_store_row rfl 92 (.tmp 2) (.tmp 16) rfl w.heap.size ?_ ?_ ?_ 92 _ HA5.out ?_ ?_ ?_ ?_
  rotate_left
  · rfl
  · rfl
  · kernel_rfl
  · rfl
  · rfl
  refine hK.out _ _ ?_ (fun hHeld => ?_)
  · exact fc_cells (Fc.row hS0.1 (.inl rfl))
  clear hK K
  try simp only [Act.put]
  refine all_op (i := 3) rfl (by kernel_rfl) (fun K hK => ?_)
  refine step_store_row rfl 99 (.tmp 3) (.tmp 17) rfl (w.heap.size + 1) ?_ ?_ ?_ 99 _ (HB6.out _) ?_ ?_ ?_ ?_
  rotate_left
  · rfl
  · rfl
  · kernel_rfl
  · rfl
  · rfl
  refine hK.out _ _ ?_ (fun hHeld => ?_)
  · exact fc_cells (Fc.row (Fc.row hS0.1 (.inl rfl)) (.inr rfl))
  clear hK K
  try simp only [Act.put]
  refine take_op (i := 4) (v := ?_) rfl (by kernel_rfl) (by kernel_rfl) (by kernel_rfl) (fun _ _ _ h => h) (Or.inl ⟨by rfl, ?_⟩) (by assumption) ?_
  rotate_left
  · intro wS hSw; (try dsimp only at hSw); go_simp; (try with_reducible rfl)
  try simp only [Act.put]
  refine wpAnyH_done (by kernel_rfl) ?_ _
  refine NoPanic.normal ?_
  go_wp2_with fail
  refine bodyPost_ret (results_cell3 (a := 2) (t := 92) (b := 3) (t2 := 99) (u := 4) rfl _ _ ⟨w.heap.size, 0, none⟩ ⟨w.heap.size + 1, 0, none⟩ _ _ rfl rfl
    (run_loadVar_row _ _ 92 92 _ (0, 0) _ ((setRow_other _ _ _ _ (show w.heap.size ≠ w.heap.size + 1 by omega)).trans (setRow_heap _ _ _ _ _ _ HA5.out)) Tryz.underlying92 rfl (by kernel_rfl))
    (run_loadVar_row _ _ 99 99 _ (0, 0) _ (setRow_heap _ _ _ _ _ _ (HB6.out _)) Tryz.underlying99 rfl (by kernel_rfl))) rfl ?_
  exact ⟨rfl, below_row (below_row hw5 (Nat.le_refl _)) (Nat.le_succ _)⟩
end Go.Proofs.YtolbfeggceemfaaGreatDoor
