/-
  Maps from texts, kept as a list of entries: insert and look-up at the operation; the walk of console.commands. Condition: none beside the program's types.
-/
import Derived.Test.YtolbfeggceemfaaGreatDoorC5
import Derived.MapKept
namespace Go.Proofs.YtolbfeggceemfaaGreatDoor
open Go.RowKit

/-- The entries of a map that has only been filled. -/
def ents (n : Nat) : List (ByteArray × Value) → List MapEntry
  | [] => []
  | (s, v) :: r => { key := .string s, val := v, born := n } :: ents (n + 1) r
theorem ents_append : ∀ (l : List (ByteArray × Value)) (n : Nat) (s : ByteArray) (v : Value), ents n (l ++ [(s, v)]) = ents n l ++ [{ key := .string s, val := v, born := n + l.length }]
  | [], n, s, v => rfl
  | (t, u) :: r, n, s, v => by
    show _ :: ents (n + 1) (r ++ [(s, v)]) = _ :: (ents (n + 1) r ++ _)
    rw [ents_append r (n + 1) s v, List.length_cons, show n + 1 + r.length = n + (r.length + 1) from by omega]
/-- Block r is a map filled so. -/
def MapIs (w : World) (r : Nat) (l : List (ByteArray × Value)) : Prop := w.heap[r]? = some (.map (ents 0 l).toArray l.length)
/-- What is found under a text. -/
def found (s : ByteArray) : List (ByteArray × Value) → Option Value
  | [] => none
  | (t, v) :: r => if t = s then some v else found s r
theorem findNow_ents (s : ByteArray) : ∀ (l : List (ByteArray × Value)) (n i : Nat), ∃ k, Instr.findNow .string (.string s) (ents n l) i = some ((found s l).map fun v => (k, v))
  | [], n, i => ⟨0, rfl⟩
  | (t, v) :: r, n, i => by
    have e : Instr.sameNow .string (.string s) (.string t) = some (s == t) := rfl
    by_cases h : t = s
    · refine ⟨i, ?_⟩
      have h1 : (s == t) = true := (MapKept.bytes_beq s t).2 h.symm
      show (match Instr.sameNow .string (.string s) (.string t) with | some true => some (some (i, v)) | some false => Instr.findNow .string (.string s) (ents (n + 1) r) (i + 1) | none => none) = _
      rw [e, h1, found, if_pos h]
      rfl
    · obtain ⟨k, hk⟩ := findNow_ents s r (n + 1) (i + 1)
      refine ⟨k, ?_⟩
      have h1 : (s == t) = false := by rw [Bool.eq_false_iff]; exact fun e => h ((MapKept.bytes_beq s t).1 e).symm
      show (match Instr.sameNow .string (.string s) (.string t) with | some true => some (some (i, v)) | some false => Instr.findNow .string (.string s) (ents (n + 1) r) (i + 1) | none => none) = _
      rw [e, h1, found, if_neg h, ← hk]

/-- A world with another map in block r. -/
def mapWorld (w : World) (r : Nat) (l : List (ByteArray × Value)) : World := { w with heap := w.heap.setIfInBounds r (.map (ents 0 l).toArray l.length) }
theorem mapWorld_size (w : World) (r : Nat) (l : List (ByteArray × Value)) : (mapWorld w r l).heap.size = w.heap.size := by simp [mapWorld]
theorem mapWorld_is (w : World) (r : Nat) (l : List (ByteArray × Value)) (h : r < w.heap.size) : MapIs (mapWorld w r l) r l := by
  simp [MapIs, mapWorld, h]
theorem mapWorld_block (w : World) (r : Nat) (l : List (ByteArray × Value)) (k : Nat) (h : k ≠ r) : (mapWorld w r l).heap[k]? = w.heap[k]? := by
  simp only [mapWorld, Array.getElem?_setIfInBounds]
  rw [if_neg (fun e => h e.symm)]
theorem mapWorld_below {B : Nat} {w0 w : World} {r : Nat} {l : List (ByteArray × Value)} (hb : Below B w0 w) (h : B ≤ r) : Below B w0 (mapWorld w r l) :=
  ⟨hb.os, hb.tape, hb.output, by rw [mapWorld_size]; exact hb.size, fun k hk => by rw [mapWorld_block _ _ _ _ (by omega)]; exact hb.block k hk⟩

theorem map_insert (w : World) (r : Nat) (l : List (ByteArray × Value)) (s : ByteArray) (v : Value) (h : MapIs w r l) (hf : found s l = none) :
    (Instr.mapUpdate 44 (.map (some r)) (.string s) v).run Tryz.prog w = .ok () (mapWorld w r (l ++ [(s, v)])) := by
  obtain ⟨k, hk⟩ := findNow_ents s l 0 0
  rw [hf, Option.map_none] at hk
  have hc : (Instr.checkKey false 10000 9 (.string s)).run Tryz.prog w = .ok () w := MapKept.run_checkKey (k := .string s) Tryz.underlying9 (by simp [MapKept.IsKey]) false 9999
  have e : (ents 0 l).toArray.push { key := .string s, val := v, born := l.length } = (ents 0 (l ++ [(s, v)])).toArray := by
    rw [ents_append, Nat.zero_add]; simp
  simp [Instr.mapUpdate, run_underlying Tryz.underlying44, MapKept.run_getObj_map h, hc, MapKept.run_findKey Tryz.underlying9 hk, MapKept.run_setObj_map _ h, Result.andThen, mapWorld, e]

theorem map_lookup (w : World) (r : Nat) (l : List (ByteArray × Value)) (s : ByteArray) (v : Value) (h : MapIs w r l) (hf : found s l = some v) :
    (Instr.lookup 44 (.map (some r)) (.string s) true).run Tryz.prog w = .ok (.tuple #[v, .bool true]) w := by
  obtain ⟨k, hk⟩ := findNow_ents s l 0 0
  rw [hf, Option.map_some] at hk
  have hc : ∀ e, (Instr.checkKey e 10000 9 (.string s)).run Tryz.prog w = .ok () w := fun e => MapKept.run_checkKey (k := .string s) Tryz.underlying9 (by simp [MapKept.IsKey]) e 9999
  simp [Instr.lookup, run_underlying Tryz.underlying44, MapKept.run_getObj_map h, hc, MapKept.run_findKey Tryz.underlying9 hk, Result.andThen]

theorem map_lookup_not (w : World) (r : Nat) (l : List (ByteArray × Value)) (s : ByteArray) (z : Value) (h : MapIs w r l) (hf : found s l = none) (hz : (zeroValue 74).run Tryz.prog w = .ok z w) :
    (Instr.lookup 44 (.map (some r)) (.string s) true).run Tryz.prog w = .ok (.tuple #[z, .bool false]) w := by
  obtain ⟨k, hk⟩ := findNow_ents s l 0 0
  rw [hf, Option.map_none] at hk
  have hc : ∀ e, (Instr.checkKey e 10000 9 (.string s)).run Tryz.prog w = .ok () w := fun e => MapKept.run_checkKey (k := .string s) Tryz.underlying9 (by simp [MapKept.IsKey]) e 9999
  simp [Instr.lookup, run_underlying Tryz.underlying44, MapKept.run_getObj_map h, hc, MapKept.run_findKey Tryz.underlying9 hk, Result.andThen, hz]

/-- 'insert' at the operation. -/
theorem wpList_insert (w : World) {ops : Array Oper} {rest : List Oper} {o : Oper} {a : Act} {Q : Exit → Act → World → Prop}
    (hg : o.guard = none) (m x v : Operand) (hop : o.op = Op.insert 44 m x v) (r : Nat) (l : List (ByteArray × Value)) (s : ByteArray) (val : Value)
    (hm : a.eval m = .map (some r)) (hx : a.eval x = .string s) (hv : a.eval v = val) (h : MapIs w r l) (hf : found s l = none)
    (hK : wpList Tryz.prog ops Q rest (a.put o.dst undef) (mapWorld w r (l ++ [(s, val)]))) :
    wpList Tryz.prog ops Q (o :: rest) a w := by
  refine wpList_plain hg fun K hK' => ?_
  have hrun := map_insert w r l s val h hf
  unfold Oper.wp
  simp [execOp, hop, hm, hx, hv, hrun, Result.andThen]
  exact hK' _ _ hK
theorem mapIs_alloc {w : World} {r : Nat} {l : List (ByteArray × Value)} (h : MapIs w r l) (o : Obj) : MapIs (w.alloc o) r l := by
  have hlt := (Array.getElem?_eq_some_iff.1 h).1
  exact (Lib.alloc_old w o r hlt).trans h

/-- A command: its word, what reads its words, what tells. -/
structure Cmd where
  key : ByteArray
  reads : List Nat
  tell : Nat
def cmdOf (s : ByteArray) : List Cmd → Option Cmd
  | [] => none
  | c :: r => if c.key = s then some c else cmdOf s r
def fn (f : Nat) : Value := .func (Fn.func f) #[] #[]
def cmdVal (c : Cmd) (b : Nat) : Value := .agg #[.slice (some ⟨b, 0, none⟩) c.reads.length c.reads.length, fn c.tell]
/-- Block r is the map of these commands. -/
def Built (w : World) (r : Nat) (cs : List Cmd) (l : List (ByteArray × Value)) : Prop :=
  MapIs w r l ∧ ∀ s, match cmdOf s cs with
    | none => found s l = none
    | some c => ∃ b, found s l = some (cmdVal c b) ∧ b ≠ r ∧ w.heap[b]? = some (.cells (c.reads.map fn).toArray 66 (0, 0))

theorem built_nil (w : World) : Built (w.alloc (.map #[] 0)) w.heap.size [] [] := ⟨heap_alloc_new w _, fun _ => rfl⟩
theorem cmdOf_append (s : ByteArray) (c : Cmd) : ∀ cs, cmdOf s (cs ++ [c]) = match cmdOf s cs with | some d => some d | none => if c.key = s then some c else none
  | [] => rfl
  | d :: r => by
    show (if d.key = s then some d else cmdOf s (r ++ [c])) = match (if d.key = s then some d else cmdOf s r) with | some d => some d | none => _
    split
    · rfl
    · exact cmdOf_append s c r
theorem found_append (s t : ByteArray) (v : Value) : ∀ l, found s (l ++ [(t, v)]) = match found s l with | some d => some d | none => if t = s then some v else none
  | [] => rfl
  | (u, x) :: r => by
    show (if u = s then some x else found s (r ++ [(t, v)])) = match (if u = s then some x else found s r) with | some d => some d | none => _
    split
    · rfl
    · exact found_append s t v r
theorem Built.fresh {w : World} {r : Nat} {cs : List Cmd} {l : List (ByteArray × Value)} (h : Built w r cs l) {s : ByteArray} (hs : cmdOf s cs = none) : found s l = none := by
  have := h.2 s
  rw [hs] at this
  exact this
theorem Built.lt {w : World} {r : Nat} {cs : List Cmd} {l : List (ByteArray × Value)} (h : Built w r cs l) : r < w.heap.size := (Array.getElem?_eq_some_iff.1 h.1).1
theorem Built.step {w : World} {r : Nat} {cs : List Cmd} {l : List (ByteArray × Value)} (h : Built w r cs l) (c : Cmd) :
    Built (mapWorld (w.alloc (.cells (c.reads.map fn).toArray 66)) r (l ++ [(c.key, cmdVal c w.heap.size)])) r (cs ++ [c]) (l ++ [(c.key, cmdVal c w.heap.size)]) := by
  have hr := h.lt
  refine ⟨mapWorld_is _ _ _ (by simp; omega), fun s => ?_⟩
  rw [cmdOf_append, found_append]
  have hs := h.2 s
  cases hc : cmdOf s cs with
  | some d =>
    rw [hc] at hs
    obtain ⟨b, hb, hbr, hbl⟩ := hs
    refine ⟨b, by rw [hb], hbr, ?_⟩
    rw [mapWorld_block _ _ _ _ hbr, Lib.alloc_old _ _ _ (Array.getElem?_eq_some_iff.1 hbl).1]
    exact hbl
  | none =>
    rw [hc] at hs
    simp only at hs
    rw [hs]
    simp only
    by_cases he : c.key = s
    · rw [if_pos he, if_pos he]
      refine ⟨w.heap.size, rfl, by omega, ?_⟩
      rw [mapWorld_block _ _ _ _ (by omega)]
      exact heap_alloc_new w _
    · rw [if_neg he, if_neg he]

/-- All commands. -/
def cmds : List Cmd := [⟨⟨#[99, 111, 117, 110, 116]⟩, [35], 37⟩, ⟨⟨#[102, 111, 108, 100]⟩, [35], 40⟩, ⟨⟨#[97, 98, 111, 118, 101]⟩, [35, 35], 41⟩, ⟨⟨#[99, 111, 109, 112, 97, 114, 101]⟩, [35, 35], 42⟩,
  ⟨⟨#[115, 105, 122, 101]⟩, [34, 34, 34, 34], 43⟩, ⟨⟨#[114, 111, 111, 109]⟩, [34, 34], 44⟩, ⟨⟨#[113, 117, 101, 114, 121]⟩, [34, 35, 34], 46⟩, ⟨⟨#[103, 101, 116]⟩, [36], 47⟩]

theorem insert_step {w W : World} {r : Nat} {cs : List Cmd} {l : List (ByteArray × Value)} (hB : Built W r cs l) (hb : Below r w W) (c : Cmd) (hf : cmdOf c.key cs = none) :
    ∃ w1, (Instr.mapUpdate 44 (.map (some r)) (.string c.key) (cmdVal c W.heap.size)).run Tryz.prog (W.alloc (.cells (c.reads.map fn).toArray 66)) = .ok () w1 ∧ Below r w w1 ∧ ∃ l1, Built w1 r (cs ++ [c]) l1 :=
  ⟨_, map_insert _ _ _ _ _ (mapIs_alloc hB.1 _) (hB.fresh hf), mapWorld_below (hb.alloc (Nat.le_of_lt hB.lt) _) (Nat.le_refl _), _, hB.step c⟩

set_option maxHeartbeats 2000000 in
set_option maxRecDepth 100000 in
theorem commands_calls (w : World) :
    Calls Tryz.prog 21 #[] w fun e w' => e = .returned (.map (some w.heap.size)) ∧ Below w.heap.size w w' ∧ ∃ l, Built w' w.heap.size cmds l := by
  have hmm := @run_makeMap Tryz.prog
  go_enter Tryz.func21, Tryz.ntmps21
  go_wp2
  have hB0 := built_nil w
  have hb0 := (Below.refl w.heap.size w).alloc (Nat.le_refl _) (.map #[] 0)
  obtain ⟨w0, hw0⟩ : ∃ w0, w.alloc (.map #[] 0) = w0 := ⟨_, rfl⟩
  have hz : w.heap.size + 1 = w0.heap.size := by rw [← hw0]; simp
  rw [hw0] at hB0 hb0
  rw [hz]
  simp only [hw0]
  clear hw0 hz
  obtain ⟨w1, hr, hb1, l1, hB1⟩ := insert_step hB0 hb0 ⟨⟨#[99, 111, 117, 110, 116]⟩, [35], 37⟩ (by kernel_rfl)
  simp only [cmdVal, fn, List.map_cons, List.map_nil, List.length_cons, List.length_nil, Nat.zero_add] at hr
  rw [hr]
  simp only [Result.andThen]
  rw [Oper.upon_skip]
  clear hr hB0 hb0
  go_wp2
  obtain ⟨w2, hr, hb2, l2, hB2⟩ := insert_step hB1 hb1 ⟨⟨#[102, 111, 108, 100]⟩, [35], 40⟩ (by kernel_rfl)
  simp only [cmdVal, fn, List.map_cons, List.map_nil, List.length_cons, List.length_nil, Nat.zero_add] at hr
  rw [hr]
  simp only [Result.andThen]
  rw [Oper.upon_skip]
  clear hr hB1 hb1
  go_wp2
  obtain ⟨w3, hr, hb3, l3, hB3⟩ := insert_step hB2 hb2 ⟨⟨#[97, 98, 111, 118, 101]⟩, [35, 35], 41⟩ (by kernel_rfl)
  simp only [cmdVal, fn, List.map_cons, List.map_nil, List.length_cons, List.length_nil, Nat.zero_add, Nat.reduceAdd] at hr
  rw [hr]
  simp only [Result.andThen]
  rw [Oper.upon_skip]
  clear hr hB2 hb2
  go_wp2
  obtain ⟨w4, hr, hb4, l4, hB4⟩ := insert_step hB3 hb3 ⟨⟨#[99, 111, 109, 112, 97, 114, 101]⟩, [35, 35], 42⟩ (by kernel_rfl)
  simp only [cmdVal, fn, List.map_cons, List.map_nil, List.length_cons, List.length_nil, Nat.zero_add, Nat.reduceAdd] at hr
  rw [hr]
  simp only [Result.andThen]
  rw [Oper.upon_skip]
  clear hr hB3 hb3
  go_wp2
  obtain ⟨w5, hr, hb5, l5, hB5⟩ := insert_step hB4 hb4 ⟨⟨#[115, 105, 122, 101]⟩, [34, 34, 34, 34], 43⟩ (by kernel_rfl)
  simp only [cmdVal, fn, List.map_cons, List.map_nil, List.length_cons, List.length_nil, Nat.zero_add, Nat.reduceAdd] at hr
  rw [hr]
  simp only [Result.andThen]
  rw [Oper.upon_skip]
  clear hr hB4 hb4
  go_wp2
  obtain ⟨w6, hr, hb6, l6, hB6⟩ := insert_step hB5 hb5 ⟨⟨#[114, 111, 111, 109]⟩, [34, 34], 44⟩ (by kernel_rfl)
  simp only [cmdVal, fn, List.map_cons, List.map_nil, List.length_cons, List.length_nil, Nat.zero_add, Nat.reduceAdd] at hr
  rw [hr]
  simp only [Result.andThen]
  rw [Oper.upon_skip]
  clear hr hB5 hb5
  go_wp2
  obtain ⟨w7, hr, hb7, l7, hB7⟩ := insert_step hB6 hb6 ⟨⟨#[113, 117, 101, 114, 121]⟩, [34, 35, 34], 46⟩ (by kernel_rfl)
  simp only [cmdVal, fn, List.map_cons, List.map_nil, List.length_cons, List.length_nil, Nat.zero_add, Nat.reduceAdd] at hr
  rw [hr]
  simp only [Result.andThen]
  rw [Oper.upon_skip]
  clear hr hB6 hb6
  go_wp2
  obtain ⟨w8, hr, hb8, l8, hB8⟩ := insert_step hB7 hb7 ⟨⟨#[103, 101, 116]⟩, [36], 47⟩ (by kernel_rfl)
  simp only [cmdVal, fn, List.map_cons, List.map_nil, List.length_cons, List.length_nil, Nat.zero_add] at hr
  rw [hr]
  simp only [Result.andThen]
  rw [Oper.upon_skip]
  clear hr hB7 hb7
  go_wp2
  go_ret
  exact ⟨rfl, hb8, _, hB8⟩
end Go.Proofs.YtolbfeggceemfaaGreatDoor
