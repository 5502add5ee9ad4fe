/-
  The walks of opt.in, opt.Put at a query's OPT record: no option, or one of padding. Condition: the padding is of at most 1000 bytes.
-/
import Derived.Test.YtolbfeggceemfaaGreatDoorW6
namespace Go.Proofs.YtolbfeggceemfaaGreatDoor
open Go.RowKit

set_option maxHeartbeats 1000000 in
theorem optIn_calls (x b : Int) (w : World) (h1 : 0 ≤ x) (h2 : x ≤ b) : Calls Tryz.prog 155 #[.int .i64 x, .int .i64 b] w fun e w' => e = .returned (.bool true) ∧ w = w' := by
  have q1 : (0 ≤ x) = True := by simp [h1]
  have q2 : (x ≤ b) = True := by simp [h2]
  clear h1 h2
  go_enter Tryz.func155, Tryz.ntmps155
  go_wp2
  go_ret
  exact ⟨rfl, rfl⟩

theorem alloc2_new (w : World) (o o' : Obj) : ((w.alloc o).alloc o').heap[w.heap.size + 1]? = some o' := by
  have := heap_alloc_new (w.alloc o) o'
  have e : (w.alloc o).heap.size = w.heap.size + 1 := by simp
  rwa [e] at this
theorem results_cell2 {P : Program} {fn : Func} {t : TypeId} {a u : Tmp} (h : fn.results = #[.cell a t, .tmp u]) (tmps : Array Value) (w : World) (p : Addr) (v : Value) (ha : tmps.getD a undef = .pointer (some p)) (hl : (loadVar t p).run P w = .ok v w) :
    (results fn tmps).run P w = .ok (.tuple #[v, tmps.getD u undef]) w := by
  have ha' : tmps[a]?.getD undef = .pointer (some p) := by simpa using ha
  simp [results, h, ha', hl, asAddr, Result.andThen]

def optArg (os : Value) : Value := .agg #[.int .i64 1232, .int .i64 0, .int .i64 0, .bool false, .int .i64 0, os]

set_option maxHeartbeats 4000000 in
set_option maxRecDepth 100000 in
theorem optPut_none (w : World) :
    Calls Tryz.prog 138 #[optArg (.slice none 0 0)] w fun e w' => e = .returned (.tuple #[.agg (optCells (txt [])), .int .i64 0]) ∧ Below w.heap.size w w' := by
  have ho := or00
  have hcv : ∀ W, (convert 47 9 (.slice none 0 0)).run Tryz.prog W = .ok (.string (txt [])) W := fun W => run_convert_bytes_nil W 47 5 Tryz.underlying47 Tryz.underlying5 0 0 9 Tryz.underlying9
  unfold optArg
  go_enter Tryz.func138, Tryz.ntmps138
  go_wp2_with (go_at_call 155; refine (optIn_calls _ _ _ (by decide) (by decide)).mono ?_; rintro e wf ⟨rfl, rfl⟩)
  refine wp_loop_rounds 1 ?_
  rw [rounds_succ]
  go_wp2_with fail
  (try simp only [Exit.inBlock, Exit.then])
  refine bodyPost_ret (v := .tuple #[.agg (optCells (txt [])), .int .i64 0]) ?hr rfl ⟨rfl, ((Below.refl _ w).alloc (Nat.le_refl _) _).alloc (by simp) _⟩
  refine results_cell2 (a := 2) (u := 3) (t := 128) rfl _ _ ⟨w.heap.size + 1, 0, none⟩ _ rfl (run_loadVar_row _ _ 128 128 (optCells (txt [])) (0, 0) _ ?_ Tryz.underlying128 rfl (by kernel_rfl))
  exact alloc2_new w _ _

/-- append of a text to an owned row of bytes, as one step of a region that draws. -/
theorem step_append_string {ops : Array Oper} {o : Oper} {a : Act} {w : World} {K : Act → World → Prop} {Q : Exit → Act → World → Prop} {E : Prop}
    (hg : o.guard = none) (s x : Operand) (t u : TypeId) (hop : o.op = Op.call { callee := Callee.builtin Builtin.append, args := #[s, x], argTypes := #[t, u] })
    (base : Nat) (e : TypeId) (i : TypeInfo) (ht : Tryz.prog.underlying t = some (.slice e)) (hu : Tryz.prog.underlying u = some .string) (hi : Tryz.prog.info? e = some i) (hz : i.zero = some (.int .u8 0)) (hsize : i.size = 1) (hby : i.bytes = 1)
    (v : Value) (n : Nat) (xs : List Value) (hs : a.eval s = v) (hown : w.ownsRow base e 1 v n xs) (str : ByteArray) (hx : a.eval x = .string str)
    (h63 : n + str.size ≤ maxLen) (hbytes : n + str.size ≤ 140737488355328) (hbase : base ≤ w.heap.size)
    (hK : ∀ v' w', w'.ownsRow base e 1 v' (n + str.size) (xs ++ Lib.strCells str) → w.grownBy w' v.ownBlock → K (a.put o.dst v') w') :
    if Region.wanted o (yielded ops a.tmps) = true then Oper.wp Tryz.prog o a w K Q else E := by
  have hw : Region.wanted o (yielded ops a.tmps) = true := by simp [Region.wanted, hg]
  rw [if_pos hw]
  obtain ⟨v', w', hrun, r1, r2, _⟩ := Lib.run_append_own_string (P := Tryz.prog) w base t u o.type e i ht hu hi hz hsize hby v n xs hown str h63 hbytes hbase
  unfold Oper.wp
  simp [execOp, hop, resolve, invoke, builtin, hs, hx, hrun, Result.andThen]
  exact hK v' w' r1 r2

theorem heap_set5 {w : World} {g : Nat} {T : TypeId} {a b c d e x0 x1 x2 x3 x4 : Value} (h : w.heap[g]? = some (.cells #[a, b, c, d, e] T (0, 0))) :
    (((((w.setCell ⟨g, 0, none⟩ x0).setCell ⟨g, 1, none⟩ x1).setCell ⟨g, 2, none⟩ x2).setCell ⟨g, 3, none⟩ x3).setCell ⟨g, 4, none⟩ x4).heap[g]? = some (.cells #[x0, x1, x2, x3, x4] T (0, 0)) :=
  Lib.heap_setCell_same (Lib.heap_setCell_same (Lib.heap_setCell_same (Lib.heap_setCell_same (Lib.heap_setCell_same h x0) x1) x2) x3) x4
theorem below_set5 {B g : Nat} {w0 w : World} {x0 x1 x2 x3 x4 : Value} (h : Below B w0 w) (hB : B ≤ g) :
    Below B w0 (((((w.setCell ⟨g, 0, none⟩ x0).setCell ⟨g, 1, none⟩ x1).setCell ⟨g, 2, none⟩ x2).setCell ⟨g, 3, none⟩ x3).setCell ⟨g, 4, none⟩ x4) :=
  ((((h.setCell (p := ⟨g, 0, none⟩) hB _).setCell (p := ⟨g, 1, none⟩) hB _).setCell (p := ⟨g, 2, none⟩) hB _).setCell (p := ⟨g, 3, none⟩) hB _).setCell (p := ⟨g, 4, none⟩) hB _

def POpt (w : World) (ob : Nat) (D : ByteArray) : Prop := w.heap[ob]? = some (.cells #[.int .i64 12, .string D] 181 (0, 0))
theorem popt_cells {w : World} {ob : Nat} {D : ByteArray} (h : POpt w ob D) : POpt w ob D ∧ w.cell? ⟨ob, 0, none⟩ = some (.int .i64 12) ∧ w.cell? ⟨ob, 1, none⟩ = some (.string D) :=
  ⟨h, by rw [Lib.cell_of_heap h]; rfl, by rw [Lib.cell_of_heap h]; rfl⟩
theorem popt_below {w w' : World} {ob : Nat} {D : ByteArray} (h : POpt w ob D) (hb : Below w.heap.size w w') : POpt w' ob D := (hb.block ob (Array.getElem?_eq_some_iff.1 h).1).trans h
theorem popt_grown {w w' : World} {ob : Nat} {D : ByteArray} {row : Option Nat} (h : POpt w ob D) (hg : w.grownBy w' row) (hr : row ≠ some ob) : POpt w' ob D := (hg.block ob (Array.getElem?_eq_some_iff.1 h).1 (fun e => hr e.symm)).trans h

/-- The option of padding. -/
def padData (m : Nat) : List UInt8 := Oc.p16 12 ++ Oc.p16 m ++ List.replicate m 0

set_option maxHeartbeats 4000000 in
set_option maxRecDepth 100000 in
theorem optPut_one (m ob oc : Nat) (w : World) (hm : m ≤ 900) (hob : w.heap[ob]? = some (.cells #[.int .i64 12, .string (txt (List.replicate m 0))] 181 (0, 0))) :
    Calls Tryz.prog 138 #[optArg (.slice (some ⟨ob, 0, none⟩) 1 oc)] w fun e w' => e = .returned (.tuple #[.agg (optCells (txt (padData m))), .int .i64 0]) ∧ Below w.heap.size w w' := by
  obtain ⟨i0, hi, hz0, hz1, hz2⟩ := info_parts Tryz.info5
  have ho := or00
  have hol : ob < w.heap.size := (Array.getElem?_eq_some_iff.1 hob).1
  have o0 : w.cell? ⟨ob, 0, none⟩ = some (.int .i64 12) := by rw [Lib.cell_of_heap hob]; rfl
  have o1 : w.cell? ⟨ob, 1, none⟩ = some (.string (txt (List.replicate m 0))) := by rw [Lib.cell_of_heap hob]; rfl
  have hds : (txt (List.replicate m 0)).size = m := by rw [txt_size]; simp
  have hdd : (txt (List.replicate m 0)).data.toList = List.replicate m 0 := txt_data _
  have hpd : padData m = Oc.p16 12 ++ Oc.p16 m ++ List.replicate m 0 := rfl
  generalize hD : txt (List.replicate m 0) = D at *
  have HD := Lib.hid hdd
  have HPD := Lib.hid hpd
  have h12 := fun W => put16_calls 12 W (by decide)
  have hmm := fun W => put16_calls m W (by omega)
  have H12 := Lib.hid h12
  have HMM := Lib.hid hmm
  have hq : ((65535 : Int) < (m : Int)) = False := by simp; omega
  clear hob hdd hpd h12 hmm hD
  unfold optArg
  go_enter Tryz.func138, Tryz.ntmps138
  go_wp2_with (go_at_call 155; refine (optIn_calls _ _ _ (by decide) (by decide)).mono ?_; rintro e wf ⟨rfl, rfl⟩)
  refine wp_loop_rounds 2 ?_
  rw [rounds_succ]
  go_wp2_with (go_at_call 155; refine (optIn_calls _ _ _ (by decide) (by decide)).mono ?_; rintro e wf ⟨rfl, rfl⟩)
  have hX : (((w.alloc (.cells #[.int .i64 1232, .int .i64 0, .int .i64 0, .bool false, .int .i64 0, .slice (some ⟨ob, 0, none⟩) 1 oc] 179)).alloc (.cells #[.string ⟨#[]⟩, .int .i64 0, .int .i64 0, .int .i64 0, .string ⟨#[]⟩] 128)).alloc (.cells #[.int .i64 12, .string D] 181)).heap[w.heap.size + 1 + 1]? = some (.cells #[.int .i64 12, .string D] 181 (0, 0)) := by
    have := heap_alloc_new ((w.alloc (.cells #[.int .i64 1232, .int .i64 0, .int .i64 0, .bool false, .int .i64 0, .slice (some ⟨ob, 0, none⟩) 1 oc] 179)).alloc (.cells #[.string ⟨#[]⟩, .int .i64 0, .int .i64 0, .int .i64 0, .string ⟨#[]⟩] 128)) (.cells #[.int .i64 12, .string D] 181)
    have e : ((w.alloc (.cells #[.int .i64 1232, .int .i64 0, .int .i64 0, .bool false, .int .i64 0, .slice (some ⟨ob, 0, none⟩) 1 oc] 179)).alloc (.cells #[.string ⟨#[]⟩, .int .i64 0, .int .i64 0, .int .i64 0, .string ⟨#[]⟩] 128)).heap.size = w.heap.size + 1 + 1 := by simp
    rwa [e] at this
  have hX1 : (((w.alloc (.cells #[.int .i64 1232, .int .i64 0, .int .i64 0, .bool false, .int .i64 0, .slice (some ⟨ob, 0, none⟩) 1 oc] 179)).alloc (.cells #[.string ⟨#[]⟩, .int .i64 0, .int .i64 0, .int .i64 0, .string ⟨#[]⟩] 128)).alloc (.cells #[.int .i64 12, .string D] 181)).heap[w.heap.size]? = some (.cells #[.int .i64 1232, .int .i64 0, .int .i64 0, .bool false, .int .i64 0, .slice (some ⟨ob, 0, none⟩) 1 oc] 179 (0, 0)) := by
    rw [Lib.alloc_old _ _ _ (by simp; omega), Lib.alloc_old _ _ _ (by simp)]; exact heap_alloc_new w _
  have hX2 : (((w.alloc (.cells #[.int .i64 1232, .int .i64 0, .int .i64 0, .bool false, .int .i64 0, .slice (some ⟨ob, 0, none⟩) 1 oc] 179)).alloc (.cells #[.string ⟨#[]⟩, .int .i64 0, .int .i64 0, .int .i64 0, .string ⟨#[]⟩] 128)).alloc (.cells #[.int .i64 12, .string D] 181)).heap[w.heap.size + 1]? = some (.cells #[.string ⟨#[]⟩, .int .i64 0, .int .i64 0, .int .i64 0, .string ⟨#[]⟩] 128 (0, 0)) := by
    rw [Lib.alloc_old _ _ _ (by simp)]; exact alloc2_new w _ _
  have hXb : Below w.heap.size w (((w.alloc (.cells #[.int .i64 1232, .int .i64 0, .int .i64 0, .bool false, .int .i64 0, .slice (some ⟨ob, 0, none⟩) 1 oc] 179)).alloc (.cells #[.string ⟨#[]⟩, .int .i64 0, .int .i64 0, .int .i64 0, .string ⟨#[]⟩] 128)).alloc (.cells #[.int .i64 12, .string D] 181)) :=
    (((Below.refl _ w).alloc (Nat.le_refl _) _).alloc (by simp) _).alloc (by simp; omega) _
  generalize ((w.alloc (.cells #[.int .i64 1232, .int .i64 0, .int .i64 0, .bool false, .int .i64 0, .slice (some ⟨ob, 0, none⟩) 1 oc] 179)).alloc (.cells #[.string ⟨#[]⟩, .int .i64 0, .int .i64 0, .int .i64 0, .string ⟨#[]⟩] 128)).alloc (.cells #[.int .i64 12, .string D] 181) = wX at *
  have hXl : w.heap.size + 1 + 1 < wX.heap.size := (Array.getElem?_eq_some_iff.1 hX).1
  have hO0 := popt_cells (show POpt wX.drew (w.heap.size + 1 + 1) D from hX)
  have hsA : (txt (Oc.p16 12)).size = 2 := txt_size _
  have hsB : (txt (Oc.p16 m)).size = 2 := txt_size _
  have hAd : txt (Oc.p16 12) ++ txt (Oc.p16 m) = txt (Oc.p16 12 ++ Oc.p16 m) := txt_append _ _
  generalize txt (Oc.p16 12) = A at *
  generalize txt (Oc.p16 m) = B at *
  have HAD := Lib.hid hAd
  have HX := Lib.hid (And.intro hX1 hX2)
  clear hX1 hX2 hAd o0 o1 hX hq
  go_region_held3 (fun w' => POpt w' (w.heap.size + 1 + 1) D ∧ w'.cell? ⟨w.heap.size + 1 + 1, 0, none⟩ = some (.int .i64 12) ∧ w'.cell? ⟨w.heap.size + 1 + 1, 1, none⟩ = some (.string D))
    (first
      | exact hO0
      | (go_split_ands; exact popt_cells (popt_below (by assumption) hbA))
      | (go_split_ands; exact popt_cells (popt_below (by assumption) hbB))
      | (go_split_ands; exact popt_cells (popt_grown (by assumption) hgE (fun e => by cases e)))
      | (go_split_ands; exact popt_cells (popt_grown (by assumption) hgF (fun e => by have := (hownE.lt _ e).1; omega))))
    (first
      | (go_at_call 136; refine (H12.out _).mono ?_; rintro e wA ⟨rfl, hbA⟩)
      | (go_at_call 136; refine (HMM.out _).mono ?_; rintro e wB ⟨rfl, hbB⟩)
      | (refine step_append_string rfl (.tmp 49) (.tmp 57) 47 9 rfl wX.heap.size 5 i0 Tryz.underlying47 Tryz.underlying9 hi hz0 hz1 hz2 (.slice none 0 0) 0 [] rfl (World.ownsRow_nil _ _ _ _) _ rfl (by simp [hsA, hsB, maxLen]) (by simp [hsA, hsB]) (Nat.le_trans hbA.size hbB.size) ?_; intro vE wE hownE hgE)
      | (refine step_append_string rfl (.tmp 58) (.tmp 60) 47 9 rfl wX.heap.size 5 i0 Tryz.underlying47 Tryz.underlying9 hi hz0 hz1 hz2 vE _ _ rfl hownE _ rfl (by simp [hsA, hsB, hds, maxLen]; omega) (by simp [hsA, hsB, hds]; omega) (Nat.le_trans (Nat.le_trans hbA.size hbB.size) hgE.size) ?_; intro vF wF hownF hgF))
  have hlen : 0 + (A ++ B).size + D.size = (padData m).length := by
    rw [HPD.out, List.length_append, List.length_append, List.length_replicate]
    simp only [ByteArray.size_append, hsA, hsB, hds]
    show 0 + (2 + 2) + m = 2 + 2 + m
    omega
  have hbytes : ([] ++ Lib.strCells (A ++ B)) ++ Lib.strCells D = Lib.byteCells (padData m) := by
    rw [HPD.out, Lib.byteCells_append, HAD.out, strCells_txt, List.nil_append]
    congr 1
    rw [← HD.out, ← strCells_txt, txt_of]
  rw [hlen, hbytes] at hownF
  obtain ⟨vo, vc, rfl⟩ := own_form hownF
  have hcv := own_conv hownF
  have hpl : (padData m).length ≤ 1000 := by rw [← hlen]; simp only [ByteArray.size_append, hsA, hsB, hds]; omega
  have hbF : Below wX.heap.size wX wF := ((((show Below wX.heap.size wX wA from ⟨hbA.os, hbA.tape, hbA.output, hbA.size, hbA.block⟩).trans (hbB.mono hbA.size)).grown hgE (Nat.le_trans hbA.size hbB.size) (fun k e => by cases e))).grown hgF (Nat.le_trans (Nat.le_trans hbA.size hbB.size) hgE.size) (fun k e => (hownE.lt k e).1)
  have hF1 := (hbF.block w.heap.size (by omega)).trans HX.out.1
  have hF2 := (hbF.block (w.heap.size + 1) (by omega)).trans HX.out.2
  have x0 : wF.cell? ⟨w.heap.size, 0, none⟩ = some (.int .i64 1232) := by rw [Lib.cell_of_heap hF1]; rfl
  have x1 : wF.cell? ⟨w.heap.size, 1, none⟩ = some (.int .i64 0) := by rw [Lib.cell_of_heap hF1]; rfl
  have x2 : wF.cell? ⟨w.heap.size, 2, none⟩ = some (.int .i64 0) := by rw [Lib.cell_of_heap hF1]; rfl
  have x3 : wF.cell? ⟨w.heap.size, 3, none⟩ = some (.bool false) := by rw [Lib.cell_of_heap hF1]; rfl
  have x4 : wF.cell? ⟨w.heap.size, 4, none⟩ = some (.int .i64 0) := by rw [Lib.cell_of_heap hF1]; rfl
  have HF2 := Lib.hid hF2
  have z0 : wF.cell? ⟨w.heap.size + 1, 0, none⟩ = some (.string ⟨#[]⟩) := by rw [Lib.cell_of_heap hF2]; rfl
  have z1 : wF.cell? ⟨w.heap.size + 1, 1, none⟩ = some (.int .i64 0) := by rw [Lib.cell_of_heap hF2]; rfl
  have z2 : wF.cell? ⟨w.heap.size + 1, 2, none⟩ = some (.int .i64 0) := by rw [Lib.cell_of_heap hF2]; rfl
  have z3 : wF.cell? ⟨w.heap.size + 1, 3, none⟩ = some (.int .i64 0) := by rw [Lib.cell_of_heap hF2]; rfl
  have z4 : wF.cell? ⟨w.heap.size + 1, 4, none⟩ = some (.string ⟨#[]⟩) := by rw [Lib.cell_of_heap hF2]; rfl
  have fz : ∀ j : Nat, wF.frozen? ⟨w.heap.size + 1, j, none⟩ = false := fun j => Lib.frozen_of_heap hF2 j
  have HFB := Lib.hid hbF
  have HXB := Lib.hid hXb
  clear hF1 hF2 hO0 hbytes hlen hds hgE hgF hbF hXb
  have hq2 : ((65535 : Int) < ((padData m).length : Int)) = False := by simp; omega
  generalize hpdd : padData m = pd at *
  have HPDD := Lib.hid hpdd
  clear hpdd
  go_wp2_with fail
  rw [rounds_succ]
  go_wp2_with fail
  (try simp only [Exit.inBlock, Exit.then])
  refine bodyPost_ret (v := .tuple #[.agg (optCells (txt (padData m))), .int .i64 0]) ?hr rfl ⟨rfl, below_set5 ((HXB.out).trans (HFB.out.mono (by omega))) (show w.heap.size ≤ w.heap.size + 1 by omega)⟩
  refine results_cell2 (a := 2) (u := 3) (t := 128) rfl _ _ ⟨w.heap.size + 1, 0, none⟩ _ rfl (run_loadVar_row _ _ 128 128 (optCells (txt (padData m))) (0, 0) _ ?_ Tryz.underlying128 rfl (by kernel_rfl))
  rw [HPDD.out]
  exact heap_set5 HF2.out
end Go.Proofs.YtolbfeggceemfaaGreatDoor
