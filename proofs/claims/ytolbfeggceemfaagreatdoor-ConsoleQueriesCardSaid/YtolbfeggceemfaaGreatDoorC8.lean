/-
  Lines and words, plain; the walk of console.Run, what the commands tell left open. Condition: the variables read as the program lays them; what a line of words tells is of at most a million bytes.
-/
import Derived.Test.YtolbfeggceemfaaGreatDoorC7
import Derived.Lib.SplitLaws
import Derived.Lib.RuneCount
namespace Go.Proofs.YtolbfeggceemfaaGreatDoor
open Go.RowKit

/-- What parts words. -/
def isGap (n : Nat) : Bool := n == 32 || n == 9
theorem spans_ok (p : Nat → Bool) (s : ByteArray) : ∀ (f pos : Nat) (st : Option Nat) (acc : List (Nat × Nat)), (∀ x ∈ acc, x.1 < x.2 ∧ x.1 < s.size) → (∀ a, st = some a → a < pos ∧ a < s.size) →
    (∀ x ∈ (Lib.spansFromP p s f pos st acc).1, x.1 < x.2 ∧ x.1 < s.size) ∧ (∀ a, (Lib.spansFromP p s f pos st acc).2 = some a → a < s.size)
  | 0, pos, st, acc, h1, h2 => ⟨h1, fun a h => (h2 a h).2⟩
  | f + 1, pos, st, acc, h1, h2 => by
    unfold Lib.spansFromP
    by_cases hp : pos < s.size
    · rw [if_pos hp]
      have hw : 1 ≤ (Utf8.decode s pos).2 := Lib.decode_width_pos s pos hp
      split
      · cases st with
        | none => exact spans_ok p s f _ _ _ h1 (by simp)
        | some a =>
          refine spans_ok p s f _ _ _ (fun x hx => ?_) (by simp)
          rcases List.mem_append.1 hx with h | h
          · exact h1 x h
          · simp at h
            subst h
            exact h2 a rfl
      · cases st with
        | none => exact spans_ok p s f _ _ _ h1 (fun a h => by cases h; omega)
        | some a => exact spans_ok p s f _ _ _ h1 (fun a' h => by cases h; have := h2 a rfl; omega)
    · rw [if_neg hp]
      exact ⟨h1, fun a h => (h2 a h).2⟩
theorem fields_ok (p : Nat → Bool) (s : ByteArray) : ∀ x ∈ Lib.goFieldsP p s, 0 < x.size ∧ x.size ≤ s.size := by
  intro x hx
  obtain ⟨⟨a, e⟩, hm, rfl⟩ := List.mem_map.1 hx
  have h := spans_ok p s s.size 0 none [] (by simp) (by simp)
  have : a < e ∧ a < s.size := by
    unfold Lib.spansOfP Lib.closeSpans at hm
    split at hm
    · rename_i b hb
      rcases List.mem_append.1 hm with h' | h'
      · exact h.1 _ h'
      · simp at h'
        have := h.2 _ hb
        omega
    · exact h.1 _ hm
  simp only [ByteArray.size_extract]
  omega
theorem spans_len (p : Nat → Bool) (s : ByteArray) : ∀ (f pos : Nat) (st : Option Nat) (acc : List (Nat × Nat)), (Lib.spansFromP p s f pos st acc).1.length ≤ acc.length + f
  | 0, pos, st, acc => by simp [Lib.spansFromP]
  | f + 1, pos, st, acc => by
    unfold Lib.spansFromP
    by_cases hp : pos < s.size
    · rw [if_pos hp]
      split
      · cases st with
        | none => exact Nat.le_trans (spans_len p s f _ _ _) (by omega)
        | some a => exact Nat.le_trans (spans_len p s f _ _ _) (by simp; omega)
      · cases st with
        | none => exact Nat.le_trans (spans_len p s f _ _ _) (by omega)
        | some a => exact Nat.le_trans (spans_len p s f _ _ _) (by omega)
    · rw [if_neg hp]
      simp
theorem fields_len (p : Nat → Bool) (s : ByteArray) : (Lib.goFieldsP p s).length ≤ s.size + 1 := by
  unfold Lib.goFieldsP Lib.spansOfP Lib.closeSpans
  have := spans_len p s s.size 0 none []
  rw [List.length_map]
  split
  · simp at this ⊢
    omega
  · simp at this ⊢
    omega
theorem split_sizes (sep : ByteArray) : ∀ (k : Nat) (s : ByteArray), ∀ x ∈ Lib.splitB sep 0 k s, x.size ≤ s.size
  | 0, s, x, hx => by
    simp [Lib.splitB] at hx
    subst hx
    omega
  | k + 1, s, x, hx => by
    unfold Lib.splitB at hx
    split at hx
    · simp at hx
      subst hx
      omega
    · rcases List.mem_cons.1 hx with rfl | h
      · simp only [ByteArray.size_extract]
        omega
      · have := split_sizes sep k _ x h
        simp only [ByteArray.size_extract] at this
        omega


set_option maxHeartbeats 1000000 in
set_option maxRecDepth 100000 in
theorem gap_calls (n : Nat) (w : World) : Calls Tryz.prog 24 #[.int .i32 (n : Int)] w fun e w' => e = .returned (.bool (isGap n)) ∧ w' = w := by
  obtain ⟨r, hr⟩ : ∃ r, isGap n = r := ⟨_, rfl⟩
  rw [hr]
  unfold isGap at hr
  by_cases h1 : n = 32
  · have hq : ((n : Int) == 32) = true := by simp; omega
    have hr' : r = true := by rw [← hr]; simp [h1]
    subst hr'
    clear hr h1
    go_enter Tryz.func24, Tryz.ntmps24
    go_wp2
    go_ret
    exact ⟨rfl, rfl⟩
  · have hq : ((n : Int) == 32) = false := by simp; omega
    by_cases h2 : n = 9
    · have hq2 : ((n : Int) == 9) = true := by simp; omega
      have hr' : r = true := by rw [← hr]; simp [h2]
      subst hr'
      clear hr h1 h2
      go_enter Tryz.func24, Tryz.ntmps24
      go_wp2
      go_ret
      exact ⟨rfl, rfl⟩
    · have hq2 : ((n : Int) == 9) = false := by simp; omega
      have hr' : r = false := by rw [← hr]; simp [h1, h2]
      subst hr'
      clear hr h1 h2
      go_enter Tryz.func24, Tryz.ntmps24
      go_wp2
      go_ret
      exact ⟨rfl, rfl⟩

theorem fields_calls (s : ByteArray) (w : World) (hs : s.size ≤ 4294967296) :
    Calls Tryz.prog 23 #[.string s, .func (.func 24) #[] #[]] w fun e w' => ∃ A, e = .returned (.slice (some ⟨A, 0, none⟩) (Lib.goFieldsP isGap s).length (Lib.goFieldsP isGap s).length) ∧ w.heap.size ≤ A ∧ A < w'.heap.size ∧
      (∀ (j : Nat) x, (Lib.goFieldsP isGap s)[j]? = some x → w'.cell? ⟨A, j, none⟩ = some (.string x)) ∧ Below w.heap.size w w' := by
  refine (Tryz.strings_FieldsFunc 24 #[] (enter_of Tryz.func24 (by kernel_rfl) (by kernel_rfl)) isGap s w hs (fun W x _ => ?_)).mono ?_
  · refine (gap_calls x W).mono ?_
    rintro e w' ⟨h1, rfl⟩
    exact ⟨h1, 0, rfl⟩
  · rintro e w' ⟨A, he, hA, hown, hb⟩
    refine ⟨A, he, hA, ?_, fun j x hj => ?_, hb⟩
    · exact (hown.lt A rfl).2
    · have := hown.cells (g := A) rfl j (.string x) (by simp [hj])
      rwa [Addr.add_lit, Nat.zero_add] at this

namespace Nu
/-- What a line tells. -/
def lineOut (T : Nat → St → List UInt8) (line : ByteArray) : List UInt8 :=
  if ((Lib.goFieldsP isGap line).head?.bind fun x => x.data.toList.head?).getD 35 = 35 then [] else tells T ((Lib.goFieldsP isGap line).map fun x => x.data.toList) ++ [10]
/-- What a script tells. -/
def runOut (T : Nat → St → List UInt8) (s : ByteArray) : List UInt8 := (Lib.splitB ⟨#[10]⟩ 0 (Lib.countB s ⟨#[10]⟩) s).flatMap (lineOut T)
end Nu

/-- console.tells is what T says. -/
def TellsOk (T : Nat → St → List UInt8) : Prop :=
  ∀ (W : World) (r : Nat) (l : List (ByteArray × Value)) (g cap : Nat) (ws : List ByteArray), Built W r cmds l → Vars W → g < W.heap.size → (∀ (j : Nat) x, ws[j]? = some x → W.cell? ⟨g, j, none⟩ = some (.string x)) →
    ws ≠ [] → (∀ x ∈ ws, x.size ≤ 16384) → ws.length ≤ 20000 →
    Calls Tryz.prog 26 #[.map (some r), .slice (some ⟨g, 0, none⟩) ws.length cap] W fun e w' => e = .returned (.string (txt (Nu.tells T (ws.map fun x => x.data.toList)))) ∧ Below W.heap.size W w' ∧ (Nu.tells T (ws.map fun x => x.data.toList)).length ≤ 1000000

theorem built_below {w w' : World} {r : Nat} {cs : List Cmd} {l : List (ByteArray × Value)} {B : Nat} (h : Built w r cs l) (hb : Below B w w') (hB : w.heap.size ≤ B) : Built w' r cs l := by
  have hr := h.lt
  refine ⟨(hb.block r (by omega)).trans h.1, fun s => ?_⟩
  have hs := h.2 s
  cases hc : cmdOf s cs with
  | none => rw [hc] at hs; exact hs
  | some c =>
    rw [hc] at hs
    obtain ⟨b, h1, h2, h3⟩ := hs
    exact ⟨b, h1, h2, (hb.block b (Nat.lt_of_lt_of_le (Array.getElem?_eq_some_iff.1 h3).1 hB)).trans h3⟩

set_option maxHeartbeats 1000000 in
set_option maxRecDepth 100000 in
theorem run_long (s : ByteArray) (w : World) (h : 16384 < s.size) : Calls Tryz.prog 9 #[.string s] w fun e w' => e = .returned (.tuple #[.string (txt []), .int .i64 2801]) ∧ w' = w := by
  have hq : (16384 : Int) < (s.size : Int) := by omega
  go_enter Tryz.func9, Tryz.ntmps9
  go_wp2
  go_ret2
  exact ⟨rfl, rfl⟩

theorem line_bound (T : Nat → St → List UInt8) {x : ByteArray} (h : ∀ ws, Lib.goFieldsP isGap x = ws → ws ≠ [] → (Nu.tells T (ws.map fun x => x.data.toList)).length ≤ 1000000) : (Nu.lineOut T x).length ≤ 1000001 := by
  unfold Nu.lineOut
  split
  · simp
  · rename_i hne
    have := h _ rfl (fun e => by rw [e] at hne; simp at hne)
    simp only [List.length_append, List.length_cons, List.length_nil]
    omega

set_option maxHeartbeats 2000000 in
set_option maxRecDepth 100000 in
theorem run_short (T : Nat → St → List UInt8) (hT : TellsOk T) (s : ByteArray) (w : World) (h : s.size ≤ 16384) (hV : Vars w) :
    Calls Tryz.prog 9 #[.string s] w fun e w' => e = .returned (.tuple #[.string (txt (Nu.runOut T s)), .int .i64 0]) ∧ Below w.heap.size w w' := by
  have h8 := hV.size
  have HV := Lib.hid hV
  have HT := Lib.hid hT
  obtain ⟨ls, hls⟩ : ∃ ls, Lib.splitB ⟨#[10]⟩ 0 (Lib.countB s ⟨#[10]⟩) s = ls := ⟨_, rfl⟩
  obtain ⟨out, hout⟩ : ∃ out, Nu.runOut T s = out := ⟨_, rfl⟩
  have hll : Lib.countB s ⟨#[10]⟩ + 1 = ls.length := by rw [← hls]; exact (Lib.splitB_all _ (by decide) 0 _ s rfl).symm
  have hsz : ∀ x ∈ ls, x.size ≤ 16384 := fun x hx => Nat.le_trans (split_sizes _ _ _ x (by rw [hls]; exact hx)) h
  have HO : Aside (ls.flatMap (Nu.lineOut T) = out) := by rw [← hls]; exact hout
  have hsplit := fun W (hV : Vars W) => (hV.len).elim fun m hm => Tryz.strings_Split s ⟨#[10]⟩ m W (by omega) hm (by decide)
  rw [hls, hll] at hsplit
  have hln : ls.length ≤ 16385 := by have := Lib.countB_le ⟨#[10]⟩ (by decide) s.size s (Nat.le_refl _); omega
  have HSP := Lib.hid hsplit
  have HSZ := Lib.hid hsz
  have hq : ((16384 : Int) < (s.size : Int)) = False := by simp; omega
  rw [hout]
  clear hV hT hsplit hsz hls hll hout
  go_enter Tryz.func9, Tryz.ntmps9
  go_wp2_with (first | (go_at_call 21; refine (commands_calls _).mono ?_; rintro e w1 ⟨rfl, hb1, l, hB1⟩; have hz1 := hb1.size; have hb1' := hb1.trans (below_alloc8 w1 (by omega) (.cells #[.pointer none, .slice none 0 0] 49) |>.mono hz1)) | (go_at_call 22; refine (HSP.out _ (HV.out.below hb1' h8)).mono ?_; rintro e w2 ⟨rfl, rfl⟩))
  clear hb1' hq
  go_loopg [16] ls.length (fun gg v16 wx => ∃ (k : Nat), v16 = .int .i64 (k : Int) ∧ k + gg = ls.length ∧ Lib.IsBuilderF 49 5 w1.heap.size w1.heap.size (Lib.byteCells ((ls.take k).flatMap (Nu.lineOut T))) wx ∧ Below w1.heap.size w1 wx ∧
    wx.heap[w1.heap.size + 1]? = some (.cells (ls.map Value.string).toArray 9 (0, 0)) ∧ ((ls.take k).flatMap (Nu.lineOut T)).length ≤ k * 1000001)
  case atStart =>
    refine ⟨0, rfl, by omega, ?_, ?_, ?_, by simp⟩
    · exact isb_below (Lib.IsBuilderF.of (Lib.fresh_isBuilder 49 5 w1)) ((Below.refl _ _).alloc (Nat.le_refl _) _)
    · exact ((Below.refl _ w1).alloc (Nat.le_refl _) _).alloc (by simp) _
    · have := heap_alloc_new (w1.alloc (.cells #[.pointer none, .slice none 0 0] 49)) (.cells (ls.map Value.string).toArray 9)
      simpa using this
  case round =>
    obtain ⟨k, rfl, hk, hI, hbx, hsp, hlen⟩ := hrel
    have hbs := hbx.size
    have hbw := hb1.trans (hbx.mono hz1)
    have hspl : w1.heap.size + 1 < wr.heap.size := (Array.getElem?_eq_some_iff.1 hsp).1
    cases gk with
    | zero =>
      have hk0 : k = ls.length := by omega
      rw [List.take_of_length_le (by omega), HO] at hI
      clear hk0 hlen
      go_wp2_with (go_at_call 27; refine (Tryz.Builder_String_any_k w1.heap.size w1.heap.size _ _ hI (by omega)).mono ?_; rintro e w3 ⟨rfl, _, b2, _⟩)
      go_ret2
      exact ⟨rfl, hbw.trans (b2.mono hz1)⟩
    | succ g =>
      have hk' : k < ls.length := by omega
      have cx : wr.cell? ⟨w1.heap.size + 1, k, none⟩ = some (.string ls[k]) := by
        rw [Lib.cell_of_heap hsp]; simp [hk']
      have hxs := HSZ.out _ (List.getElem_mem hk')
      have hnext : (ls.take (k + 1)).flatMap (Nu.lineOut T) = (ls.take k).flatMap (Nu.lineOut T) ++ Nu.lineOut T ls[k] := by
        rw [List.take_succ_eq_append_getElem hk', List.flatMap_append]; simp
      have hF := fields_calls ls[k] wr (by omega)
      have hfo := fields_ok isGap ls[k]
      have hfl := fields_len isGap ls[k]
      have hline : Nu.lineOut T ls[k] = if ((Lib.goFieldsP isGap ls[k]).head?.bind fun x => x.data.toList.head?).getD 35 = 35 then [] else Nu.tells T ((Lib.goFieldsP isGap ls[k]).map fun x => x.data.toList) ++ [10] := rfl
      generalize ls[k] = x at *
      generalize Lib.goFieldsP isGap x = F at *
      have HF := Lib.hid hF
      have HN := Lib.hid hnext
      have HFO := Lib.hid hfo
      have HI := Lib.hid hI
      have HSP2 := Lib.hid hsp
      clear hF hnext hfo hI hsp
      cases F with
      | nil =>
        have hl0 : Nu.lineOut T x = [] := by rw [hline]; rfl
        have HL0 := Lib.hid hl0
        clear hline hl0
        go_wp2_with (go_at_call 23; refine HF.out.mono ?_; rintro e wf ⟨A, rfl, hA, hA2, hAc, hbf⟩; have HAC := Lib.hid hAc; clear hAc)
        go_roundg g
        case measure => omega
        case rel =>
          refine ⟨k + 1, by simp, by omega, ?_, hbx.trans (hbf.mono hbs), ?_, ?_⟩
          · rw [HN.out, HL0.out, List.append_nil]; exact isb_below HI.out hbf
          · exact (hbf.block _ hspl).trans HSP2.out
          · rw [HN.out, HL0.out, List.append_nil]; exact Nat.le_trans hlen (Nat.mul_le_mul_right _ (Nat.le_succ k))
      | cons y ys =>
        have hy := (HFO.out y (by simp)).1
        have hyd : y.data.toList.head? = some y[0] := by
          rw [List.head?_eq_getElem?, List.getElem?_eq_getElem (by simpa using hy)]
          rfl
        have hnl : ((y :: ys).length : Int) = (ys.length : Int) + 1 := by simp
        simp only [List.length_cons] at HF hfl
        by_cases hc : y[0].toNat = 35
        · have hq : ((y[0].toNat : Int) != 35) = false := by simp; omega
          have hl0 : Nu.lineOut T x = [] := by
            rw [hline, if_pos]
            simp only [List.head?_cons, Option.bind_some, hyd, Option.getD_some]
            exact UInt8.toNat_inj.1 hc
          have HL0 := Lib.hid hl0
          clear hline hl0 hc hyd hnl
          go_wp2_with (go_at_call 23; refine HF.out.mono ?_; rintro e wf ⟨A, rfl, hA, hA2, hAc, hbf⟩; have hA0 := hAc 0 y rfl; have HAC := Lib.hid hAc; clear hAc)
          go_roundg g
          case measure => omega
          case rel =>
            refine ⟨k + 1, by simp, by omega, ?_, hbx.trans (hbf.mono hbs), ?_, ?_⟩
            · rw [HN.out, HL0.out, List.append_nil]; exact isb_below HI.out hbf
            · exact (hbf.block _ hspl).trans HSP2.out
            · rw [HN.out, HL0.out, List.append_nil]; exact Nat.le_trans hlen (Nat.mul_le_mul_right _ (Nat.le_succ k))
        · have hq : ((y[0].toNat : Int) != 35) = true := by simp; omega
          have hl0 : Nu.lineOut T x = Nu.tells T ((y :: ys).map fun x => x.data.toList) ++ [10] := by
            rw [hline, if_neg]
            simp only [List.head?_cons, Option.bind_some, hyd, Option.getD_some]
            exact fun e => hc (by rw [e]; rfl)
          have HL0 := Lib.hid hl0
          have hTL := fun W A cap h1 h2 h3 h4 => HT.out W w.heap.size l A cap (y :: ys) h1 h2 h3 h4 (by simp) (fun x hx => Nat.le_trans (HFO.out x hx).2 hxs) (by simp; omega)
          generalize Nu.tells T ((y :: ys).map fun x => x.data.toList) = t at *
          simp only [List.length_cons] at hTL
          have HTL := Lib.hid hTL
          clear hline hl0 hc hyd hnl hTL
          go_wp2_with (first
            | (go_at_call 23; refine HF.out.mono ?_; rintro e wf ⟨A, rfl, hA, hA2, hAc, hbf⟩; have hA0 := hAc 0 y rfl; have HAC := Lib.hid hAc; clear hAc; have hbf1 := hbx.trans (hbf.mono hbs))
            | (go_at_call 26; refine (HTL.out wf A _ (built_below hB1 hbf1 (Nat.le_refl _)) (HV.out.below (hb1.trans (hbf1.mono hz1)) h8) hA2 HAC.out).mono ?_; rintro e wt ⟨rfl, hbt, htl⟩; have hts : (txt t).size ≤ 1000000 := by (rw [txt_size]; exact htl)))
          have hbt2 := hbf.size
          have hbt3 := hbt.size
          have hcat : txt t ++ ⟨#[10]⟩ = txt (t ++ [10]) := txt_append t [10]
          have hcs : (txt (t ++ [10])).size ≤ 1000001 := by rw [txt_size, List.length_append]; simp; exact htl
          have hbig : k * 1000001 ≤ 16385 * 1000001 := Nat.mul_le_mul_right _ (by omega)
          rw [hcat]
          have hIt := isb_below (isb_below HI.out hbf) hbt
          refine (bld_string w1.heap.size w1.heap.size _ _ _ hIt (by rw [Lib.byteCells_length]; exact Nat.le_trans (Nat.add_le_add (Nat.le_trans hlen hbig) hcs) (by decide)) (by omega)).mono ?_
          rintro e wz ⟨rfl, hbz, hbl, hok⟩
          go_wp2
          go_roundg g
          case measure => omega
          case rel =>
            refine ⟨k + 1, by simp, by omega, .inr ?_, (hbf1.trans (hbt.mono (by omega))).trans hbl, ?_, ?_⟩
            · rw [HN.out, HL0.out, Lib.byteCells_append]
              rw [strCells_txt] at hbz
              exact hbz
            · refine hok _ _ ((hbt.block _ (by omega)).trans ((hbf.block _ hspl).trans HSP2.out)) (fun e => by have := Option.some.inj e; omega) (fun c fz e => by cases e)
            · rw [HN.out, HL0.out, List.length_append, Nat.add_mul, Nat.one_mul]
              refine Nat.add_le_add hlen ?_
              rw [txt_size] at hcs
              exact hcs
end Go.Proofs.YtolbfeggceemfaaGreatDoor
