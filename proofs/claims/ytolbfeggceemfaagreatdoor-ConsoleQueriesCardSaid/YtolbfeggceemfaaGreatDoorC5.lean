/-
  The walks of console.told and of what the commands tell: count, fold, above, compare, size, room. Condition: the block of the words is laid; the names are of at most 2^40 bytes; the variables read as the program lays them.
-/
import Derived.Test.YtolbfeggceemfaaGreatDoorC4
import Derived.Test.YtolbfeggceemfaaGreatDoorQ1
import Derived.Lib.AppendIntMem
import Derived.Lib.ItoaLen
namespace Go.Proofs.YtolbfeggceemfaaGreatDoor
open Go.RowKit

theorem itoa_calls (n : Int) (h0 : -9223372036854775808 ≤ n) (h1 : n ≤ 9223372036854775807) (w : World) (hV : Vars w) :
    Calls Tryz.prog 38 #[.int .i64 n] w fun e w' => e = .returned (.string (txt (Lib.itoa n))) ∧ Below w.heap.size w w' := by
  refine (Tryz.strconv_Itoa n h0 h1 w hV.pow).mono ?_
  rintro e w' ⟨he, k, os, rfl⟩
  exact ⟨he, Lib.below_grow _ _ (Nat.le_refl _) _ _⟩

theorem itoa_len (n : Int) (h0 : -9223372036854775808 ≤ n) (h1 : n ≤ 9223372036854775807) : (Lib.itoa n).length ≤ 100 := Nat.le_trans (Lib.itoa_length_le n h0 h1) (by decide)

namespace Nu
/-- A text, or an error's words. -/
def told (l : List UInt8) (e : Int) : List UInt8 := if e = 0 then l else [101, 114, 114, 111, 114, 32] ++ Lib.itoa e
end Nu

set_option maxHeartbeats 1000000 in
set_option maxRecDepth 100000 in
theorem told_calls (l : List UInt8) (c : Int) (w : World) (hV : Vars w) (h0 : 0 ≤ c) (h1 : c ≤ 1000000) :
    Calls Tryz.prog 50 #[.string (txt l), .int .i64 c] w fun e w' => e = .returned (.string (txt (Nu.told l c))) ∧ Below w.heap.size w w' := by
  by_cases hc : c = 0
  · subst hc
    go_enter Tryz.func50, Tryz.ntmps50
    go_wp2
    go_ret
    exact ⟨rfl, Below.refl _ _⟩
  · have hq : (c != 0) = true := by simp [hc]
    have hT := itoa_calls c (by omega) (by omega) w hV
    have hl := itoa_len c (by omega) (by omega)
    have hr : txt (Nu.told l c) = txt [101, 114, 114, 111, 114, 32] ++ txt (Lib.itoa c) := by rw [Nu.told, if_neg hc, txt_append]
    generalize Lib.itoa c = t at *
    have HR := Lib.hid hr
    have hs : (txt t).size ≤ 1000 := by rw [txt_size]; omega
    clear hr hl
    go_enter Tryz.func50, Tryz.ntmps50
    go_wp2_with (go_at_call 38; refine hT.mono ?_; rintro e w1 ⟨rfl, hb⟩)
    go_ret
    rw [HR.out]
    exact ⟨rfl, hb⟩

/-- What a walk sees of the words' names. -/
theorem see_names {w : World} {b : Nat} {ns : List Nat} {names : List (List UInt8)} {bs : List UInt8} (hW : WordsAt w b ns names bs) (h : 0 < names.length) :
    ∃ g cap, ∀ w', Below w.heap.size w w' → w'.cell? ⟨b, 1, none⟩ = some (.slice (some ⟨g, 0, none⟩) names.length cap) ∧ ∀ (j : Nat) x, names[j]? = some x → w'.cell? ⟨g, j, none⟩ = some (.string (txt x)) := by
  obtain ⟨v1, v2, hk, h1, h2, _⟩ := hW
  obtain ⟨g, cap, rfl, _, hg, hc⟩ := own_at h2 h
  have hbw : b < w.heap.size := (Array.getElem?_eq_some_iff.1 hk).1
  refine ⟨g, cap, fun w' hb => ⟨?_, fun j x hx => ?_⟩⟩
  · rw [hb.cell (p := ⟨b, 1, none⟩) hbw, Lib.cell_of_heap hk]; rfl
  · rw [hb.cell (p := ⟨g, j, none⟩) hg]
    exact hc j _ (by simp [strs, hx])
theorem see_ns {w : World} {b : Nat} {ns : List Nat} {names : List (List UInt8)} {bs : List UInt8} (hW : WordsAt w b ns names bs) (h : 0 < ns.length) :
    ∃ g cap, ∀ w', Below w.heap.size w w' → w'.cell? ⟨b, 0, none⟩ = some (.slice (some ⟨g, 0, none⟩) ns.length cap) ∧ ∀ (j : Nat) x, ns[j]? = some x → w'.cell? ⟨g, j, none⟩ = some (.int .i64 (x : Int)) := by
  obtain ⟨v1, v2, hk, h1, h2, _⟩ := hW
  obtain ⟨g, cap, rfl, _, hg, hc⟩ := own_at h1 h
  have hbw : b < w.heap.size := (Array.getElem?_eq_some_iff.1 hk).1
  refine ⟨g, cap, fun w' hb => ⟨?_, fun j x hx => ?_⟩⟩
  · rw [hb.cell (p := ⟨b, 0, none⟩) hbw, Lib.cell_of_heap hk]; rfl
  · rw [hb.cell (p := ⟨g, j, none⟩) hg]
    exact hc j _ (by simp [i64s, hx])

namespace Nm
/-- A name's text and an error. -/
def textE (l : List UInt8) : List UInt8 × Int := match labels l with | some ls => (text ls, 0) | none => ([], 100)
end Nm
theorem text_calls (s : ByteArray) (w : World) (hm : s.size ≤ 140737488355328) :
    Calls Tryz.prog 58 #[.string s] w fun e w' => e = .returned (.tuple #[.string (txt (Nm.textE s.data.toList).1), .int .i64 (Nm.textE s.data.toList).2]) ∧ Below w.heap.size w w' := by
  unfold Nm.textE
  cases h : Nm.labels s.data.toList with
  | some ls => exact text_yes s ls h w hm
  | none => exact text_not s h w hm
theorem relFold_calls (s : ByteArray) (w : World) (hm : s.size ≤ 140737488355328) :
    Calls Tryz.prog 59 #[.string s] w fun e w' => e = .returned (.string (txt (Nm.fold s.data.toList))) ∧ Below w.heap.size w w' := by
  unfold Nm.fold
  cases h : Nm.labels s.data.toList with
  | some ls => exact fold_yes s ls h w hm
  | none => exact fold_not s h w hm
theorem Nm.textE_err (l : List UInt8) : 0 ≤ (Nm.textE l).2 ∧ (Nm.textE l).2 ≤ 100 := by
  unfold Nm.textE
  split <;> simp

theorem Nm.count_le (l : List UInt8) : Nm.count l ≤ 1000 := by
  unfold Nm.count
  split
  · rename_i ls h
    have h1 := Nm.enc_length_pos ls
    have h2 := (Nm.labels_some h).2.2
    rw [(Nm.labels_some h).1] at h2
    simp only [Nm.wire, List.length_append, List.length_cons, List.length_nil] at h2
    omega
  · simp
theorem Nm.cmpB_range (x y : List UInt8) : Nm.cmpB x y = -1 ∨ Nm.cmpB x y = 0 ∨ Nm.cmpB x y = 1 := by
  unfold Nm.cmpB
  repeat' split
  all_goals simp
theorem Nm.cmpL_range : ∀ (x y : List (List UInt8)), Nm.cmpL x y = -1 ∨ Nm.cmpL x y = 0 ∨ Nm.cmpL x y = 1
  | [], [] => .inr (.inl rfl)
  | [], _ :: _ => .inl rfl
  | _ :: _, [] => .inr (.inr rfl)
  | x :: r, y :: t => by
    rw [Nm.cmpL]
    split
    · exact Nm.cmpL_range r t
    · exact Nm.cmpB_range x y

set_option maxHeartbeats 1000000 in
set_option maxRecDepth 100000 in
theorem tellCount_calls (w : World) (b : Nat) (ns : List Nat) (a : List UInt8) (bs : List UInt8) (hW : WordsAt w b ns [a] bs) (hV : Vars w) (hm : a.length ≤ 1099511627776) :
    Calls Tryz.prog 37 #[.pointer (some ⟨b, 0, none⟩)] w fun e w' => e = .returned (.string (txt (Lib.itoa (Nm.count a : Int)))) ∧ Below w.heap.size w w' := by
  obtain ⟨g, cap, hs⟩ := see_names hW (by simp)
  obtain ⟨c0, cc⟩ := hs w (Below.refl _ _)
  have c1 := cc 0 a rfl
  have hC := count_calls (txt a) w (by rw [txt_size]; omega)
  rw [txt_data] at hC
  have hcount := Nm.count_le a
  have HI := Lib.hid (fun W (hV : Vars W) => itoa_calls (Nm.count a : Int) (by omega) (by omega) W hV)
  have HV := Lib.hid hV
  generalize Nm.count a = n at *
  simp only [List.length_cons, List.length_nil] at c0
  clear hs cc hV
  have h8 := HV.out.size
  go_enter Tryz.func37, Tryz.ntmps37
  go_wp2_with (first | (go_at_call 39; refine hC.mono ?_; rintro e w1 ⟨rfl, hb1⟩) | (go_at_call 38; refine (HI.out _ (HV.out.below hb1 h8)).mono ?_; rintro e w2 ⟨rfl, hb2⟩))
  go_ret
  exact ⟨rfl, hb1.trans (hb2.mono hb1.size)⟩

set_option maxHeartbeats 1000000 in
set_option maxRecDepth 100000 in
theorem tellFold_calls (w : World) (b : Nat) (ns : List Nat) (a : List UInt8) (bs : List UInt8) (hW : WordsAt w b ns [a] bs) (hV : Vars w) (hm : a.length ≤ 1099511627776) :
    Calls Tryz.prog 40 #[.pointer (some ⟨b, 0, none⟩)] w fun e w' => e = .returned (.string (txt (Nu.told (Nm.textE (Nm.fold a)).1 (Nm.textE (Nm.fold a)).2))) ∧ Below w.heap.size w w' := by
  obtain ⟨g, cap, hs⟩ := see_names hW (by simp)
  obtain ⟨c0, cc⟩ := hs w (Below.refl _ _)
  have c1 := cc 0 a rfl
  have hC := relFold_calls (txt a) w (by rw [txt_size]; omega)
  rw [txt_data] at hC
  have hfl := Nm.fold_le a
  have ht := Nm.textE_err (Nm.fold a)
  have hT := fun W => text_calls (txt (Nm.fold a)) W (by rw [txt_size]; omega)
  rw [txt_data] at hT
  generalize Nm.textE (Nm.fold a) = te at *
  have HT := Lib.hid hT
  have HI := Lib.hid (fun W (hV : Vars W) => told_calls te.1 te.2 W hV (by omega) (by omega))
  have HV := Lib.hid hV
  generalize Nm.fold a = n at *
  simp only [List.length_cons, List.length_nil] at c0
  clear hs cc hV hT
  have h8 := HV.out.size
  go_enter Tryz.func40, Tryz.ntmps40
  go_wp2_with (first | (go_at_call 59; refine hC.mono ?_; rintro e w1 ⟨rfl, hb1⟩) | (go_at_call 58; refine (HT.out _).mono ?_; rintro e w2 ⟨rfl, hb2⟩; have hb3 := hb1.trans (hb2.mono hb1.size)) | (go_at_call 50; refine (HI.out _ (HV.out.below hb3 h8)).mono ?_; rintro e w3 ⟨rfl, hb4⟩))
  go_ret
  exact ⟨rfl, hb3.trans (hb4.mono hb3.size)⟩

set_option maxHeartbeats 1000000 in
set_option maxRecDepth 100000 in
theorem tellAbove_calls (w : World) (b : Nat) (ns : List Nat) (x y : List UInt8) (bs : List UInt8) (hW : WordsAt w b ns [x, y] bs) (hx : x.length ≤ 1099511627776) (hy : y.length ≤ 1099511627776) :
    Calls Tryz.prog 41 #[.pointer (some ⟨b, 0, none⟩)] w fun e w' => e = .returned (.string (txt (if Nm.above x y = true then [121, 101, 115] else [110, 111]))) ∧ Below w.heap.size w w' := by
  obtain ⟨g, cap, hs⟩ := see_names hW (by simp)
  have c0 : ∀ W : Cls (fun w' => Below w.heap.size w w'), W.w.cell? ⟨b, 1, none⟩ = some (.slice (some ⟨g, 0, none⟩) 2 cap) := fun W => (hs W.w W.h).1
  have c1 : ∀ W : Cls (fun w' => Below w.heap.size w w'), W.w.cell? ⟨g, 0, none⟩ = some (.string (txt x)) := fun W => (hs W.w W.h).2 0 x rfl
  have c2 : ∀ W : Cls (fun w' => Below w.heap.size w w'), W.w.cell? ⟨g, 1, none⟩ = some (.string (txt y)) := fun W => (hs W.w W.h).2 1 y rfl
  have hC := fun W => above_calls (txt x) (txt y) W (by rw [txt_size]; omega) (by rw [txt_size]; omega)
  rw [txt_data, txt_data] at hC
  generalize Nm.above x y = r at *
  have HC := Lib.hid hC
  clear hs hC
  go_enter Tryz.func41, Tryz.ntmps41
  go_wp2_with fail
  refine region_cls (fun w' => Below w.heap.size w w') (by kernel_rfl) (by kernel_rfl) (Below.refl _ _).drew (fun hne => ?_)
  repeat (go_big_quiet_step ((go_at_call 60; rename_i W; have hb := W.h; refine (HC.out _).mono ?_; rintro e wf ⟨rfl, hbf⟩; exact ⟨rfl, ⟨_, hb.trans (hbf.mono hb.size)⟩, rfl⟩)))
  refine wpQuiet_nil ?_
  intro w2 hb2
  cases r with
  | true =>
    go_wp2
    go_ret
    exact ⟨rfl, hb2⟩
  | false =>
    go_wp2
    go_ret
    exact ⟨rfl, hb2⟩

namespace Nu
def cmpText (r : Int) : List UInt8 := if r = -1 then [108, 101, 115, 115] else if r = 0 then [115, 97, 109, 101] else [109, 111, 114, 101]
end Nu
theorem Tryz.idx84_0 (a b c : Value) (w : World) : (Instr.index 84 (.agg #[a, b, c]) (.int .i64 0)).run Tryz.prog w = .ok a w := by kernel_rfl
theorem Tryz.idx84_1 (a b c : Value) (w : World) : (Instr.index 84 (.agg #[a, b, c]) (.int .i64 1)).run Tryz.prog w = .ok b w := by kernel_rfl
theorem Tryz.idx84_2 (a b c : Value) (w : World) : (Instr.index 84 (.agg #[a, b, c]) (.int .i64 2)).run Tryz.prog w = .ok c w := by kernel_rfl

set_option maxHeartbeats 1000000 in
set_option maxRecDepth 100000 in
theorem tellCompare_calls (w : World) (b : Nat) (ns : List Nat) (x y : List UInt8) (bs : List UInt8) (hW : WordsAt w b ns [x, y] bs) (hx : x.length ≤ 1099511627776) (hy : y.length ≤ 1099511627776) :
    Calls Tryz.prog 42 #[.pointer (some ⟨b, 0, none⟩)] w fun e w' => e = .returned (.string (txt (Nu.cmpText (Nm.compare x y)))) ∧ Below w.heap.size w w' := by
  obtain ⟨g, cap, hs⟩ := see_names hW (by simp)
  have c0 : ∀ W : Cls (fun w' => Below w.heap.size w w'), W.w.cell? ⟨b, 1, none⟩ = some (.slice (some ⟨g, 0, none⟩) 2 cap) := fun W => (hs W.w W.h).1
  have c1 : ∀ W : Cls (fun w' => Below w.heap.size w w'), W.w.cell? ⟨g, 0, none⟩ = some (.string (txt x)) := fun W => (hs W.w W.h).2 0 x rfl
  have c2 : ∀ W : Cls (fun w' => Below w.heap.size w w'), W.w.cell? ⟨g, 1, none⟩ = some (.string (txt y)) := fun W => (hs W.w W.h).2 1 y rfl
  have hC := fun W => compare_calls (txt x) (txt y) W (by rw [txt_size]; omega) (by rw [txt_size]; omega)
  rw [txt_data, txt_data] at hC
  have hr : Nm.compare x y = -1 ∨ Nm.compare x y = 0 ∨ Nm.compare x y = 1 := Nm.cmpL_range _ _
  generalize Nm.compare x y = r at *
  have HC := Lib.hid hC
  clear hs hC
  have ix0 := Tryz.idx84_0
  have ix1 := Tryz.idx84_1
  have ix2 := Tryz.idx84_2
  rcases hr with rfl | rfl | rfl
  all_goals
    go_enter Tryz.func42, Tryz.ntmps42
    go_wp2_with fail
    refine region_cls (fun w' => Below w.heap.size w w') (by kernel_rfl) (by kernel_rfl) (Below.refl _ _).drew (fun hne => ?_)
    repeat (go_big_quiet_step ((go_at_call 61; rename_i W; have hb := W.h; refine (HC.out _).mono ?_; rintro e wf ⟨rfl, hbf⟩; exact ⟨rfl, ⟨_, hb.trans (hbf.mono hb.size)⟩, rfl⟩)))
    refine wpQuiet_nil ?_
    intro w2 hb2
    go_wp2
    go_ret
    exact ⟨rfl, hb2⟩

theorem Nu.size_range (a b c d : Nat) : 0 ≤ (Nu.size a b c d).1 ∧ (Nu.size a b c d).1 ≤ 1000000 ∧ 0 ≤ (Nu.size a b c d).2 ∧ (Nu.size a b c d).2 ≤ 1000000 := by
  by_cases h : ((a : Int) < 0 ∨ 1000 < (a : Int) ∨ (b : Int) < 0 ∨ 1000 < (b : Int) ∨ (c : Int) < 0 ∨ 1000 < (c : Int) ∨ (d : Int) < 0 ∨ 1000 < (d : Int) ∨ (b : Int) = 0)
  · rw [Nu.size_bad h]; decide
  · by_cases h1 : (a : Int) < d ∨ (b : Int) ≤ c - a
    · rw [Nu.size_one h h1]; decide
    · by_cases h2 : (c : Int) ≤ a
      · rw [Nu.size_left h h1 h2]
        refine ⟨?_, ?_, by simp, by simp⟩ <;> (simp only; omega)
      · rw [Nu.size_div h h1 h2]
        have h3 : ((b : Int) + c - a - 1) / (c - a) ≤ (b : Int) + c - a - 1 := Int.ediv_le_self _ (by omega)
        have h4 : 0 ≤ ((b : Int) + c - a - 1) / (c - a) := Int.ediv_nonneg (by omega) (by omega)
        refine ⟨h4, ?_, by simp, by simp⟩
        simp only
        omega

set_option maxHeartbeats 1000000 in
set_option maxRecDepth 100000 in
theorem tellSize_calls (w : World) (b : Nat) (n0 n1 n2 n3 : Nat) (names : List (List UInt8)) (bs : List UInt8) (hW : WordsAt w b [n0, n1, n2, n3] names bs) (hV : Vars w) :
    Calls Tryz.prog 43 #[.pointer (some ⟨b, 0, none⟩)] w fun e w' => e = .returned (.string (txt (Nu.told (Lib.itoa (Nu.size n0 n1 n2 n3).1) (Nu.size n0 n1 n2 n3).2))) ∧ Below w.heap.size w w' := by
  obtain ⟨g, cap, hs⟩ := see_ns hW (by simp)
  have c0 : ∀ W : Cls (fun w' => Below w.heap.size w w'), W.w.cell? ⟨b, 0, none⟩ = some (.slice (some ⟨g, 0, none⟩) 4 cap) := fun W => (hs W.w W.h).1
  have c1 : ∀ W : Cls (fun w' => Below w.heap.size w w'), W.w.cell? ⟨g, 0, none⟩ = some (.int .i64 (n0 : Int)) := fun W => (hs W.w W.h).2 0 n0 rfl
  have c2 : ∀ W : Cls (fun w' => Below w.heap.size w w'), W.w.cell? ⟨g, 1, none⟩ = some (.int .i64 (n1 : Int)) := fun W => (hs W.w W.h).2 1 n1 rfl
  have c3 : ∀ W : Cls (fun w' => Below w.heap.size w w'), W.w.cell? ⟨g, 2, none⟩ = some (.int .i64 (n2 : Int)) := fun W => (hs W.w W.h).2 2 n2 rfl
  have c4 : ∀ W : Cls (fun w' => Below w.heap.size w w'), W.w.cell? ⟨g, 3, none⟩ = some (.int .i64 (n3 : Int)) := fun W => (hs W.w W.h).2 3 n3 rfl
  have hC := fun W => size_calls n0 n1 n2 n3 W
  have hr := Nu.size_range n0 n1 n2 n3
  generalize Nu.size n0 n1 n2 n3 = r at *
  obtain ⟨n, c⟩ := r
  have HC := Lib.hid hC
  have HI := Lib.hid (fun W (hV : Vars W) => itoa_calls n (by omega) (by omega) W hV)
  have HT := Lib.hid (fun W (hV : Vars W) => told_calls (Lib.itoa n) c W hV (by omega) (by omega))
  have HV := Lib.hid hV
  have h8 := hV.size
  clear hs hC hV
  go_enter Tryz.func43, Tryz.ntmps43
  go_wp2_with fail
  refine region_cls (fun w' => Below w.heap.size w w') (by kernel_rfl) (by kernel_rfl) (Below.refl _ _).drew (fun hne => ?_)
  repeat (go_big_quiet_step ((go_at_call 62; rename_i W; have hb := W.h; refine (HC.out _).mono ?_; rintro e wf ⟨rfl, rfl⟩; exact ⟨rfl, ⟨_, hb⟩, rfl⟩)))
  refine wpQuiet_nil ?_
  intro w2 hb2
  clear c0 c1 c2 c3 c4
  go_wp2_with (first | (go_at_call 38; refine (HI.out _ (HV.out.below hb2 h8)).mono ?_; rintro e w3 ⟨rfl, hb3⟩; have hb4 := hb2.trans (hb3.mono hb2.size)) | (go_at_call 50; refine (HT.out _ (HV.out.below hb4 h8)).mono ?_; rintro e w5 ⟨rfl, hb5⟩))
  go_ret
  exact ⟨rfl, hb4.trans (hb5.mono hb4.size)⟩

set_option maxHeartbeats 1000000 in
set_option maxRecDepth 100000 in
theorem tellRoom_calls (w : World) (b : Nat) (n0 n1 : Nat) (names : List (List UInt8)) (bs : List UInt8) (hW : WordsAt w b [n0, n1] names bs) (hV : Vars w) (h0 : n0 ≤ 1000000000000) (h1 : n1 ≤ 1000000000000) :
    Calls Tryz.prog 44 #[.pointer (some ⟨b, 0, none⟩)] w fun e w' => e = .returned (.string (txt (Lib.itoa (Nu.room n0 n1)))) ∧ Below w.heap.size w w' := by
  obtain ⟨g, cap, hs⟩ := see_ns hW (by simp)
  have c0 : ∀ W : Cls (fun w' => Below w.heap.size w w'), W.w.cell? ⟨b, 0, none⟩ = some (.slice (some ⟨g, 0, none⟩) 2 cap) := fun W => (hs W.w W.h).1
  have c1 : ∀ W : Cls (fun w' => Below w.heap.size w w'), W.w.cell? ⟨g, 0, none⟩ = some (.int .i64 (n0 : Int)) := fun W => (hs W.w W.h).2 0 n0 rfl
  have c2 : ∀ W : Cls (fun w' => Below w.heap.size w w'), W.w.cell? ⟨g, 1, none⟩ = some (.int .i64 (n1 : Int)) := fun W => (hs W.w W.h).2 1 n1 rfl
  have hC := fun W => room_calls n0 n1 W (by omega) (by omega)
  have hr : 0 ≤ Nu.room n0 n1 ∧ Nu.room n0 n1 ≤ 1000000000000 := by
    unfold Nu.room
    split
    · simp
    · have h3 := Int.emod_lt_of_pos ((n1 : Int) - ((n0 : Int) + 4) % n1) (show (0 : Int) < n1 by omega)
      have h4 := Int.emod_nonneg ((n1 : Int) - ((n0 : Int) + 4) % n1) (show (n1 : Int) ≠ 0 by omega)
      omega
  generalize Nu.room n0 n1 = n at *
  have HC := Lib.hid hC
  have HI := Lib.hid (fun W (hV : Vars W) => itoa_calls n (by omega) (by omega) W hV)
  have HV := Lib.hid hV
  have h8 := hV.size
  clear hs hC hV
  go_enter Tryz.func44, Tryz.ntmps44
  go_wp2_with fail
  refine region_cls (fun w' => Below w.heap.size w w') (by kernel_rfl) (by kernel_rfl) (Below.refl _ _).drew (fun hne => ?_)
  repeat (go_big_quiet_step (first
    | (go_at_call 45; rename_i W; have hb := W.h; refine (HC.out _).mono ?_; rintro e wf ⟨rfl, rfl⟩; exact ⟨rfl, ⟨_, hb⟩, rfl⟩)
    | (go_at_call 38; rename_i W; have hb := W.h; refine (HI.out _ (HV.out.below hb h8)).mono ?_; rintro e wf ⟨rfl, hbf⟩; exact ⟨rfl, ⟨_, hb.trans (hbf.mono hb.size)⟩, rfl⟩)))
  refine wpQuiet_nil ?_
  intro w2 hb2
  clear c0 c1 c2
  go_wp2
  go_ret
  exact ⟨rfl, hb2⟩
end Go.Proofs.YtolbfeggceemfaaGreatDoor
