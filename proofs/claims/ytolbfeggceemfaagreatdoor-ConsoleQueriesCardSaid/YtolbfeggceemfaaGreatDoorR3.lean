/-
  The walks of package rel, the third part: Compare (with cmp.Compare at texts). Condition: the texts are of at most 2^47 bytes.
-/
import Derived.Test.YtolbfeggceemfaaGreatDoorR2
import Derived.Deep.RegionHeld3
namespace Go.Proofs.YtolbfeggceemfaaGreatDoor
open Go.RowKit
namespace Nm
/-- Bytes and bytes: less -1, the same 0, more 1. -/
def cmpB (x y : List UInt8) : Int := if Op.bytesLess x y = true then -1 else if x = y then 0 else 1
/-- Lists of labels, the last ones ahead. -/
def cmpL : List (List UInt8) → List (List UInt8) → Int
  | [], [] => 0
  | [], _ :: _ => -1
  | _ :: _, [] => 1
  | x :: r, y :: t => if cmpB x y = 0 then cmpL r t else cmpB x y
def compare (a b : List UInt8) : Int := cmpL (foldLs ((labels a).getD [])).reverse (foldLs ((labels b).getD [])).reverse
theorem cmpL_end (X Y : List (List UInt8)) (k : Nat) (h1 : k ≤ X.length) (h2 : k ≤ Y.length) {m n : Nat} (hk : k + 0 = min m n) (hx : X.length = m) (hy : Y.length = n) : cmpL (X.drop k) (Y.drop k) = Lib.compareInt (m : Int) (n : Int) := by
  subst hx hy
  unfold Lib.compareInt
  by_cases e1 : k = X.length
  · rw [List.drop_eq_nil_of_le (by omega)]
    by_cases e2 : k = Y.length
    · rw [List.drop_eq_nil_of_le (by omega), if_neg (by omega), if_neg (by omega)]; rfl
    · rw [List.drop_eq_getElem_cons (show k < Y.length by omega), if_pos (by omega)]; rfl
  · rw [List.drop_eq_getElem_cons (show k < X.length by omega), List.drop_eq_nil_of_le (show Y.length ≤ k by omega), if_neg (by omega), if_pos (by omega)]; rfl
end Nm
theorem cmps_calls (x y : ByteArray) (w : World) : Calls Tryz.prog 80 #[.string x, .string y] w fun e w' => e = .returned (.int .i64 (Nm.cmpB x.data.toList y.data.toList)) ∧ w = w' := by
  obtain ⟨r, hr⟩ : ∃ r, Nm.cmpB x.data.toList y.data.toList = r := ⟨_, rfl⟩
  rw [hr]
  rw [Nm.cmpB, ← Lib.toList_data, ← Lib.toList_data] at hr
  by_cases h1 : Op.bytesLess x.toList y.toList = true
  · rw [if_pos h1] at hr
    have HR := Lib.hid hr
    clear hr
    go_enter Tryz.func80, Tryz.ntmps80
    go_wp2
    go_ret
    rw [← HR.out]
    exact ⟨rfl, rfl⟩
  · have h1' : Op.bytesLess x.toList y.toList = false := by simpa using h1
    rw [if_neg h1] at hr
    by_cases h2 : x.toList = y.toList
    · have h2' : (x.toList == y.toList) = true := by simpa using h2
      rw [if_pos h2] at hr
      have HR := Lib.hid hr
      clear hr h2 h1
      go_enter Tryz.func80, Tryz.ntmps80
      go_wp2
      go_ret
      rw [← HR.out]
      exact ⟨rfl, rfl⟩
    · have h2' : (x.toList == y.toList) = false := by simpa using h2
      rw [if_neg h2] at hr
      have HR := Lib.hid hr
      clear hr h2 h1
      go_enter Tryz.func80, Tryz.ntmps80
      go_wp2
      go_ret
      rw [← HR.out]
      exact ⟨rfl, rfl⟩

theorem folded_txt (x : List UInt8) (w : World) (hm : x.length ≤ 140737488355328) : Calls Tryz.prog 79 #[.string (txt x)] w fun e w' => e = .returned (.string (txt (x.map Nm.foldb))) ∧ Below w.heap.size w w' := by
  have h := folded_calls (txt x) w (by rw [txt_size]; exact hm)
  rw [txt_data] at h
  exact h
theorem cmps_txt (x y : List UInt8) (w : World) : Calls Tryz.prog 80 #[.string (txt x), .string (txt y)] w fun e w' => e = .returned (.int .i64 (Nm.cmpB x y)) ∧ w = w' := by
  have h := cmps_calls (txt x) (txt y) w
  rw [txt_data, txt_data] at h
  exact h

def LabelsAny (ls : List (List UInt8)) (w : World) (e : Ending) (w' : World) : Prop :=
  ∃ ao cap x, e = .returned (.tuple #[.slice ao ls.length cap, .bool x]) ∧ Below w.heap.size w w' ∧ ls.length ≤ 255 ∧ (∀ x ∈ ls, x.length ≤ 63) ∧
    (0 < ls.length → ∃ g, ao = some ⟨g, 0, none⟩ ∧ g < w'.heap.size ∧ ∀ (j : Nat) x, ls[j]? = some x → w'.cell? ⟨g, j, none⟩ = some (.string (txt x)))

theorem labels_any (s : ByteArray) (w : World) (hm : s.size ≤ 140737488355328) : Calls Tryz.prog 77 #[.string s] w (LabelsAny ((Nm.labels s.data.toList).getD []) w) := by
  cases h : Nm.labels s.data.toList with
  | none =>
    refine (labels_not s h w hm).mono ?_
    rintro e w' ⟨he, hb⟩
    exact ⟨none, 0, false, he, hb, by simp, by simp, by simp⟩
  | some ls =>
    have hfacts := Nm.labels_some h
    have hll : ls.length ≤ 255 := by have h1 := Nm.enc_length_pos ls; have h2 := hfacts.2.2; rw [hfacts.1] at h2; simp only [Nm.wire, List.length_append, List.length_cons, List.length_nil] at h2; omega
    refine (labels_yes s ls h w hm).mono ?_
    rintro e w' ⟨v, he, hown, hb⟩
    obtain ⟨ao, cap, rfl⟩ := own_form hown
    refine ⟨ao, cap, true, he, hb, hll, fun x hx => (hfacts.2.1 x hx).2, fun h => ?_⟩
    obtain ⟨g, cap', e1, _, hlt, hc⟩ := own_at hown h
    cases e1
    exact ⟨g, rfl, hlt, fun j x hj => hc j _ (by simp only [Option.getD_some] at hj; simp [strs, hj])⟩

theorem keep_two {w2 W wf : World} {g1 g2 p q : Nat} {x y : Value} (h1 : g1 < w2.heap.size) (h2 : g2 < w2.heap.size)
    (hS : Below w2.heap.size w2 W ∧ W.cell? ⟨g1, p, none⟩ = some x ∧ W.cell? ⟨g2, q, none⟩ = some y) (hb : Below W.heap.size W wf) :
    Below w2.heap.size w2 wf ∧ wf.cell? ⟨g1, p, none⟩ = some x ∧ wf.cell? ⟨g2, q, none⟩ = some y := by
  have hz := hS.1.size
  refine ⟨hS.1.trans (hb.mono hz), ?_, ?_⟩
  · rw [hb.cell (p := ⟨g1, p, none⟩) (by show g1 < _; omega)]; exact hS.2.1
  · rw [hb.cell (p := ⟨g2, q, none⟩) (by show g2 < _; omega)]; exact hS.2.2

set_option maxHeartbeats 1000000 in
set_option maxRecDepth 100000 in
theorem compare_calls (a b : ByteArray) (w : World) (ha : a.size ≤ 140737488355328) (hb : b.size ≤ 140737488355328) :
    Calls Tryz.prog 61 #[.string a, .string b] w fun e w' => e = .returned (.int .i64 (Nm.compare a.data.toList b.data.toList)) ∧ Below w.heap.size w w' := by
  have c1 := fun W => labels_any a W ha
  have c2 := fun W => labels_any b W hb
  have hR : Nm.cmpL (Nm.foldLs ((Nm.labels a.data.toList).getD [])).reverse (Nm.foldLs ((Nm.labels b.data.toList).getD [])).reverse = Nm.compare a.data.toList b.data.toList := rfl
  generalize (Nm.labels a.data.toList).getD [] = xs at *
  generalize (Nm.labels b.data.toList).getD [] = ys at *
  generalize Nm.compare a.data.toList b.data.toList = r at *
  have C1 := Lib.hid c1
  have C2 := Lib.hid c2
  have HR := Lib.hid hR
  clear c1 c2 hR
  go_enter Tryz.func61, Tryz.ntmps61
  go_wp2_with fail
  refine (C1.out _).mono ?_
  rintro e w1 ⟨ao1, cap1, x1, rfl, b1, hl1, hs1, hc1⟩
  have HC1 := Lib.hid hc1
  have HS1 := Lib.hid hs1
  clear hc1 hs1
  go_wp2_with fail
  refine (C2.out _).mono ?_
  rintro e w2 ⟨ao2, cap2, x2, rfl, b2, hl2, hs2, hc2⟩
  have HC2 := Lib.hid hc2
  have HS2 := Lib.hid hs2
  clear hc2 hs2
  have hz1 := b1.size
  have hz2 := b2.size
  go_wp2_with fail
  go_loopg [9] (min xs.length ys.length) (fun gg v9 wx => ∃ (k : Nat), v9 = .int .i64 ((k : Int) + 1) ∧ k + gg = min xs.length ys.length ∧ Aside (Nm.cmpL ((Nm.foldLs xs).reverse.drop k) ((Nm.foldLs ys).reverse.drop k) = r) ∧ Below w2.heap.size w2 wx)
  case atStart => exact ⟨0, rfl, by omega, HR.out, Below.refl _ _⟩
  case round =>
    obtain ⟨k, rfl, hk, HA, hbx⟩ := hrel
    cases gk with
    | zero =>
      have hr : Lib.compareInt (xs.length : Int) (ys.length : Int) = r := by
        rw [← HA.out]
        have hx : (Nm.foldLs xs).reverse.length = xs.length := by simp [Nm.foldLs]
        have hy : (Nm.foldLs ys).reverse.length = ys.length := by simp [Nm.foldLs]
        exact (Nm.cmpL_end _ _ _ (by omega) (by omega) hk hx hy).symm
      have HRR := Lib.hid hr
      clear hr
      go_wp2_with (go_at_call 81; refine (Tryz.cmp_Compare_int _ _ _).mono ?_; rintro e wf ⟨rfl, rfl⟩)
      go_ret
      exact ⟨by rw [← HRR.out]; rfl, (b1.trans (b2.mono hz1)).trans (hbx.mono (by omega))⟩
    | succ g =>
      have hk1 : k < xs.length := by omega
      have hk2 : k < ys.length := by omega
      obtain ⟨g1, rfl, hg1, hc1⟩ := HC1.out (by omega)
      obtain ⟨g2, rfl, hg2, hc2⟩ := HC2.out (by omega)
      obtain ⟨p, hp⟩ : ∃ p, p + (k + 1) = xs.length := ⟨xs.length - (k + 1), by omega⟩
      obtain ⟨q, hq⟩ : ∃ q, q + (k + 1) = ys.length := ⟨ys.length - (k + 1), by omega⟩
      have hp1 : IntKind.i64.wrap ((xs.length : Int) - ((k : Int) + 1)) = (p : Int) := by rw [IntWalk.i64_in _ (by omega)]; omega
      have hq1 : IntKind.i64.wrap ((ys.length : Int) - ((k : Int) + 1)) = (q : Int) := by rw [IntWalk.i64_in _ (by omega)]; omega
      have cx : wr.cell? ⟨g1, p, none⟩ = some (.string (txt (xs[p]'(by omega)))) := by
        rw [hbx.cell (p := ⟨g1, p, none⟩) (by show g1 < _; omega), b2.cell (p := ⟨g1, p, none⟩) hg1]
        exact hc1 p _ (List.getElem?_eq_getElem _)
      have cy : wr.cell? ⟨g2, q, none⟩ = some (.string (txt (ys[q]'(by omega)))) := by
        rw [hbx.cell (p := ⟨g2, q, none⟩) hg2]
        exact hc2 q _ (List.getElem?_eq_getElem _)
      have ex : (Nm.foldLs xs).reverse.drop k = ((xs[p]'(by omega)).map Nm.foldb) :: (Nm.foldLs xs).reverse.drop (k + 1) := by
        rw [List.drop_eq_getElem_cons (by simp [Nm.foldLs]; omega)]
        congr 1
        rw [List.getElem_reverse]
        simp only [Nm.foldLs, List.getElem_map, List.length_map]
        congr 2
        omega
      have ey : (Nm.foldLs ys).reverse.drop k = ((ys[q]'(by omega)).map Nm.foldb) :: (Nm.foldLs ys).reverse.drop (k + 1) := by
        rw [List.drop_eq_getElem_cons (by simp [Nm.foldLs]; omega)]
        congr 1
        rw [List.getElem_reverse]
        simp only [Nm.foldLs, List.getElem_map, List.length_map]
        congr 2
        omega
      have sx := HS1.out (xs[p]'(by omega)) (List.getElem_mem _)
      have sy := HS2.out (ys[q]'(by omega)) (List.getElem_mem _)
      have hp2 : p < xs.length := by omega
      have hq2 : q < ys.length := by omega
      have hg1' : g1 < w2.heap.size := by omega
      have hx0 : (0 : Int) ≤ (p : Int) := Int.natCast_nonneg _
      have hx1 : (p : Int) < (xs.length : Int) := by omega
      have hy0 : (0 : Int) ≤ (q : Int) := Int.natCast_nonneg _
      have hy1 : (q : Int) < (ys.length : Int) := by omega
      have EX := Lib.hid ex
      have EY := Lib.hid ey
      clear ex ey hc1 hc2
      generalize xs[p] = x at *
      generalize ys[q] = y at *
      go_wp2_with fail
      go_region_held3 (fun w' => Below w2.heap.size w2 w' ∧ w'.cell? ⟨g1, p, none⟩ = some (.string (txt x)) ∧ w'.cell? ⟨g2, q, none⟩ = some (.string (txt y)))
        (first
          | exact ⟨hbx.drew, cx, cy⟩
          | go_keep
          | (go_split_ands; exact keep_two hg1' hg2 ⟨by assumption, by assumption, by assumption⟩ hbf))
        (first
          | (go_at_call 79; refine (folded_txt _ _ (by omega)).mono ?_; rintro e wf ⟨rfl, hbf⟩)
          | (go_at_call 80; refine (cmps_txt _ _ _).mono ?_; rintro e wf ⟨rfl, rfl⟩))
      go_wp2_with fail
      · rename_i hS hc
        go_ret
        refine ⟨?_, ((b1.trans (b2.mono hz1)).trans (hS.1.mono (by omega)))⟩
        rw [← HA.out, EX.out, EY.out, Nm.cmpL, if_neg (by simpa using hc)]
        rfl
      · rename_i hS hc
        go_roundg g
        case measure => omega
        case rel =>
          refine ⟨k + 1, by simp, by omega, ?_, hS.1⟩
          show _ = _
          rw [← HA.out, EX.out, EY.out, Nm.cmpL, if_pos (by simpa using hc)]
end Go.Proofs.YtolbfeggceemfaaGreatDoor
