/-
  The walks of package name, the second part: Text, escaped, loose, Parse. Condition: the text is of at most a million bytes where a name is read.
-/
import Derived.Test.YtolbfeggceemfaaGreatDoorN1
namespace Go.Proofs.YtolbfeggceemfaaGreatDoor
open Go.RowKit


theorem take_snoc (s : ByteArray) (k : Nat) (h : k < s.size) : s.data.toList.take (k + 1) = s.data.toList.take k ++ [s[k]] := by
  rw [List.take_succ_eq_append_getElem (by simpa using h)]; rfl

theorem esc_step (t : ByteArray) (i : Nat) (hi : i < t.size) (acc : List UInt8) (X Y Z : Int) (h : t[i].toNat < 33 ∨ 126 < t[i].toNat ∨ t[i].toNat = 46 ∨ t[i].toNat = 92)
    (hX : X = 48 + (t[i].toNat : Int) / 100) (hY : Y = 48 + (t[i].toNat : Int) / 10 % 10) (hZ : Z = 48 + (t[i].toNat : Int) % 10) :
    Lib.byteCells (acc ++ (t.data.toList.take i).flatMap Nm.esc) ++ [.int .u8 92, .int .u8 X, .int .u8 Y, .int .u8 Z] = Lib.byteCells (acc ++ (t.data.toList.take (i + 1)).flatMap Nm.esc) := by
  have hc : t[i].toNat < 256 := UInt8.toNat_lt _
  rw [take_snoc t i hi, List.flatMap_append, ← List.append_assoc, Lib.byteCells_append]
  congr 1
  simp only [List.flatMap_cons, List.flatMap_nil, List.append_nil, Nm.esc, if_pos h, Lib.byteCells, hX, hY, hZ]
  simp
  omega

theorem esc_plain (t : ByteArray) (i : Nat) (hi : i < t.size) (acc : List UInt8) (h : ¬ (t[i].toNat < 33 ∨ 126 < t[i].toNat ∨ t[i].toNat = 46 ∨ t[i].toNat = 92)) :
    Lib.byteCells (acc ++ (t.data.toList.take i).flatMap Nm.esc) ++ [.int .u8 (t[i].toNat : Int)] = Lib.byteCells (acc ++ (t.data.toList.take (i + 1)).flatMap Nm.esc) := by
  rw [take_snoc t i hi, List.flatMap_append, ← List.append_assoc, Lib.byteCells_append]
  congr 1
  simp [Nm.esc, h, Lib.byteCells]

theorem esc_len (c : UInt8) : (Nm.esc c).length ≤ 4 := by unfold Nm.esc; split <;> simp
theorem flat_len {α β : Type} (f : α → List β) (n : Nat) (h : ∀ x, (f x).length ≤ n) : ∀ l : List α, (l.flatMap f).length ≤ n * l.length
  | [] => by simp
  | x :: r => by
    have := flat_len f n h r
    have := h x
    simp only [List.flatMap_cons, List.length_append, List.length_cons, Nat.mul_add, Nat.mul_one]
    omega
theorem textL_len (l : List UInt8) (h : l.length ≤ 63) : (Nm.textL l).length ≤ 253 := by
  have := flat_len Nm.esc 4 esc_len l
  simp only [Nm.textL, List.length_append, List.length_cons, List.length_nil]
  omega
theorem text_acc_len (ls : List (List UInt8)) (h : Nm.Fit ls) (k : Nat) : ((ls.take k).flatMap Nm.textL).length ≤ 253 * ls.length := by
  induction ls generalizing k with
  | nil => simp
  | cons x r ih =>
    cases k with
    | zero => simp
    | succ k =>
      have h1 := ih (fun y hy => h y (by simp [hy])) k
      have h2 := textL_len x (h x (by simp)).2
      simp only [List.take_succ_cons, List.flatMap_cons, List.length_append, List.length_cons]
      omega

set_option maxHeartbeats 1000000 in
set_option maxRecDepth 100000 in
theorem text_yes (s : ByteArray) (ls : List (List UInt8)) (h : Nm.labels s.data.toList = some ls) (w : World) (hm : s.size ≤ 140737488355328) :
    Calls Tryz.prog 58 #[.string s] w fun e w' => e = .returned (.tuple #[.string (txt (Nm.text ls)), .int .i64 0]) ∧ Below w.heap.size w w' := by
  have hfacts := Nm.labels_some h
  have hll : ls.length ≤ 255 := by have h1 := Nm.enc_length_pos ls; have h2 := hfacts.2.2; rw [hfacts.1] at h2; simp only [Nm.wire, List.length_append, List.length_cons, List.length_nil] at h2; omega
  have HF := Lib.hid hfacts
  have H := Lib.hid h
  clear hfacts h
  by_cases h0 : ls = []
  · subst h0
    go_enter Tryz.func58, Tryz.ntmps58
    go_wp2_with (go_at_call 77; refine (labels_yes s [] H.out _ hm).mono ?_; rintro e w1 ⟨v, rfl, hown, hb⟩; obtain ⟨ao, cap, rfl⟩ := own_form hown)
    go_ret2
    exact ⟨rfl, hb⟩
  · have hl0 : 0 < ls.length := List.length_pos_iff.2 h0
    have hl0' : ((ls.length : Int) == 0) = false := by simp; omega
    go_enter Tryz.func58, Tryz.ntmps58
    go_wp2_with (go_at_call 77; refine (labels_yes s ls H.out _ hm).mono ?_; rintro e w1 ⟨v, rfl, hown, hb⟩; obtain ⟨g, cap, rfl, hg, hlt, hcell⟩ := own_at hown hl0; have HC := Lib.hid hcell; clear hcell)
    go_loopg [23] ls.length (fun gg v23 wx => ∃ (k : Nat), v23 = .int .i64 (k : Int) ∧ k + gg = ls.length ∧ Lib.IsBuilderF 49 5 w1.heap.size w1.heap.size (Lib.byteCells ((ls.take k).flatMap Nm.textL)) wx ∧ Below w1.heap.size w1 wx)
    case atStart => exact ⟨0, rfl, by omega, Lib.IsBuilderF.of (Lib.fresh_isBuilder 49 5 w1), (Below.refl _ w1).alloc (Nat.le_refl _) _⟩
    case round =>
      obtain ⟨k, rfl, hk, hI, hbx⟩ := hrel
      cases gk with
      | zero =>
        have hk0 : k = ls.length := by omega
        have hbs := hbx.size
        rw [List.take_of_length_le (by omega)] at hI
        have HK := Lib.hid hk0
        clear hk0
        go_wp2_with (go_at_call 27; refine (Tryz.Builder_String_any_k w1.heap.size w1.heap.size (ls.flatMap Nm.textL) _ hI (by omega)).mono ?_; rintro e w2 ⟨rfl, _, b1, _⟩)
        go_ret2
        exact ⟨by rw [Nm.text, if_neg h0]; rfl, (hb.trans (hbx.mono hb.size)).trans (b1.mono hb.size)⟩
      | succ g1 =>
        have hk' : k < ls.length := by omega
        have hc1 : wr.cell? ⟨g, k, none⟩ = some (.string (txt ls[k])) := by
          rw [hbx.cell (p := ⟨g, k, none⟩) hlt]
          exact HC.out k _ (by simp [strs, hk'])
        obtain ⟨t, ht⟩ : ∃ t : ByteArray, txt ls[k] = t := ⟨_, rfl⟩
        have htd : t.data.toList = ls[k] := by rw [← ht, txt_data]
        have hts : t.size ≤ 63 := by rw [← ht, txt_size]; exact (HF.out.2.1 _ (List.getElem_mem hk')).2
        rw [ht] at hc1
        have HT := Lib.hid htd
        clear htd ht
        obtain ⟨wo, rfl⟩ : ∃ wo : World, wo = wr := ⟨_, rfl⟩
        go_wp2_with fail
        go_loopg [29] t.size (fun g2 v29 wx => ∃ (i : Nat), v29 = .int .i64 (i : Int) ∧ i + g2 = t.size ∧ Lib.IsBuilderF 49 5 w1.heap.size w1.heap.size (Lib.byteCells ((ls.take k).flatMap Nm.textL ++ (t.data.toList.take i).flatMap Nm.esc)) wx ∧ Below w1.heap.size w1 wx)
        case atStart => exact ⟨0, rfl, by omega, by simpa using hI, hbx⟩
        case round =>
          obtain ⟨i, rfl, hi, hJ, hby⟩ := hrel
          cases gk with
          | zero =>
            have hlen : (Lib.byteCells ((ls.take k).flatMap Nm.textL ++ (t.data.toList.take i).flatMap Nm.esc)).length + 1 ≤ 140737488355328 := by
              have h1 := text_acc_len ls HF.out.2.1 k
              have h2 := flat_len Nm.esc 4 esc_len (t.data.toList.take i)
              have h3 : (t.data.toList.take i).length ≤ i := List.length_take_le _ _
              rw [Lib.byteCells_length, List.length_append]
              omega
            have hbys := hby.size
            have hbs1 := hbx.size
            go_wp2_with (go_at_call 64; refine (bld_byte w1.heap.size w1.heap.size _ _ _ hJ (by omega) (by omega)).mono ?_; rintro e w2 ⟨rfl, h1, b1, _⟩)
            go_roundg g1
            case measure => omega
            case rel =>
              refine ⟨k + 1, by simp, by omega, .inr ?_, hby.trans b1⟩
              have e1 : (ls.take (k + 1)).flatMap Nm.textL = (ls.take k).flatMap Nm.textL ++ (t.data.toList.take i).flatMap Nm.esc ++ [46] := by
                rw [List.take_succ_eq_append_getElem hk', List.flatMap_append, (show t.data.toList.take i = t.data.toList from List.take_of_length_le (by rw [← Lib.size_eq]; omega)), HT.out]
                simp [Nm.textL]
              rw [e1, Lib.byteCells_append]
              exact h1
          | succ g3 =>
            have hi' : i < t.size := by omega
            have hc : t[i].toNat < 256 := UInt8.toNat_lt _
            have hlen : (Lib.byteCells ((ls.take k).flatMap Nm.textL ++ (t.data.toList.take i).flatMap Nm.esc)).length + 4 ≤ 140737488355328 := by
              have h1 := text_acc_len ls HF.out.2.1 k
              have h2 := flat_len Nm.esc 4 esc_len (t.data.toList.take i)
              have h3 : (t.data.toList.take i).length ≤ i := List.length_take_le _ _
              rw [Lib.byteCells_length, List.length_append]
              omega
            have hbl : w1.heap.size < wr.heap.size := hJ.elim (fun h => h.lt) (fun h => h.lt)
            go_wp2_with (first | (go_at_call 78; refine (bld_write w1.heap.size w1.heap.size _ wr.heap.size 4 4 _ _ (hJ.elim (fun h => .inl (h.alloc _)) (fun h => .inr (h.alloc _))) (by rfl) (by omega) (World.news_of_block (heap_alloc_new wr _)) (fun u hu => by simp at hu; rcases hu with rfl | rfl | rfl | rfl <;> rfl) (by omega) (by simp; omega)).mono ?_; rintro e w2 ⟨rfl, h1, b1, _⟩; have B2 := (hby.alloc (by omega) _).trans b1) | (go_at_call 64; refine (bld_byte w1.heap.size w1.heap.size _ _ _ hJ (by omega) (by omega)).mono ?_; rintro e w2 ⟨rfl, h1, b1, _⟩; have B2 := hby.trans b1))
            · go_roundg g3
              case measure => omega
              case rel =>
                rw [esc_step t i hi'] at h1
                · exact ⟨i + 1, by simp, by omega, .inr h1, B2⟩
                all_goals omega
            · rename_i hw _
              have hw' : t[i].toNat < 33 ∨ 126 < t[i].toNat ∨ t[i].toNat = 46 ∨ t[i].toNat = 92 := by simp at hw; omega
              go_roundg g3
              case measure => omega
              case rel =>
                rw [esc_step t i hi' _ _ _ _ hw'] at h1
                · exact ⟨i + 1, by simp, by omega, .inr h1, B2⟩
                all_goals omega
            · rename_i hw _
              have hw' : ¬ (t[i].toNat < 33 ∨ 126 < t[i].toNat ∨ t[i].toNat = 46 ∨ t[i].toNat = 92) := by simp at hw; omega
              go_roundg g3
              case measure => omega
              case rel =>
                rw [esc_plain t i hi' _ hw'] at h1
                exact ⟨i + 1, by simp, by omega, .inr h1, B2⟩
            · go_roundg g3
              case measure => omega
              case rel =>
                rw [esc_step t i hi'] at h1
                · exact ⟨i + 1, by simp, by omega, .inr h1, B2⟩
                all_goals omega
            · go_roundg g3
              case measure => omega
              case rel =>
                rw [esc_step t i hi'] at h1
                · exact ⟨i + 1, by simp, by omega, .inr h1, B2⟩
                all_goals omega
theorem text_not (s : ByteArray) (h : Nm.labels s.data.toList = none) (w : World) (hm : s.size ≤ 140737488355328) :
    Calls Tryz.prog 58 #[.string s] w fun e w' => e = .returned (.tuple #[.string (txt []), .int .i64 100]) ∧ Below w.heap.size w w' := by
  have H := Lib.hid h
  clear h
  go_enter Tryz.func58, Tryz.ntmps58
  go_wp2_with (go_at_call 77; refine (labels_not s H.out _ hm).mono ?_; rintro e w1 ⟨rfl, hb⟩)
  go_ret2
  exact ⟨rfl, hb⟩

end Go.Proofs.YtolbfeggceemfaaGreatDoor
