/-
  The reference's names: places, plain, Count, May, last, yes, Text, Fold, labels, Compare, Same, Above; a name's text is a word and reads back; lines of names; the walk of ConsoleNames. Condition: told at each.
-/
import Derived.Test.YtolbfeggceemfaaGreatDoorN2
import Derived.Test.YtolbfeggceemfaaGreatDoorR2
import Derived.Test.YtolbfeggceemfaaGreatDoorN3
import Derived.Test.YtolbfeggceemfaaGreatDoorR3
import Derived.Test.YtolbfeggceemfaaGreatDoorC3
import Derived.Test.YtolbfeggceemfaaGreatDoorS0
namespace Go.Proofs.YtolbfeggceemfaaGreatDoor
open Go.RowKit

/-! ### P1: The walks of the reference's names: places, plain, Count, May. Condition: the text is of at most 2^47 bytes. -/
theorem rplaces_long (s : ByteArray) (w : World) (hs : 255 < s.size) (hm : s.size ≤ 140737488355328) :
    Calls Tryz.prog 28 #[.string s] w (PlacesPost s w) := by
  have hno : Aside (Nm.labels s.data.toList = none) := by
    unfold Nm.labels
    rw [if_neg (by simp; omega)]
    rfl
  go_enter Tryz.func28, Tryz.ntmps28
  go_wp2
  refine wp_loop_rounds 1 ?_
  rw [rounds_succ]
  go_wp2
  go_ret2
  exact ⟨.slice none 0 0, [], by rw [hno.out]; rfl, World.ownsRow_nil _ _ _ _, Below.refl _ _, by rw [hno.out]; simp, fun _ => rfl⟩

set_option maxHeartbeats 800000 in
set_option maxRecDepth 100000 in
theorem rplaces_any (s : ByteArray) (w : World) (hs : s.size ≤ 255) :
    Calls Tryz.prog 28 #[.string s] w (PlacesPost s w) := by
  obtain ⟨i0, hi, hz0, hz1, hz2⟩ := info_parts Tryz.info3
  go_enter Tryz.func28, Tryz.ntmps28
  go_wp2
  go_loopg [4, 5] (s.size + 1) (fun g v4 v5 wx => ∃ (p : Nat) (ps : List Nat) (f : Nat), v5 = .int .i64 p ∧ p ≤ s.size + 63 ∧ s.size + 1 ≤ p + g ∧ ps.length ≤ p ∧
    wx.ownsRow w.heap.size 3 1 v4 ps.length (i64s ps) ∧ Below w.heap.size w wx ∧ s.size - p < f ∧ (s.size = 0 → ps = []) ∧
    Aside ((Nm.labs f (s.data.toList.drop p)).map (fun ls => ps ++ Nm.offs p ls) = (Nm.labels s.data.toList).map (Nm.offs 0)))
  case atStart => 
    refine ⟨0, [], s.size + 1, rfl, by omega, by omega, by simp, World.ownsRow_nil _ _ _ _, Below.refl _ _, by omega, fun _ => rfl, ?_⟩
    show _ = _
    rw [List.drop_zero, Nm.labels, if_pos (by simp; omega)]
    simp
  case round =>
    obtain ⟨p, ps, f, rfl, hp, hpg, hpl, hown, hb, hf, hz, HA⟩ := hrel
    have hbs := hb.size
    by_cases hlt : p < s.size
    · clear hz
      have hc : s[p].toNat < 256 := UInt8.toNat_lt _
      have hdrop : Aside (s.data.toList.drop p = s[p] :: s.data.toList.drop (p + 1)) := by
        show _ = _
        rw [List.drop_eq_getElem_cons (by simpa using hlt)]; rfl
      obtain ⟨f, rfl⟩ : ∃ f', f = f' + 1 := ⟨f - 1, by omega⟩
      go_wp2_with (at_builtin; refine wpList_append_own _ rfl _ _ 40 rfl (w.heap.size) 3 i0 (.int .i64 0) 1 8 Tryz.underlying40 hi hz0 hz1 hz2 rfl (by decide) _ _ _ rfl (hown.alloc _) ⟨wr.heap.size, 0, none⟩ 1 1 [.int .i64 (p : Int)] rfl rfl (one_new _ _ _ rfl) (by simp; rfl) (by unfold maxLen; omega) (by omega) (by simp; omega) ?_; intro v' w1 hown1 hgrow _)
      · -- the end's byte
        rename_i h0
        have hb1 := below_app hb (Nat.le_refl _) hbs hown hgrow
        go_ret2
        have h0' : s[p].toNat = 0 := by simpa using h0
        have H := HA.out
        rw [hdrop.out, Nm.labs, if_pos h0'] at H
        have hown2 : w1.ownsRow w.heap.size 3 1 v' (ps ++ [p]).length (i64s (ps ++ [p])) := own_i64 hown1
        refine ⟨v', ps ++ [p], ?_, hown2, hb1, ?_, by omega⟩
        · by_cases hr : s.data.toList.drop (p + 1) = []
          · rw [if_pos hr] at H
            have hp1 : s.size ≤ p + 1 := by simpa using hr
            have : (Nm.labels s.data.toList).isSome = true := by
              cases h : Nm.labels s.data.toList with
              | none => rw [h] at H; cases H
              | some _ => rfl
            exact ret_vb (by rw [this]; simp; omega)
          · rw [if_neg hr] at H
            have hp1 : p + 1 < s.size := by simpa using hr
            have : (Nm.labels s.data.toList).isSome = false := by
              cases h : Nm.labels s.data.toList with
              | none => rfl
              | some _ => rw [h] at H; cases H
            exact ret_vb (by rw [this]; simp; omega)
        · intro ls hls
          rw [hls] at H
          by_cases hr : s.data.toList.drop (p + 1) = []
          · rw [if_pos hr] at H
            simpa [Nm.offs] using H
          · rw [if_neg hr] at H; cases H
      · rename_i h0 _ _ h6
        have hb1 := below_app hb (Nat.le_refl _) hbs hown hgrow
        go_ret2
        have h0' : ¬ s[p].toNat = 0 := by simpa using h0
        have h6' : 63 < s[p].toNat := by omega
        have H := HA.out
        rw [hdrop.out, Nm.labs, if_neg h0', if_pos h6'] at H
        have : Nm.labels s.data.toList = none := by
          cases h : Nm.labels s.data.toList with
          | none => rfl
          | some _ => rw [h] at H; cases H
        exact ⟨.slice none 0 0, [], by rw [this]; rfl, World.ownsRow_nil _ _ _ _, hb1, by rw [this]; simp, fun _ => rfl⟩
      · rename_i h0 h6
        have h0' : ¬ s[p].toNat = 0 := by simpa using h0
        have h6' : ¬ 63 < s[p].toNat := by omega
        have H := HA.out
        rw [hdrop.out, Nm.labs, if_neg h0', if_neg h6', List.drop_drop] at H
        go_roundg (gk - 1)
        case measure => omega
        case rel => 
          refine ⟨p + (1 + s[p].toNat), ps ++ [p], f, ?_, by omega, by omega, by simp; omega, ?_, below_app hb (Nat.le_refl _) hbs hown hgrow, by omega, by omega, ?_⟩
          · simp; omega
          · exact own_i64 hown1
          · show _ = _
            rw [← H, show p + (1 + s[p].toNat) = p + 1 + s[p].toNat from by omega]
            cases hl : Nm.labs f (List.drop (p + 1 + s[p].toNat) s.data.toList) with
            | none => rfl
            | some ls =>
              have hlen : (List.take s[p].toNat (List.drop (p + 1) s.data.toList)).length = s[p].toNat := by
                have : (List.drop (p + 1 + s[p].toNat) s.data.toList).length ≠ 0 := by rw [(Nm.labs_some _ _ _ hl).1]; simp [Nm.wire]
                simp at this ⊢
                omega
              simp [Nm.offs, hlen, show p + (1 + s[p].toNat) = p + 1 + s[p].toNat from by omega]
    · have H := HA.out
      have hno : Aside (Nm.labels s.data.toList = none) := by
        show _ = _
        rw [List.drop_eq_nil_of_le (by simp; omega)] at H
        cases f with
        | zero => omega
        | succ f =>
          cases h : Nm.labels s.data.toList with
          | none => rfl
          | some _ => rw [h] at H; cases H
      clear H HA
      have HZ : Hid (s.size = 0 → ps = []) := hz
      clear hz
      go_wp2
      all_goals (go_ret2; exact ⟨.slice none 0 0, [], by rw [hno.out]; rfl, World.ownsRow_nil _ _ _ _, hb, by rw [hno.out]; simp, fun _ => rfl⟩)

theorem rplaces_calls (s : ByteArray) (w : World) (hm : s.size ≤ 140737488355328) : Calls Tryz.prog 28 #[.string s] w (PlacesPost s w) := by
  by_cases hs : s.size ≤ 255
  · exact rplaces_any s w hs
  · exact rplaces_long s w (by omega) hm
theorem rlabels_no (s : ByteArray) (h : Nm.labels s.data.toList = none) (w : World) (hm : s.size ≤ 140737488355328) :
    Calls Tryz.prog 28 #[.string s] w fun e w' => ∃ v, e = .returned (.tuple #[v, .bool false]) ∧ Below w.heap.size w w' :=
  (rplaces_calls s w hm).mono fun e w' ⟨v, ps, he, _, hb, _, _⟩ => ⟨v, by rw [he, h]; rfl, hb⟩

theorem rplaces_yes (s : ByteArray) (ls : List (List UInt8)) (h : Nm.labels s.data.toList = some ls) (w : World) (hm : s.size ≤ 140737488355328) :
    Calls Tryz.prog 28 #[.string s] w (PlacesYes ls w) := by
  refine (rplaces_calls s w hm).mono ?_
  rintro e w' ⟨v, ps, he, hown, hb, hps, _⟩
  obtain rfl := hps ls h
  rw [Nm.offs_length] at hown
  obtain ⟨g, cap, rfl, hg, hlt, hc⟩ := own_at hown (by omega)
  exact ⟨g, cap, by rw [he, h]; rfl, hg, hlt, hown, fun j p hj => hc j _ (by simp [i64s, hj]), hb⟩

/-! ### P2: The walks of the reference's names: plain, Count, May, last, the law's yes. Condition: the text is of at most 2^47 bytes. -/
/-- Does a byte stand as it is? -/
def Nm.pl (c : UInt8) : Bool := !decide (c.toNat < 33 ∨ 126 < c.toNat ∨ c.toNat = 46 ∨ c.toNat = 92)
set_option maxHeartbeats 1000000 in
set_option maxRecDepth 100000 in
theorem rplain_calls (c : UInt8) (w : World) : Calls Tryz.prog 29 #[.int .u8 (c.toNat : Int)] w fun e w' => e = .returned (.bool (Nm.pl c)) ∧ w = w' := by
  obtain ⟨r, hr⟩ : ∃ r, Nm.pl c = r := ⟨_, rfl⟩
  rw [hr]
  unfold Nm.pl at hr
  have hc : c.toNat < 256 := UInt8.toNat_lt _
  generalize c.toNat = n at *
  by_cases h1 : 32 < n
  · have q1 : ((32 : Int) < (n : Int)) = True := by simp; omega
    by_cases h2 : n < 127
    · have q2 : ((n : Int) < 127) = True := by simp; omega
      by_cases h3 : n = 46
      · obtain rfl : false = r := by rw [← hr]; simp; omega
        have q3 : ((n : Int) != 46) = false := by simp; omega
        clear h1 h2 h3 hr
        go_enter Tryz.func29, Tryz.ntmps29
        go_wp2_with fail
        go_ret
        exact ⟨rfl, rfl⟩
      · have q3 : ((n : Int) != 46) = true := by simp; omega
        by_cases h4 : n = 92
        · obtain rfl : false = r := by rw [← hr]; simp; omega
          have q4 : ((n : Int) != 92) = false := by simp; omega
          clear h1 h2 h3 h4 hr
          go_enter Tryz.func29, Tryz.ntmps29
          go_wp2_with fail
          go_ret
          exact ⟨rfl, rfl⟩
        · obtain rfl : true = r := by rw [← hr]; simp; omega
          have q4 : ((n : Int) != 92) = true := by simp; omega
          clear h1 h2 h3 h4 hr
          go_enter Tryz.func29, Tryz.ntmps29
          go_wp2_with fail
          go_ret
          exact ⟨rfl, rfl⟩
    · obtain rfl : false = r := by rw [← hr]; simp; omega
      have q2 : ((n : Int) < 127) = False := by simp; omega
      clear h1 h2 hr
      go_enter Tryz.func29, Tryz.ntmps29
      go_wp2_with fail
      go_ret
      exact ⟨rfl, rfl⟩
  · obtain rfl : false = r := by rw [← hr]; simp; omega
    have q1 : ((32 : Int) < (n : Int)) = False := by simp; omega
    clear h1 hr
    go_enter Tryz.func29, Tryz.ntmps29
    go_wp2_with fail
    go_ret
    exact ⟨rfl, rfl⟩

theorem rcount_calls (s : ByteArray) (ls : List (List UInt8)) (h : Nm.labels s.data.toList = some ls) (w : World) (hm : s.size ≤ 140737488355328) :
    Calls Tryz.prog 16 #[.string s] w fun e w' => e = .returned (.int .i64 (ls.length : Int)) ∧ Below w.heap.size w w' := by
  have hl : ls.length ≤ 255 := by have := Nm.labels_some h; have h2 := Nm.enc_length_pos ls; rw [this.1] at this; simp [Nm.wire] at this; omega
  have H := Lib.hid h
  clear h
  go_enter Tryz.func16, Tryz.ntmps16
  go_wp2_with (go_at_call 28; refine (rplaces_yes s ls H.out _ hm).mono ?_; rintro e w1 ⟨g, cap, rfl, hg, hlt, hown, hcell, hb⟩; have HC := Lib.hid hcell; clear hcell)
  go_ret
  exact ⟨rfl, hb⟩

theorem rmay_calls (s : ByteArray) (w : World) (hm : s.size ≤ 140737488355328) :
    Calls Tryz.prog 31 #[.string s] w fun e w' => e = .returned (.bool (Nm.labels s.data.toList).isSome) ∧ Below w.heap.size w w' := by
  go_enter Tryz.func31, Tryz.ntmps31
  go_wp2_with (go_at_call 28; refine (rplaces_calls s _ hm).mono ?_; rintro e w1 ⟨v, ps, rfl, hown, hb, hps, hz⟩; clear hps hz)
  go_ret
  exact ⟨rfl, hb⟩

theorem yes_calls (b : Bool) (w : World) : Calls Tryz.prog 17 #[.bool b] w fun e w' => e = .returned (.string (txt (if b = true then [121, 101, 115] else [110, 111]))) ∧ w = w' := by
  cases b with
  | true =>
    go_enter Tryz.func17, Tryz.ntmps17
    go_wp2_with fail
    go_ret
    exact ⟨rfl, rfl⟩
  | false =>
    go_enter Tryz.func17, Tryz.ntmps17
    go_wp2_with fail
    go_ret
    exact ⟨rfl, rfl⟩

set_option maxHeartbeats 1000000 in
set_option maxRecDepth 100000 in
theorem rlast_calls (s : ByteArray) (ls : List (List UInt8)) (h : Nm.labels s.data.toList = some ls) (k : Nat) (hk : k ≤ ls.length) (w : World) (hm : s.size ≤ 140737488355328) :
    Calls Tryz.prog 33 #[.string s, .int .i64 (k : Int)] w fun e w' => e = .returned (.string (txt (Nm.wire (ls.drop (ls.length - k))))) ∧ Below w.heap.size w w' := by
  have hf := Nm.labels_some h
  have hl : ls.length ≤ 255 := by have h2 := Nm.enc_length_pos ls; have h3 := hf.2.2; rw [hf.1] at h3; simp only [Nm.wire, List.length_append, List.length_cons, List.length_nil] at h3; omega
  obtain ⟨j, hj⟩ : ∃ j, j = ls.length - k := ⟨_, rfl⟩
  rw [← hj]
  obtain ⟨p, hp⟩ : ∃ p, (Nm.enc (ls.take j)).length = p := ⟨_, rfl⟩
  have hps : p ≤ s.size := by
    rw [Lib.size_eq, hf.1, ← hp]
    have := Nm.enc_take_le ls j
    simp only [Nm.wire, List.length_append, List.length_cons, List.length_nil]
    omega
  have hx : s.extract p s.size = txt (Nm.wire (ls.drop j)) := by
    rw [← txt_of (s.extract p s.size), Lib.extract_data, ← Nm.enc_drop, hp, ← hf.1, List.take_of_length_le]
    rw [List.length_drop, ← Lib.size_eq]
    exact Nat.le_refl _
  have hoff : (Nm.offs 0 ls)[j]? = some p := by rw [Nm.offs_get ls 0 j (by omega), hp, Nat.zero_add]
  have H := Lib.hid h
  have HX := Lib.hid hx
  have HO := Lib.hid hoff
  have e1 : (ls.length : Int) + 1 - 1 - (k : Int) = (j : Int) := by omega
  have e2 : (ls.length : Int) - (k : Int) = (j : Int) := by omega
  have e3 : j < ls.length + 1 := by omega
  have q1 : ((p : Int) ≤ (s.size : Int)) = True := by simp; omega
  clear h hf hx hoff hp hj
  go_enter Tryz.func33, Tryz.ntmps33
  go_wp2_with fail
  refine (rplaces_yes s ls H.out _ hm).mono ?_
  rintro e w1 ⟨g, cap, rfl, hg, hlt, hown, hcell, hb⟩
  have hc := hcell j p HO.out
  clear hcell
  go_wp2_with fail
  go_ret
  rw [HX.out]
  exact ⟨rfl, hb⟩

/-! ### P3: The walk of the reference's Text. Condition: the text is of at most 2^47 bytes. -/
theorem rtext_not (s : ByteArray) (h : Nm.labels s.data.toList = none) (w : World) (hm : s.size ≤ 140737488355328) :
    Calls Tryz.prog 11 #[.string s] w fun e w' => e = .returned (.tuple #[.string (txt []), .int .i64 100]) ∧ Below w.heap.size w w' := by
  have H := Lib.hid h
  clear h
  go_enter Tryz.func11, Tryz.ntmps11
  go_wp2_with fail
  refine (rlabels_no s H.out _ hm).mono ?_
  rintro e w1 ⟨v, rfl, hb⟩
  go_wp2_with fail
  go_ret2
  exact ⟨rfl, hb⟩

theorem esc_yes (c : UInt8) (h : Nm.pl c = false) : Lib.byteCells (Nm.esc c) = [.int .u8 92, .int .u8 (48 + (c.toNat : Int) / 100), .int .u8 (48 + (c.toNat : Int) / 10 % 10), .int .u8 (48 + (c.toNat : Int) % 10)] := by
  have hb : c.toNat < 33 ∨ 126 < c.toNat ∨ c.toNat = 46 ∨ c.toNat = 92 := by simp [Nm.pl] at h; omega
  have hc : c.toNat < 256 := UInt8.toNat_lt _
  simp only [Nm.esc, if_pos hb, Lib.byteCells]
  simp
  omega
theorem esc_four (c : UInt8) (h : Nm.pl c = false) : (Nm.esc c).length = 4 := by
  have := congrArg List.length (esc_yes c h)
  rw [Lib.byteCells_length] at this
  exact this
theorem esc_no (c : UInt8) (h : Nm.pl c = true) : Nm.esc c = [c] := by
  have hb : ¬ (c.toNat < 33 ∨ 126 < c.toNat ∨ c.toNat = 46 ∨ c.toNat = 92) := by simpa [Nm.pl] using h
  simp only [Nm.esc, if_neg hb]
/-- Where a label's bytes lie. -/
theorem label_byte {s : ByteArray} {ls : List (List UInt8)} (hs : s.data.toList = Nm.wire ls) {k m : Nat} (hk : k < ls.length) (hm : m < ls[k].length) :
    ∃ h : (Nm.enc (ls.take k)).length + 1 + m < s.size, s[(Nm.enc (ls.take k)).length + 1 + m] = ls[k][m] := by
  have hw := Nm.wire_label ls k hk
  have hg : (Nm.wire ls)[(Nm.enc (ls.take k)).length + 1 + m]? = some ls[k][m] := by
    have h1 : (((Nm.wire ls).drop ((Nm.enc (ls.take k)).length + 1)).take ls[k].length)[m]? = ls[k][m]? := by rw [hw]
    rw [List.getElem?_take_of_lt hm, List.getElem?_drop, List.getElem?_eq_getElem hm] at h1
    exact h1
  rw [← hs] at hg
  obtain ⟨h1, h2⟩ := List.getElem?_eq_some_iff.1 hg
  exact ⟨by rw [Lib.size_eq]; exact h1, h2⟩

set_option maxHeartbeats 2000000 in
set_option maxRecDepth 100000 in
theorem rtext_yes (s : ByteArray) (ls : List (List UInt8)) (h : Nm.labels s.data.toList = some ls) (w : World) (hm : s.size ≤ 140737488355328) :
    Calls Tryz.prog 11 #[.string s] w fun e w' => e = .returned (.tuple #[.string (txt (Nm.text ls)), .int .i64 0]) ∧ Below w.heap.size w w' := by
  obtain ⟨ii, hi0, hz0, hz1, hz2⟩ := info_parts Tryz.info5
  have hfacts := Nm.labels_some h
  have hll : ls.length ≤ 255 := by have h1 := Nm.enc_length_pos ls; have h2 := hfacts.2.2; rw [hfacts.1] at h2; simp only [Nm.wire, List.length_append, List.length_cons, List.length_nil] at h2; omega
  have HF := Lib.hid hfacts
  have H := Lib.hid h
  clear hfacts h
  by_cases h0 : ls = []
  · subst h0
    go_enter Tryz.func11, Tryz.ntmps11
    go_wp2_with fail
    refine (rplaces_yes s [] H.out _ hm).mono ?_
    rintro e w1 ⟨g, cap, rfl, hg, hlt, hown, hcell, hb⟩
    clear hcell
    go_wp2_with fail
    go_ret2
    exact ⟨rfl, hb⟩
  · have hl0 : 0 < ls.length := List.length_pos_iff.2 h0
    have hl1 : ((ls.length : Int) == 0) = false := by simp; omega
    have hl2 : ((ls.length : Int) + 1 == 1) = false := by simp; omega
    have HT : Aside (Nm.text ls = ls.flatMap Nm.textL) := by show _ = _; rw [Nm.text, if_neg h0]
    clear h0
    go_enter Tryz.func11, Tryz.ntmps11
    go_wp2_with fail
    refine (rplaces_yes s ls H.out _ hm).mono ?_
    rintro e w1 ⟨g, cap, rfl, hg, hlt, hown, hcell, hb⟩
    have HC := Lib.hid hcell
    have hz1' := hb.size
    clear hcell hown
    go_wp2_with fail
    go_loopg [6, 7] ls.length (fun gg v6 v7 wx => ∃ (k : Nat), v7 = .int .i64 (k : Int) ∧ k + gg = ls.length ∧ wx.ownsRow w1.heap.size 5 1 v6 ((ls.take k).flatMap Nm.textL).length (Lib.byteCells ((ls.take k).flatMap Nm.textL)) ∧ Below w1.heap.size w1 wx)
    case atStart => exact ⟨0, rfl, by omega, World.ownsRow_nil _ _ _ _, Below.refl _ _⟩
    case round =>
      obtain ⟨k, rfl, hk, hown, hbx⟩ := hrel
      have hbw := hb.trans (hbx.mono hz1')
      cases gk with
      | zero =>
        have hk0 : k = ls.length := by omega
        rw [List.take_of_length_le (by omega)] at hown
        have hcv := own_conv hown
        clear hown
        subst hk0
        go_wp2_with fail
        go_ret2
        rw [HT.out]
        exact ⟨rfl, hbw⟩
      | succ g1 =>
        have hk' : k < ls.length := by omega
        obtain ⟨p, hp⟩ : ∃ p, (Nm.enc (ls.take k)).length = p := ⟨_, rfl⟩
        obtain ⟨q, hq⟩ : ∃ q, (Nm.enc (ls.take (k + 1))).length = q := ⟨_, rfl⟩
        have hpq : q = p + (1 + ls[k].length) := by rw [← hp, ← hq]; exact Nm.enc_take_succ ls k hk'
        have hx63 := (HF.out.2.1 _ (List.getElem_mem hk')).2
        have hqs : q < s.size := by
          rw [Lib.size_eq, HF.out.1, ← hq]
          have := Nm.enc_take_le ls (k + 1)
          simp only [Nm.wire, List.length_append, List.length_cons, List.length_nil]
          omega
        have hs255 : s.size ≤ 255 := by rw [Lib.size_eq]; exact HF.out.2.2
        have hcp : ∀ W, Below w1.heap.size w1 W → W.cell? ⟨g, k, none⟩ = some (.int .i64 (p : Int)) := fun W hW => by
          rw [hW.cell (p := ⟨g, k, none⟩) hlt]
          exact HC.out k p (by rw [Nm.offs_get _ _ _ (by omega), hp]; simp)
        have hcq : ∀ W, Below w1.heap.size w1 W → W.cell? ⟨g, k + 1, none⟩ = some (.int .i64 (q : Int)) := fun W hW => by
          rw [hW.cell (p := ⟨g, k + 1, none⟩) hlt]
          exact HC.out (k + 1) q (by rw [Nm.offs_get _ _ _ (by omega), hq]; simp)
        have hbyte := fun m (hm : m < ls[k].length) => label_byte HF.out.1 hk' hm
        rw [hp] at hbyte
        have hnext : (ls.take (k + 1)).flatMap Nm.textL = (ls.take k).flatMap Nm.textL ++ Nm.textL ls[k] := by
          rw [List.take_succ_eq_append_getElem hk', List.flatMap_append]; simp
        have hal := text_acc_len ls HF.out.2.1 k
        have HN := Lib.hid hnext
        have HB := Lib.hid hbyte
        have HP := Lib.hid hcp
        have HQ := Lib.hid hcq
        have c1 := hcp wr hbx
        clear hnext hbyte hcp hcq hp hq
        obtain ⟨L, hL⟩ : ∃ L, ls[k] = L := ⟨_, rfl⟩
        generalize (ls.take k).flatMap Nm.textL = acc at *
        rw [hL] at HN HB hpq hx63
        have hgl : g < w1.heap.size := hlt
        go_wp2_with fail
        go_loopg [6, 8] L.length (fun g2 v6 v8 wx => ∃ (m j : Nat), v8 = .int .i64 (j : Int) ∧ j = p + 1 + m ∧ m + g2 = L.length ∧ wx.ownsRow w1.heap.size 5 1 v6 (acc ++ (L.take m).flatMap Nm.esc).length (Lib.byteCells (acc ++ (L.take m).flatMap Nm.esc)) ∧ Below w1.heap.size w1 wx)
        case atStart => exact ⟨0, p + 1, by rw [Int.natCast_add]; rfl, rfl, by omega, by simpa using hown, hbx⟩
        case round =>
          clear hown hbw c1
          obtain ⟨m, j, rfl, hj, hm2, hown, hby⟩ := hrel
          have c2 := HQ.out _ hby
          have hbys := hby.size
          have hol : (acc ++ (L.take m).flatMap Nm.esc).length ≤ 70000 := by
            have h2 := flat_len Nm.esc 4 esc_len (L.take m)
            have h3 : (L.take m).length ≤ m := List.length_take_le _ _
            rw [List.length_append]
            omega
          cases gk with
          | zero =>
            have hm0 : m = L.length := by omega
            rw [List.take_of_length_le (by omega)] at hown hol
            have qj : ((j : Int) < (q : Int)) = False := by simp; omega
            have hq1 : q ≤ 1000 := by omega
            clear hm0 hj hpq
            obtain ⟨X, hX⟩ : ∃ X, acc ++ L.flatMap Nm.esc = X := ⟨_, rfl⟩
            rw [hX] at hown hol
            have HX := Lib.hid hX
            clear hX
            go_wp2_with (at_builtin; refine wpList_append_own _ rfl _ _ 47 rfl w1.heap.size 5 ii (.int .u8 0) 1 1 Tryz.underlying47 hi0 hz0 hz1 hz2 rfl (by decide) _ _ _ rfl (hown.alloc _) ⟨wr.heap.size, 0, none⟩ 1 1 [.int .u8 46] rfl rfl (one_new _ _ _ rfl) (one_cell rfl) (by unfold maxLen; omega) (by omega) (by simp; omega) ?_)
            intro v' w2 hown2 hgrow _
            have hb2 := below_app hby (Nat.le_refl _) hbys hown hgrow
            have HG := Lib.hid hgrow
            clear hgrow
            go_wp2_with fail
            go_roundg g1
            case measure => omega
            case rel =>
              refine ⟨k + 1, by simp, by omega, ?_, hb2⟩
              rw [HN.out, Nm.textL, ← List.append_assoc, HX.out]
              exact own_byte (c := 46) hown2
          | succ g3 =>
            have qj : ((j : Int) < (q : Int)) = True := by simp; omega
            have hm3 : m < L.length := by omega
            have hjs : j < s.size := by omega
            obtain ⟨c, hc⟩ : ∃ c, s[j] = c := ⟨_, rfl⟩
            have hstep : (L.take (m + 1)).flatMap Nm.esc = (L.take m).flatMap Nm.esc ++ Nm.esc c := by
              subst hL
              rw [List.take_succ_eq_append_getElem hm3, List.flatMap_append]
              obtain ⟨h1, h2⟩ := HB.out m hm3
              subst hj
              rw [← h2, hc]; simp
            have hj1 : j ≤ 1000 := by omega
            have HJ := Lib.hid hj
            obtain ⟨X, hX⟩ : ∃ X, acc ++ (L.take m).flatMap Nm.esc = X := ⟨_, rfl⟩
            rw [hX] at hown hol
            have HX := Lib.hid hX
            clear hX
            clear hj hpq
            have hc256 : c.toNat < 256 := UInt8.toNat_lt _
            have HST := Lib.hid hstep
            clear hstep
            cases hpl : Nm.pl c with
            | true =>
              have HPL := Lib.hid hpl
              have h29 := rplain_calls c
              rw [hpl] at h29
              have H29 := Lib.hid h29
              clear hpl h29
              go_wp2_with fail
              refine (H29.out _).mono ?_
              rintro e wx ⟨rfl, rfl⟩
              go_wp2_with (at_builtin; refine wpList_append_own _ rfl _ _ 47 rfl w1.heap.size 5 ii (.int .u8 0) 1 1 Tryz.underlying47 hi0 hz0 hz1 hz2 rfl (by decide) _ _ _ rfl (hown.alloc _) ⟨wr.heap.size, 0, none⟩ 1 1 [.int .u8 (c.toNat : Int)] rfl rfl (one_new _ _ _ rfl) (one_cell rfl) (by unfold maxLen; omega) (by omega) (by simp; omega) ?_)
              intro v' w2 hown2 hgrow _
              have hb2 := below_app hby (Nat.le_refl _) hbys hown hgrow
              have HG := Lib.hid hgrow
              clear hgrow
              go_wp2_with fail
              go_roundg g3
              case measure => omega
              case rel =>
                refine ⟨m + 1, j + 1, by rw [Int.natCast_add]; rfl, by rw [HJ.out]; omega, by omega, ?_, hb2⟩
                rw [HST.out, esc_no c HPL.out, ← List.append_assoc, HX.out]
                exact own_byte hown2
            | false =>
              have HPL := Lib.hid hpl
              have h29 := rplain_calls c
              rw [hpl] at h29
              have H29 := Lib.hid h29
              clear hpl h29
              go_wp2_with fail
              refine (H29.out _).mono ?_
              rintro e wx ⟨rfl, rfl⟩
              go_wp2_with (at_builtin; refine wpList_append_own _ rfl _ _ 47 rfl w1.heap.size 5 ii (.int .u8 0) 1 1 Tryz.underlying47 hi0 hz0 hz1 hz2 rfl (by decide) _ _ _ rfl (hown.alloc _) ⟨wr.heap.size, 0, none⟩ 4 4 _ rfl rfl (World.news_of_block (heap_alloc_new wr _)) ?d1 (by unfold maxLen; omega) (by omega) (by simp; omega) ?_)
              case d1 => exact ⟨rfl, rfl, rfl, rfl⟩
              intro v' w2 hown2 hgrow _
              have hb2 := below_app hby (Nat.le_refl _) hbys hown hgrow
              have HG := Lib.hid hgrow
              clear hgrow
              go_wp2_with fail
              go_roundg g3
              case measure => omega
              case rel =>
                refine ⟨m + 1, j + 1, by rw [Int.natCast_add]; rfl, by rw [HJ.out]; omega, by omega, ?_, hb2⟩
                rw [HST.out, ← List.append_assoc, HX.out, Lib.byteCells_append, List.length_append, esc_four c HPL.out, esc_yes c HPL.out]
                exact hown2

/-! ### P4: The walk of the reference's Fold. Condition: the text is of at most 2^47 bytes. -/
/-- A name's bytes while its k-th label is folded up to m. -/
def Nm.part (ls : List (List UInt8)) (k m : Nat) : List UInt8 :=
  (Nm.enc (Nm.foldLs (ls.take k)) ++ [UInt8.ofNat (ls.getD k []).length]) ++ ((((ls.getD k []).take m).map Nm.foldb ++ (ls.getD k []).drop m) ++ (Nm.enc (ls.drop (k + 1)) ++ [0]))
/-- A name's bytes, the first k labels folded. -/
def Nm.upto (ls : List (List UInt8)) (k : Nat) : List UInt8 := Nm.enc (Nm.foldLs (ls.take k)) ++ (Nm.enc (ls.drop k) ++ [0])
theorem Nm.getD_eq {ls : List (List UInt8)} {k : Nat} (hk : k < ls.length) : ls.getD k [] = ls[k] := by simp [List.getD, hk]
theorem Nm.upto_zero (ls : List (List UInt8)) : Nm.upto ls 0 = Nm.wire ls := by simp [Nm.upto, Nm.foldLs, Nm.enc, Nm.wire]
theorem Nm.upto_end (ls : List (List UInt8)) : Nm.upto ls ls.length = Nm.wire (Nm.foldLs ls) := by
  simp [Nm.upto, Nm.wire, Nm.enc]
theorem Nm.part_zero {ls : List (List UInt8)} {k : Nat} (hk : k < ls.length) : Nm.part ls k 0 = Nm.upto ls k := by
  unfold Nm.part Nm.upto
  rw [Nm.getD_eq hk, List.drop_eq_getElem_cons hk]
  simp [Nm.enc]
theorem Nm.part_end {ls : List (List UInt8)} {k : Nat} (hk : k < ls.length) : Nm.part ls k (ls[k].length) = Nm.upto ls (k + 1) := by
  unfold Nm.part Nm.upto
  rw [Nm.getD_eq hk, Nm.enc_fold_snoc ls k hk]
  simp
theorem Nm.part_pos {ls : List (List UInt8)} {k : Nat} : (Nm.enc (Nm.foldLs (ls.take k)) ++ [UInt8.ofNat (ls.getD k []).length]).length = (Nm.enc (ls.take k)).length + 1 := by
  rw [List.length_append, Nm.enc_fold_length]; rfl
theorem Nm.part_get {ls : List (List UInt8)} {k m : Nat} (hk : k < ls.length) (hm : m < ls[k].length) : (Nm.part ls k m)[(Nm.enc (ls.take k)).length + 1 + m]? = some ls[k][m] := by
  unfold Nm.part
  have h := map_get Nm.foldb ls[k] m hm
  rw [← Nm.part_pos, Nm.getD_eq hk, List.getElem?_append_right (by omega), Nat.add_sub_cancel_left, List.getElem?_append_left (by simp; omega)]
  exact h
theorem Nm.part_set {ls : List (List UInt8)} {k m : Nat} (hk : k < ls.length) (hm : m < ls[k].length) : (Nm.part ls k m).set ((Nm.enc (ls.take k)).length + 1 + m) (Nm.foldb ls[k][m]) = Nm.part ls k (m + 1) := by
  unfold Nm.part
  have h := map_set Nm.foldb ls[k] m hm
  rw [← Nm.part_pos, Nm.getD_eq hk, List.set_append_right _ _ (by omega), Nat.add_sub_cancel_left, List.set_append_left _ _ (by simp; omega), h]
theorem Nm.part_same {ls : List (List UInt8)} {k m : Nat} (hk : k < ls.length) (hm : m < ls[k].length) (h : Nm.foldb ls[k][m] = ls[k][m]) : Nm.part ls k m = Nm.part ls k (m + 1) := by
  rw [← Nm.part_set hk hm, h]
  refine (List.ext_getElem? fun i => ?_)
  rw [List.getElem?_set]
  split
  · rename_i e
    subst e
    rw [Nm.part_get hk hm]
    split
    · rfl
    · rename_i hn
      have := (List.getElem?_eq_some_iff.1 (Nm.part_get hk hm)).1
      omega
  · rfl
theorem Nm.part_length {ls : List (List UInt8)} {k m : Nat} (hk : k < ls.length) : (Nm.part ls k m).length = (Nm.wire ls).length := by
  have h1 : (Nm.part ls k m).length = (Nm.part ls k 0).length := by
    unfold Nm.part
    simp only [List.length_append, List.length_map, List.length_take, List.length_drop]
    omega
  rw [h1, Nm.part_zero hk, Nm.upto]
  have := Nm.enc_append (ls.take k) (ls.drop k)
  rw [List.take_append_drop] at this
  simp only [Nm.wire, this, List.length_append, Nm.enc_fold_length]
  omega

set_option maxHeartbeats 2000000 in
set_option maxRecDepth 100000 in
theorem rfold_calls (s : ByteArray) (ls : List (List UInt8)) (h : Nm.labels s.data.toList = some ls) (w : World) (hm : s.size ≤ 140737488355328) :
    Calls Tryz.prog 12 #[.string s] w fun e w' => e = .returned (.string (txt (Nm.wire (Nm.foldLs ls)))) ∧ Below w.heap.size w w' := by
  have hfacts := Nm.labels_some h
  have hll : ls.length ≤ 255 := by have h1 := Nm.enc_length_pos ls; have h2 := hfacts.2.2; rw [hfacts.1] at h2; simp only [Nm.wire, List.length_append, List.length_cons, List.length_nil] at h2; omega
  have hs255 : s.size ≤ 255 := by rw [Lib.size_eq]; exact hfacts.2.2
  have hwl : (Nm.wire (Nm.foldLs ls)).length = s.size := by rw [Nm.wire_fold_length, Lib.size_eq, hfacts.1]
  have HF := Lib.hid hfacts
  have H := Lib.hid h
  have HWL := Lib.hid hwl
  clear hfacts h hwl
  go_enter Tryz.func12, Tryz.ntmps12
  go_wp2_with fail
  refine (rplaces_yes s ls H.out _ hm).mono ?_
  rintro e w1 ⟨g, cap, rfl, hg, hlt, hown, hcell, hb⟩
  have HC := Lib.hid hcell
  have hz1 := hb.size
  clear hcell hown
  have hcv := Lib.run_convert_string_bytes (P := Tryz.prog) w1 9 47 5 s Tryz.underlying9 Tryz.underlying47 Tryz.underlying5
  have hrow := byteRow_conv w1 s
  have hbel := below_bytes w1 s
  rw [HF.out.1, ← Nm.upto_zero] at hrow
  generalize Lib.bytesWorld w1 5 s = W1 at *
  generalize grownCap w1 s.size 0 5 = cp at *
  go_wp2_with fail
  clear hcv
  go_loopg [6] ls.length (fun gg v6 wx => ∃ (k : Nat), v6 = .int .i64 (k : Int) ∧ k + gg = ls.length ∧ ByteRow wx w1.heap.size (Nm.upto ls k) ∧ Below w1.heap.size w1 wx)
  case atStart => exact ⟨0, rfl, by omega, hrow, hbel⟩
  case round =>
    clear hrow hbel
    obtain ⟨k, rfl, hk, hR, hbx⟩ := hrel
    have hbw := hb.trans (hbx.mono hz1)
    cases gk with
    | zero =>
      have hk0 : k = ls.length := by omega
      subst hk0
      rw [Nm.upto_end] at hR
      have hcb : (convert 47 9 (.slice (some ⟨w1.heap.size, 0, none⟩) s.size cp)).run Tryz.prog wr = .ok (.string (txt (Nm.wire (Nm.foldLs ls)))) wr := by
        have h := run_convert_bytes_back (P := Tryz.prog) wr 47 9 5 ⟨w1.heap.size, 0, none⟩ cp (Nm.wire (Nm.foldLs ls)) Tryz.underlying47 Tryz.underlying5 Tryz.underlying9 (fun j hj => by
          rw [Addr.add_lit, Nat.zero_add]
          exact hR.cell (List.getElem?_eq_getElem hj))
        rw [HWL.out] at h
        exact h
      have HR := Lib.hid hR
      clear hR
      go_wp2_with fail
      go_ret
      exact ⟨rfl, hbw⟩
    | succ g1 =>
      have hk' : k < ls.length := by omega
      obtain ⟨p, hp⟩ : ∃ p, (Nm.enc (ls.take k)).length = p := ⟨_, rfl⟩
      obtain ⟨q, hq⟩ : ∃ q, (Nm.enc (ls.take (k + 1))).length = q := ⟨_, rfl⟩
      obtain ⟨n, hn⟩ : ∃ n, ls[k].length = n := ⟨_, rfl⟩
      have hpq : q = p + (1 + n) := by rw [← hp, ← hq, ← hn]; exact Nm.enc_take_succ ls k hk'
      have hqs : q < s.size := by
        rw [Lib.size_eq, HF.out.1, ← hq]
        have := Nm.enc_take_le ls (k + 1)
        simp only [Nm.wire, List.length_append, List.length_cons, List.length_nil]
        omega
      have hcp : ∀ W, Below w1.heap.size w1 W → W.cell? ⟨g, k, none⟩ = some (.int .i64 (p : Int)) := fun W hW => by
        rw [hW.cell (p := ⟨g, k, none⟩) hlt]
        exact HC.out k p (by rw [Nm.offs_get _ _ _ (by omega), hp]; simp)
      have hcq : ∀ W, Below w1.heap.size w1 W → W.cell? ⟨g, k + 1, none⟩ = some (.int .i64 (q : Int)) := fun W hW => by
        rw [hW.cell (p := ⟨g, k + 1, none⟩) hlt]
        exact HC.out (k + 1) q (by rw [Nm.offs_get _ _ _ (by omega), hq]; simp)
      have hget := fun m (hm : m < ls[k].length) => Nm.part_get hk' hm
      have hset := fun m (hm : m < ls[k].length) => Nm.part_set hk' hm
      have hsame := fun m (hm : m < ls[k].length) => Nm.part_same hk' hm
      have hend := Nm.part_end hk'
      rw [hp] at hget hset
      rw [← Nm.part_zero hk'] at hR
      have hlen := fun m => Nm.part_length (m := m) hk'
      have HGET := Lib.hid hget
      have HSET := Lib.hid hset
      have HSAME := Lib.hid hsame
      have HEND := Lib.hid hend
      have HLEN := Lib.hid hlen
      have HQ := Lib.hid hcq
      have HN := Lib.hid hn
      have c1 := hcp wr hbx
      clear hget hset hsame hend hlen hcp hcq hp hq hn
      go_wp2_with fail
      go_loopg [7] n (fun g2 v7 wx => ∃ (m j : Nat), v7 = .int .i64 (j : Int) ∧ j = p + 1 + m ∧ m + g2 = n ∧ ByteRow wx w1.heap.size (Nm.part ls k m) ∧ Below w1.heap.size w1 wx)
      case atStart => exact ⟨0, p + 1, by rw [Int.natCast_add]; rfl, rfl, by omega, hR, hbx⟩
      case round =>
        clear hR hbw c1
        obtain ⟨m, j, rfl, hj, hm2, hR, hby⟩ := hrel
        have c2 := HQ.out _ hby
        have hbys := hby.size
        cases gk with
        | zero =>
          have hm0 : m = n := by omega
          have qj : ((j : Int) < (q : Int)) = False := by simp; omega
          rw [hm0, ← HN.out, HEND.out] at hR
          have HR := Lib.hid hR
          clear hm0 hj hpq hR
          go_wp2_with fail
          go_roundg g1
          case measure => omega
          case rel => exact ⟨k + 1, by simp, by omega, HR.out, hby⟩
        | succ g3 =>
          have qj : ((j : Int) < (q : Int)) = True := by simp; omega
          have hm3 : m < ls[k].length := by rw [HN.out]; omega
          have hjs : j < s.size := by omega
          have hge := HGET.out m hm3
          have hse := HSET.out m hm3
          have hsa := HSAME.out m hm3
          obtain ⟨c, hc⟩ : ∃ c, ls[k][m] = c := ⟨_, rfl⟩
          rw [hc, ← hj] at hge
          rw [hc, ← hj] at hse
          rw [hc] at hsa
          have cj := hR.cell hge
          have hfz := hR.frozen (j := j) (by rw [HLEN.out, ← HF.out.1, ← Lib.size_eq]; exact hjs)
          have hj1 : j ≤ 1000 := by omega
          have hc256 : c.toNat < 256 := UInt8.toNat_lt _
          have HJ := Lib.hid hj
          have HSE := Lib.hid hse
          have HSA := Lib.hid hsa
          have HR := Lib.hid hR
          clear hj hpq hse hsa hge hc hm3 hR
          by_cases h65 : 65 ≤ c.toNat
          · by_cases h90 : c.toNat ≤ 90
            · have q1 : ((65 : Int) ≤ (c.toNat : Int)) = True := by simp; omega
              have q2 : ((c.toNat : Int) ≤ 90) = True := by simp; omega
              have hfb : ((Nm.foldb c).toNat : Int) = (c.toNat : Int) + 32 := by
                unfold Nm.foldb
                rw [if_pos ⟨h65, h90⟩]
                simp
                omega
              have HFB := Lib.hid hfb
              clear hfb h65
              go_wp2_with fail
              have hR2 := HR.out.set j (Nm.foldb c)
              rw [HSE.out, HFB.out] at hR2
              have HR2 := Lib.hid hR2
              clear hR2
              go_roundg g3
              case measure => omega
              case rel => exact ⟨m + 1, j + 1, by rw [Int.natCast_add]; rfl, by rw [HJ.out]; omega, by omega, HR2.out, hby.setCell (Nat.le_refl _) _⟩
            · have q1 : ((65 : Int) ≤ (c.toNat : Int)) = True := by simp; omega
              have q2 : ((c.toNat : Int) ≤ 90) = False := by simp; omega
              have hfb : Nm.foldb c = c := by unfold Nm.foldb; rw [if_neg (by omega)]
              have hR2 := HR.out
              rw [HSA.out hfb] at hR2
              have HR2 := Lib.hid hR2
              clear hfb h65 h90 hR2
              go_wp2_with fail
              go_roundg g3
              case measure => omega
              case rel => exact ⟨m + 1, j + 1, by rw [Int.natCast_add]; rfl, by rw [HJ.out]; omega, by omega, HR2.out, hby⟩
          · have q1 : ((65 : Int) ≤ (c.toNat : Int)) = False := by simp; omega
            have hfb : Nm.foldb c = c := by unfold Nm.foldb; rw [if_neg (by omega)]
            have hR2 := HR.out
            rw [HSA.out hfb] at hR2
            have HR2 := Lib.hid hR2
            clear hfb h65 hR2
            go_wp2_with fail
            go_roundg g3
            case measure => omega
            case rel => exact ⟨m + 1, j + 1, by rw [Int.natCast_add]; rfl, by rw [HJ.out]; omega, by omega, HR2.out, hby⟩

/-! ### P5: The walk of the reference's labels: a name's labels, folded, the last one first. Condition: the text is of at most 2^47 bytes. -/
def RlabelsPost (fs : List (List UInt8)) (w : World) (e : Ending) (w' : World) : Prop :=
  ∃ v, e = .returned v ∧ w'.ownsRow w.heap.size 9 1 v fs.length (strs fs) ∧ Below w.heap.size w w'

set_option maxHeartbeats 2000000 in
set_option maxRecDepth 100000 in
theorem rlabels_calls (s : ByteArray) (ls : List (List UInt8)) (h : Nm.labels s.data.toList = some ls) (w : World) (hm : s.size ≤ 140737488355328) :
    Calls Tryz.prog 30 #[.string s] w (RlabelsPost (Nm.foldLs ls).reverse w) := by
  obtain ⟨i0, hi, hz0, hz1, hz2⟩ := info_parts Tryz.info9
  have hmay := rmay_calls s w hm
  rw [h] at hmay
  have hfold := fun W => rfold_calls s ls h W hm
  have hlf := Nm.labels_fold h
  have hfl : (Nm.wire (Nm.foldLs ls)).length ≤ 255 := (Nm.labels_some hlf).2.2
  generalize Nm.foldLs ls = fs at *
  have hpl := fun W => rplaces_yes (txt (Nm.wire fs)) fs (by rw [txt_data]; exact hlf) W (by rw [txt_size]; omega)
  have hFd : (txt (Nm.wire fs)).data.toList = Nm.wire fs := txt_data _
  have hFs : (txt (Nm.wire fs)).size = (Nm.wire fs).length := txt_size _
  have hll : fs.length ≤ 255 := by have h1 := Nm.enc_length_pos fs; simp only [Nm.wire, List.length_append, List.length_cons, List.length_nil] at hfl; omega
  have hlab : ∀ k (hk : k < fs.length), (txt (Nm.wire fs)).extract ((Nm.enc (fs.take k)).length + 1) (Nm.enc (fs.take (k + 1))).length = txt fs[k] := fun k hk => by
    have h1 := Nm.wire_label fs k hk
    have h2 := Nm.enc_take_succ fs k hk
    rw [← txt_of ((txt (Nm.wire fs)).extract _ _), Lib.extract_data, hFd, show (Nm.enc (fs.take (k + 1))).length - ((Nm.enc (fs.take k)).length + 1) = fs[k].length from by omega, h1]
  have hin : ∀ k, k < fs.length → (Nm.enc (fs.take (k + 1))).length < (Nm.wire fs).length := fun k _ => by
    have := Nm.enc_take_le fs (k + 1)
    simp only [Nm.wire, List.length_append, List.length_cons, List.length_nil]
    omega
  generalize txt (Nm.wire fs) = F at *
  have HM := Lib.hid hmay
  have HFO := Lib.hid hfold
  have HPL := Lib.hid hpl
  have HLAB := Lib.hid hlab
  have HIN := Lib.hid hin
  have HFS := Lib.hid hFs
  clear hmay hfold hpl hlab hin hFs hFd hlf h
  go_enter Tryz.func30, Tryz.ntmps30
  go_wp2_with fail
  refine HM.out.mono ?_
  rintro e wm ⟨rfl, hbm⟩
  go_wp2_with fail
  refine (HFO.out _).mono ?_
  rintro e wf ⟨rfl, hbf⟩
  have hbf' := hbm.trans (hbf.mono hbm.size)
  go_wp2_with fail
  refine (HPL.out _).mono ?_
  rintro e w1 ⟨g, cap, rfl, hg, hlt, hown, hcell, hb1⟩
  have hb := hbf'.trans (hb1.mono hbf'.size)
  have HC := Lib.hid hcell
  have hz1' := hb.size
  clear hcell hown hbm hbf hbf' hb1
  go_wp2_with fail
  go_loopg [6, 7] fs.length (fun gg v6 v7 wx => ∃ (k : Nat) (z : Int), v7 = .int .i64 z ∧ Aside (z = (fs.length : Int) - 1 - (k : Int)) ∧ k + gg = fs.length ∧ wx.ownsRow w1.heap.size 9 1 v6 k (strs (fs.reverse.take k)) ∧ Below w1.heap.size w1 wx)
  case atStart => exact ⟨0, _, rfl, (by show _ = _; omega), by omega, by simpa [strs] using World.ownsRow_nil w1 w1.heap.size 9 1, Below.refl _ _⟩
  case round =>
    obtain ⟨k, z, rfl, hz, hk, hown, hbx⟩ := hrel
    have hbxs := hbx.size
    cases gk with
    | zero =>
      obtain rfl : z = -1 := by have := hz.out; omega
      have hk0 : k = fs.length := by omega
      rw [List.take_of_length_le (by simp; omega), hk0] at hown
      have HO := Lib.hid hown
      clear hk0 hown
      go_wp2_with fail
      go_ret
      exact ⟨u6, rfl, by rw [List.length_reverse]; exact own_mono HO.out hz1', hb.trans (hbx.mono hz1')⟩
    | succ g1 =>
      obtain ⟨i, hi1⟩ : ∃ i : Nat, i + 1 + k = fs.length := ⟨fs.length - 1 - k, by omega⟩
      obtain rfl : z = (i : Int) := by have := hz.out; omega
      have hif : i < fs.length := by omega
      obtain ⟨a, ha⟩ : ∃ a, (Nm.enc (fs.take i)).length = a := ⟨_, rfl⟩
      obtain ⟨b, hb'⟩ : ∃ b, (Nm.enc (fs.take (i + 1))).length = b := ⟨_, rfl⟩
      have hca : wr.cell? ⟨g, i, none⟩ = some (.int .i64 (a : Int)) := by
        rw [hbx.cell (p := ⟨g, i, none⟩) hlt]
        exact HC.out i a (by rw [Nm.offs_get _ _ _ (by omega), ha]; simp)
      have hcb : wr.cell? ⟨g, i + 1, none⟩ = some (.int .i64 (b : Int)) := by
        rw [hbx.cell (p := ⟨g, i + 1, none⟩) hlt]
        exact HC.out (i + 1) b (by rw [Nm.offs_get _ _ _ (by omega), hb']; simp)
      have hab : b = a + (1 + (fs[i]).length) := by rw [← ha, ← hb']; exact Nm.enc_take_succ fs i hif
      have hbs : b < F.size := by rw [HFS.out, ← hb']; exact HIN.out i hif
      have hF255 : F.size ≤ 255 := by rw [HFS.out]; exact hfl
      have hext := HLAB.out i hif
      rw [ha, hb'] at hext
      have hnext : fs.reverse.take (k + 1) = fs.reverse.take k ++ [fs[i]] := by
        rw [List.take_succ_eq_append_getElem (by simp; omega), List.getElem_reverse]
        congr 2
        congr 1
        omega
      have hab1 : a + 1 ≤ b := by omega
      have hne : u6.ownBlock ≠ some g := fun e => by have := (hown.lt g e).1; omega
      have HE := Lib.hid hext
      have HN := Lib.hid hnext
      have HI := Lib.hid hi1
      have hi9 : i ≤ 255 := by omega
      clear hab hext ha hb' hnext hi1 hz
      have q0 : (0 : Int) ≤ (i : Int) := Int.natCast_nonneg _
      have q1 : (i : Int) < (fs.length : Int) + 1 := by omega
      have q2 : (0 : Int) ≤ (i : Int) + 1 := by omega
      have q3 : (i : Int) + 1 < (fs.length : Int) + 1 := by omega
      have q4 : IntKind.i64.wrap ((i : Int) + 1) = (i : Int) + 1 := IntWalk.i64_in _ (by omega)
      have q5 : IntKind.i64.wrap ((a : Int) + 1) = (a : Int) + 1 := IntWalk.i64_in _ (by omega)
      have q6 : (0 : Int) ≤ (a : Int) + 1 := by omega
      have q7 : (a : Int) + 1 ≤ (b : Int) := by omega
      have q8 : (b : Int) ≤ (F.size : Int) := by omega
      have q9 : ((a : Int) + 1).toNat = a + 1 := by omega
      have q10 : ((i : Int) + 1).toNat = i + 1 := by omega
      go_wp2_with fail
      go_region_held3 (fun w' => w'.cell? ⟨g, i, none⟩ = some (.int .i64 (a : Int)) ∧ w'.cell? ⟨g, i + 1, none⟩ = some (.int .i64 (b : Int)))
        (first
          | go_keep
          | (go_split_ands
             refine ⟨?_, ?_⟩
             · (rw [hgrow.cell_far (a := ⟨g, i, none⟩) (by simp; omega) (Ne.symm hne)]; assumption)
             · (rw [hgrow.cell_far (a := ⟨g, i + 1, none⟩) (by simp; omega) (Ne.symm hne)]; assumption)))
        ((go_loud (refine step_append_lies _ (by rfl) _ _ _ (by rfl) w1.heap.size 9 i0 _ 1 16 Tryz.underlying31 hi hz0 hz1 hz2 rfl (by omega) _ k (strs (fs.reverse.take k)) (by rfl) ((hown.alloc _).drew) ⟨wr.heap.size, 0, none⟩ 1 1 [.string (F.extract (a + 1) b)] (by rfl) (by rfl) (World.news_of_block (cs := #[.string (F.extract (a + 1) b)]) (t := 9) (fr := (0, 0)) (heap_alloc_new wr _)) (by simp [Value.oneCell']) (by omega) (by unfold maxLen; omega) (by omega) (by simp; omega) (wr.heap.size + 1) (by simp) ?_); intro gg cap2 w2 hown2 hgrow hat hlt2))
      go_wp2
      go_roundg g1
      case measure => omega
      case rel =>
        refine ⟨k + 1, _, rfl, ?_, by omega, ?_, ?_⟩
        · show _ = _
          have := HI.out
          omega
        · rw [HN.out, strs_append]
          rw [HE.out] at hown2
          exact hown2
        · exact ((hbx.alloc hbxs _).drew).grown hgrow (by simp; omega) (fun j hj => by have := (hown.lt j hj).1; omega)

/-! ### P6: The walk of the reference's Compare. Condition: both texts are names. -/
theorem rlab_any {fs : List (List UInt8)} {w w' : World} {e : Ending} (h : RlabelsPost fs w e w') : ∃ ao cap, e = .returned (.slice ao fs.length cap) ∧ Below w.heap.size w w' ∧
    (0 < fs.length → ∃ g, ao = some ⟨g, 0, none⟩ ∧ g < w'.heap.size ∧ ∀ (j : Nat) x, fs[j]? = some x → w'.cell? ⟨g, j, none⟩ = some (.string (txt x))) := by
  obtain ⟨v, he, hown, hb⟩ := h
  cases hf : fs with
  | nil =>
    subst hf
    obtain ⟨ao, cap, rfl⟩ := own_form hown
    exact ⟨ao, cap, he, hb, fun h => absurd h (by simp)⟩
  | cons x r =>
    rw [← hf]
    have hl : 0 < fs.length := by rw [hf]; simp
    obtain ⟨g, cap, rfl, hg, hlt, hc⟩ := own_at hown hl
    exact ⟨_, cap, he, hb, fun _ => ⟨g, rfl, hlt, fun j y hj => hc j _ (by simp [strs, hj])⟩⟩

set_option maxHeartbeats 2000000 in
set_option maxRecDepth 100000 in
theorem rcompare_calls (a b : ByteArray) (la lb : List (List UInt8)) (h1 : Nm.labels a.data.toList = some la) (h2 : Nm.labels b.data.toList = some lb) (w : World) (ha : a.size ≤ 140737488355328) (hb : b.size ≤ 140737488355328) :
    Calls Tryz.prog 13 #[.string a, .string b] w fun e w' => e = .returned (.int .i64 (Nm.compare a.data.toList b.data.toList)) ∧ Below w.heap.size w w' := by
  have c1 := fun W => (rlabels_calls a la h1 W ha).mono fun _ _ => rlab_any
  have c2 := fun W => (rlabels_calls b lb h2 W hb).mono fun _ _ => rlab_any
  have hR : Nm.cmpL (Nm.foldLs la).reverse (Nm.foldLs lb).reverse = Nm.compare a.data.toList b.data.toList := by rw [Nm.compare, h1, h2]; rfl
  have hl1 : (Nm.foldLs la).reverse.length ≤ 255 := by
    have := Nm.labels_some h1; have h2 := Nm.enc_length_pos la; rw [this.1] at this; simp [Nm.wire] at this; simp [Nm.foldLs]; omega
  have hl2 : (Nm.foldLs lb).reverse.length ≤ 255 := by
    have := Nm.labels_some h2; have h2 := Nm.enc_length_pos lb; rw [this.1] at this; simp [Nm.wire] at this; simp [Nm.foldLs]; omega
  generalize (Nm.foldLs la).reverse = xs at *
  generalize (Nm.foldLs lb).reverse = ys at *
  generalize Nm.compare a.data.toList b.data.toList = r at *
  have C1 := Lib.hid c1
  have C2 := Lib.hid c2
  have HR := Lib.hid hR
  clear c1 c2 hR h1 h2
  go_enter Tryz.func13, Tryz.ntmps13
  go_wp2_with fail
  refine (C1.out _).mono ?_
  rintro e w1 ⟨ao1, cap1, rfl, b1, hc1⟩
  have HC1 := Lib.hid hc1
  clear hc1
  go_wp2_with fail
  refine (C2.out _).mono ?_
  rintro e w2 ⟨ao2, cap2, rfl, b2, hc2⟩
  have HC2 := Lib.hid hc2
  clear hc2
  have hz1 := b1.size
  have hz2 := b2.size
  have hb2 := b1.trans (b2.mono hz1)
  go_wp2_with fail
  go_loopg [7] (min xs.length ys.length) (fun gg v7 wx => ∃ (k : Nat), v7 = .int .i64 (k : Int) ∧ k + gg = min xs.length ys.length ∧ Aside (Nm.cmpL (xs.drop k) (ys.drop k) = r) ∧ Below w2.heap.size w2 wx)
  case atStart => exact ⟨0, rfl, by omega, HR.out, Below.refl _ _⟩
  case round =>
    obtain ⟨k, rfl, hk, HA, hbx⟩ := hrel
    have hbw := hb2.trans (hbx.mono (by omega))
    cases gk with
    | zero =>
      have hr : Lib.compareInt (xs.length : Int) (ys.length : Int) = r := by
        rw [← HA.out]
        exact (Nm.cmpL_end _ _ _ (by omega) (by omega) hk rfl rfl).symm
      unfold Lib.compareInt at hr
      by_cases hx : k < xs.length
      · have q1 : ((k : Int) < (xs.length : Int)) = True := by simp; omega
        have q2 : ((k : Int) < (ys.length : Int)) = False := by simp; omega
        have q3 : ((xs.length : Int) < (ys.length : Int)) = False := by simp; omega
        have q4 : ((ys.length : Int) < (xs.length : Int)) = True := by simp; omega
        rw [if_neg (by omega), if_pos (by omega)] at hr
        subst hr
        clear hx
        go_wp2_with fail
        go_ret
        exact ⟨rfl, hbw⟩
      · have q1 : ((k : Int) < (xs.length : Int)) = False := by simp; omega
        by_cases hy : k < ys.length
        · have q3 : ((xs.length : Int) < (ys.length : Int)) = True := by simp; omega
          rw [if_pos (by omega)] at hr
          subst hr
          clear hx hy
          go_wp2_with fail
          go_ret
          exact ⟨rfl, hbw⟩
        · have q3 : ((xs.length : Int) < (ys.length : Int)) = False := by simp; omega
          have q4 : ((ys.length : Int) < (xs.length : Int)) = False := by simp; omega
          rw [if_neg (by omega), if_neg (by omega)] at hr
          subst hr
          clear hx hy
          go_wp2_with fail
          go_ret
          exact ⟨rfl, hbw⟩
    | succ g =>
      have hk1 : k < xs.length := by omega
      have hk2 : k < ys.length := by omega
      obtain ⟨g1, rfl, hg1, hc1⟩ := HC1.out (by omega)
      obtain ⟨g2, rfl, hg2, hc2⟩ := HC2.out (by omega)
      have c1 : ∀ W : Cls (fun w' => Below w2.heap.size w2 w'), W.w.cell? ⟨g1, k, none⟩ = some (.string (txt xs[k])) := fun W => by
        rw [W.h.cell (p := ⟨g1, k, none⟩) (by show g1 < _; omega), b2.cell (p := ⟨g1, k, none⟩) hg1]
        exact hc1 k _ (List.getElem?_eq_getElem _)
      have c2 : ∀ W : Cls (fun w' => Below w2.heap.size w2 w'), W.w.cell? ⟨g2, k, none⟩ = some (.string (txt ys[k])) := fun W => by
        rw [W.h.cell (p := ⟨g2, k, none⟩) hg2]
        exact hc2 k _ (List.getElem?_eq_getElem _)
      have ex : Nm.cmpL (xs.drop k) (ys.drop k) = if Nm.cmpB xs[k] ys[k] = 0 then Nm.cmpL (xs.drop (k + 1)) (ys.drop (k + 1)) else Nm.cmpB xs[k] ys[k] := by
        rw [List.drop_eq_getElem_cons hk1, List.drop_eq_getElem_cons hk2, Nm.cmpL]
      have q1 : ((k : Int) < (xs.length : Int)) = True := by simp; omega
      have q2 : ((k : Int) < (ys.length : Int)) = True := by simp; omega
      have hx : (txt xs[k]).toList = xs[k] := by rw [Lib.toList_data, txt_data]
      have hy : (txt ys[k]).toList = ys[k] := by rw [Lib.toList_data, txt_data]
      have EX := Lib.hid ex
      clear ex hc1 hc2
      generalize xs[k] = x at *
      generalize ys[k] = y at *
      by_cases hlt : Op.bytesLess x y = true
      · have hL : Op.bytesLess (txt x).toList (txt y).toList = true := by rw [hx, hy]; exact hlt
        have hc : Nm.cmpB x y = -1 := by rw [Nm.cmpB, if_pos hlt]
        obtain rfl : r = -1 := by rw [← HA.out, EX.out, hc]; rfl
        clear hlt hx hy hc
        go_wp2_with fail
        refine region_cls (fun w' => Below w2.heap.size w2 w') (by kernel_rfl) (by kernel_rfl) hbx.drew (fun hne => ?_)
        repeat (go_big_quiet_step (fail))
        refine wpQuiet_nil ?_
        intro w3 hb3
        go_wp2_with fail
        go_ret
        exact ⟨rfl, hb2.trans (hb3.mono (by omega))⟩
      · have hL : Op.bytesLess (txt x).toList (txt y).toList = false := by rw [hx, hy]; simpa using hlt
        by_cases heq : x = y
        · have hE : ((txt x).toList == (txt y).toList) = true := by rw [heq]; simp
          have hc : Nm.cmpB x y = 0 := by rw [Nm.cmpB, if_neg hlt, if_pos heq]
          have hA2 : Nm.cmpL (xs.drop (k + 1)) (ys.drop (k + 1)) = r := by rw [← HA.out, EX.out, hc]; rfl
          have HA2 := Lib.hid hA2
          clear hlt hx hy hc heq hA2
          go_wp2_with fail
          refine region_cls (fun w' => Below w2.heap.size w2 w') (by kernel_rfl) (by kernel_rfl) hbx.drew (fun hne => ?_)
          repeat (go_big_quiet_step (fail))
          refine wpQuiet_nil ?_
          intro w3 hb3
          go_wp2_with fail
          refine region_cls (fun w' => Below w2.heap.size w2 w') (by kernel_rfl) (by kernel_rfl) hb3.drew (fun hne => ?_)
          repeat (go_big_quiet_step (fail))
          refine wpQuiet_nil ?_
          intro w4 hb4
          go_wp2_with fail
          go_roundg g
          case measure => omega
          case rel => exact ⟨k + 1, by rw [Int.natCast_add]; rfl, by omega, HA2.out, hb4⟩
        · have hE : ((txt x).toList == (txt y).toList) = false := by rw [hx, hy]; simpa using heq
          have hc : Nm.cmpB x y = 1 := by rw [Nm.cmpB, if_neg hlt, if_neg heq]
          obtain rfl : r = 1 := by rw [← HA.out, EX.out, hc]; rfl
          clear hlt hx hy hc heq
          go_wp2_with fail
          refine region_cls (fun w' => Below w2.heap.size w2 w') (by kernel_rfl) (by kernel_rfl) hbx.drew (fun hne => ?_)
          repeat (go_big_quiet_step (fail))
          refine wpQuiet_nil ?_
          intro w3 hb3
          go_wp2_with fail
          refine region_cls (fun w' => Below w2.heap.size w2 w') (by kernel_rfl) (by kernel_rfl) hb3.drew (fun hne => ?_)
          repeat (go_big_quiet_step (fail))
          refine wpQuiet_nil ?_
          intro w4 hb4
          go_wp2_with fail
          go_ret
          exact ⟨rfl, hb2.trans (hb4.mono (by omega))⟩

/-! ### P7: The walks of the reference's Same and Above, at names. Condition: the texts are names. -/
set_option maxHeartbeats 1000000 in
set_option maxRecDepth 100000 in
theorem rsame_calls (a b : ByteArray) (la lb : List (List UInt8)) (h1 : Nm.labels a.data.toList = some la) (h2 : Nm.labels b.data.toList = some lb) (w : World) (ha : a.size ≤ 140737488355328) (hb : b.size ≤ 140737488355328) :
    Calls Tryz.prog 32 #[.string a, .string b] w fun e w' => e = .returned (.bool (Nm.wire (Nm.foldLs la) == Nm.wire (Nm.foldLs lb))) ∧ Below w.heap.size w w' := by
  have m1 := fun W => rmay_calls a W ha
  have m2 := fun W => rmay_calls b W hb
  rw [h1] at m1
  rw [h2] at m2
  have f1 := fun W => rfold_calls a la h1 W ha
  have f2 := fun W => rfold_calls b lb h2 W hb
  have hx : (txt (Nm.wire (Nm.foldLs la))).toList = Nm.wire (Nm.foldLs la) := by rw [Lib.toList_data, txt_data]
  have hy : (txt (Nm.wire (Nm.foldLs lb))).toList = Nm.wire (Nm.foldLs lb) := by rw [Lib.toList_data, txt_data]
  have he : ((txt (Nm.wire (Nm.foldLs la))).toList == (txt (Nm.wire (Nm.foldLs lb))).toList) = (Nm.wire (Nm.foldLs la) == Nm.wire (Nm.foldLs lb)) := by rw [hx, hy]
  generalize (Nm.wire (Nm.foldLs la) == Nm.wire (Nm.foldLs lb)) = r at *
  generalize txt (Nm.wire (Nm.foldLs la)) = X at *
  generalize txt (Nm.wire (Nm.foldLs lb)) = Y at *
  have M1 := Lib.hid m1
  have M2 := Lib.hid m2
  have F1 := Lib.hid f1
  have F2 := Lib.hid f2
  clear m1 m2 f1 f2 hx hy
  go_enter Tryz.func32, Tryz.ntmps32
  go_wp2_with fail
  refine (M1.out _).mono ?_
  rintro e w1 ⟨rfl, b1⟩
  go_wp2_with fail
  refine (M2.out _).mono ?_
  rintro e w2 ⟨rfl, b⟩
  have b2 := b1.trans (b.mono b1.size)
  clear b b1
  go_wp2_with fail
  refine (F1.out _).mono ?_
  rintro e w3 ⟨rfl, b⟩
  have b3 := b2.trans (b.mono b2.size)
  clear b b2
  go_wp2_with fail
  refine (F2.out _).mono ?_
  rintro e w4 ⟨rfl, b⟩
  have b4 := b3.trans (b.mono b3.size)
  clear b b3
  go_wp2_with fail
  go_ret
  exact ⟨rfl, b4⟩

theorem Nm.aboveL_eq (la lb : List (List UInt8)) : Nm.aboveL la lb = (decide (la.length ≤ lb.length) && (Nm.foldLs la == Nm.foldLs (lb.drop (lb.length - la.length)))) := by
  rw [Bool.eq_iff_iff]
  simp only [Nm.aboveL, List.any_eq_true, List.mem_range, Bool.and_eq_true, decide_eq_true_eq, beq_iff_eq]
  have hl : ∀ l, (Nm.foldLs l).length = l.length := fun l => by simp [Nm.foldLs]
  constructor
  · rintro ⟨k, hk, e⟩
    have h := congrArg List.length e
    rw [List.length_drop, hl, hl] at h
    refine ⟨by omega, ?_⟩
    rw [← e]
    simp only [Nm.foldLs, List.map_drop]
    congr 1
    omega
  · rintro ⟨h, e⟩
    refine ⟨lb.length - la.length, by omega, ?_⟩
    rw [e]
    simp only [Nm.foldLs, List.map_drop]

set_option maxHeartbeats 1000000 in
set_option maxRecDepth 100000 in
theorem rabove_calls (a b : ByteArray) (la lb : List (List UInt8)) (h1 : Nm.labels a.data.toList = some la) (h2 : Nm.labels b.data.toList = some lb) (w : World) (ha : a.size ≤ 140737488355328) (hb : b.size ≤ 140737488355328) :
    Calls Tryz.prog 18 #[.string a, .string b] w fun e w' => e = .returned (.bool (Nm.above a.data.toList b.data.toList)) ∧ Below w.heap.size w w' := by
  have hA : Nm.above a.data.toList b.data.toList = Nm.aboveL la lb := by rw [Nm.above, h1, h2]
  rw [hA, Nm.aboveL_eq]
  have m1 := fun W => rmay_calls a W ha
  have m2 := fun W => rmay_calls b W hb
  rw [h1] at m1
  rw [h2] at m2
  have n1 := fun W => rcount_calls a la h1 W ha
  have n2 := fun W => rcount_calls b lb h2 W hb
  have hf1 := Nm.labels_some h1
  have hf2 := Nm.labels_some h2
  have hla : la.length ≤ 255 := by have h2 := Nm.enc_length_pos la; have h3 := hf1.2.2; rw [hf1.1] at h3; simp only [Nm.wire, List.length_append, List.length_cons, List.length_nil] at h3; omega
  have hlb : lb.length ≤ 255 := by have h2 := Nm.enc_length_pos lb; have h3 := hf2.2.2; rw [hf2.1] at h3; simp only [Nm.wire, List.length_append, List.length_cons, List.length_nil] at h3; omega
  by_cases hc : la.length ≤ lb.length
  · have hfd : Nm.Fit (lb.drop (lb.length - la.length)) := fun x hx => hf2.2.1 x (List.mem_of_mem_drop hx)
    have hdl : Nm.labels (Nm.wire (lb.drop (lb.length - la.length))) = some (lb.drop (lb.length - la.length)) := by
      refine Nm.labels_wire hfd ?_
      rw [← Nm.enc_drop, List.length_drop, ← hf2.1]
      have := hf2.2.2
      omega
    have hdz : (txt (Nm.wire (lb.drop (lb.length - la.length)))).size ≤ 255 := by
      rw [txt_size, ← Nm.enc_drop, List.length_drop, ← hf2.1]
      have := hf2.2.2
      omega
    have l33 := fun W => rlast_calls b lb h2 la.length hc W hb
    have s32 := fun W => rsame_calls a (txt (Nm.wire (lb.drop (lb.length - la.length)))) la (lb.drop (lb.length - la.length)) h1 (by rw [txt_data]; exact hdl) W ha (by omega)
    have e1 : (Nm.wire (Nm.foldLs la) == Nm.wire (Nm.foldLs (lb.drop (lb.length - la.length)))) = (decide (la.length ≤ lb.length) && (Nm.foldLs la == Nm.foldLs (lb.drop (lb.length - la.length)))) := by
      rw [decide_eq_true hc, Bool.true_and]
      by_cases e : Nm.foldLs la = Nm.foldLs (lb.drop (lb.length - la.length))
      · rw [e]; simp
      · have : ¬ Nm.wire (Nm.foldLs la) = Nm.wire (Nm.foldLs (lb.drop (lb.length - la.length))) := fun h => e (Nm.enc_inj _ _ (Nm.foldLs_fit hf1.2.1) (Nm.foldLs_fit hfd) h)
        rw [beq_eq_false_iff_ne.2 this, beq_eq_false_iff_ne.2 e]
    rw [e1] at s32
    generalize (decide (la.length ≤ lb.length) && (Nm.foldLs la == Nm.foldLs (lb.drop (lb.length - la.length)))) = r at *
    generalize txt (Nm.wire (lb.drop (lb.length - la.length))) = Z at *
    have q1 : ((la.length : Int) ≤ (lb.length : Int)) = True := by simp; omega
    have M1 := Lib.hid m1
    have M2 := Lib.hid m2
    have N1 := Lib.hid n1
    have N2 := Lib.hid n2
    have L33 := Lib.hid l33
    have S32 := Lib.hid s32
    clear m1 m2 n1 n2 l33 s32 hf1 hf2 h1 h2 hA hdl hdz hc e1 hfd
    go_enter Tryz.func18, Tryz.ntmps18
    go_wp2_with fail
    refine (M1.out _).mono ?_
    rintro e w1 ⟨rfl, b1⟩
    go_wp2_with fail
    refine (M2.out _).mono ?_
    rintro e w2 ⟨rfl, b⟩
    have b2 := b1.trans (b.mono b1.size)
    clear b b1
    go_wp2_with fail
    refine (N1.out _).mono ?_
    rintro e w3 ⟨rfl, b⟩
    have b3 := b2.trans (b.mono b2.size)
    clear b b2
    go_wp2_with fail
    refine (N2.out _).mono ?_
    rintro e w4 ⟨rfl, b⟩
    have b4 := b3.trans (b.mono b3.size)
    clear b b3
    go_wp2_with fail
    refine (N1.out _).mono ?_
    rintro e w5 ⟨rfl, b⟩
    have b5 := b4.trans (b.mono b4.size)
    clear b b4
    go_wp2_with fail
    refine (L33.out _).mono ?_
    rintro e w6 ⟨rfl, b⟩
    have b6 := b5.trans (b.mono b5.size)
    clear b b5
    go_wp2_with fail
    refine (S32.out _).mono ?_
    rintro e w7 ⟨rfl, b⟩
    have b7 := b6.trans (b.mono b6.size)
    clear b b6
    go_wp2_with fail
    go_ret
    exact ⟨rfl, b7⟩
  · have q1 : ((la.length : Int) ≤ (lb.length : Int)) = False := by simp; omega
    rw [decide_eq_false hc, Bool.false_and]
    have M1 := Lib.hid m1
    have M2 := Lib.hid m2
    have N1 := Lib.hid n1
    have N2 := Lib.hid n2
    clear m1 m2 n1 n2 hf1 hf2 h1 h2 hA hc
    go_enter Tryz.func18, Tryz.ntmps18
    go_wp2_with fail
    refine (M1.out _).mono ?_
    rintro e w1 ⟨rfl, b1⟩
    go_wp2_with fail
    refine (M2.out _).mono ?_
    rintro e w2 ⟨rfl, b⟩
    have b2 := b1.trans (b.mono b1.size)
    clear b b1
    go_wp2_with fail
    refine (N1.out _).mono ?_
    rintro e w3 ⟨rfl, b⟩
    have b3 := b2.trans (b.mono b2.size)
    clear b b2
    go_wp2_with fail
    refine (N2.out _).mono ?_
    rintro e w4 ⟨rfl, b⟩
    have b4 := b3.trans (b.mono b3.size)
    clear b b3
    go_wp2_with fail
    go_ret
    exact ⟨rfl, b4⟩

/-! ### P8: A name's text, plain: it is one word, and read again it is the name. Condition: none. -/
namespace Nm
theorem esc_cases (c : UInt8) : (esc c = [c] ∧ 33 ≤ c.toNat ∧ c.toNat ≤ 126 ∧ c.toNat ≠ 46 ∧ c.toNat ≠ 92) ∨
    ∃ x y z : UInt8, esc c = [92, x, y, z] ∧ x.toNat = 48 + c.toNat / 100 ∧ y.toNat = 48 + c.toNat / 10 % 10 ∧ z.toNat = 48 + c.toNat % 10 := by
  have hc : c.toNat < 256 := UInt8.toNat_lt _
  unfold esc
  by_cases h : c.toNat < 33 ∨ 126 < c.toNat ∨ c.toNat = 46 ∨ c.toNat = 92
  · rw [if_pos h]
    refine .inr ⟨_, _, _, rfl, ?_, ?_, ?_⟩
    · simp; omega
    · simp; omega
    · simp; omega
  · rw [if_neg h]
    exact .inl ⟨rfl, by omega, by omega, by omega, by omega⟩
theorem loose_esc (f : Nat) (c : UInt8) (r out label : List UInt8) : loose (f + 1) (esc c ++ r) out label = loose f r out (label ++ [c]) := by
  rcases esc_cases c with ⟨h, h1, h2, h3, h4⟩ | ⟨x, y, z, h, hx, hy, hz⟩
  · rw [h]
    show loose (f + 1) (c :: r) out label = _
    rw [loose, if_neg h3, if_neg h4]
  · rw [h]
    show loose (f + 1) (92 :: x :: y :: z :: r) out label = _
    have hc : c.toNat < 256 := UInt8.toNat_lt _
    have he : escd (x :: y :: z :: r) = some c := by
      rw [escd, if_pos (by omega)]
      congr 1
      have e : 100 * (x.toNat - 48) + 10 * (y.toNat - 48) + (z.toNat - 48) = c.toNat := by omega
      rw [e]
      simp
    rw [loose, if_neg (by decide), if_pos (by decide), he]
    rfl
theorem loose_label (r out : List UInt8) : ∀ (L : List UInt8) (f : Nat) (label : List UInt8), loose (f + L.length) (L.flatMap esc ++ r) out label = loose f r out (label ++ L)
  | [], f, label => by simp
  | c :: t, f, label => by
    rw [List.flatMap_cons, List.append_assoc, List.length_cons, ← Nat.add_assoc, loose_esc, loose_label r out t f]
    simp
theorem loose_textL (L r out : List UInt8) (f : Nat) (h : 1 ≤ L.length ∧ L.length ≤ 63) : loose (f + (1 + L.length)) (textL L ++ r) out [] = loose f r (out ++ UInt8.ofNat L.length :: L) [] := by
  rw [textL, List.append_assoc, ← Nat.add_assoc, loose_label _ _ L (f + 1) []]
  show loose (f + 1) (46 :: r) out ([] ++ L) = _
  rw [List.nil_append, loose, if_pos (by decide), if_neg (by omega)]
theorem enc_cons_length (x : List UInt8) (r : List (List UInt8)) : (enc (x :: r)).length = (1 + x.length) + (enc r).length := by
  simp [enc]; omega
theorem loose_text : ∀ (ls : List (List UInt8)) (f : Nat) (out : List UInt8), Fit ls → loose (f + 1 + (enc ls).length) (ls.flatMap textL) out [] = some (out ++ enc ls ++ [0])
  | [], f, out, _ => by simp [enc, loose]
  | x :: r, f, out, h => by
    rw [enc_cons_length, List.flatMap_cons, show f + 1 + ((1 + x.length) + (enc r).length) = (f + 1 + (enc r).length) + (1 + x.length) from by omega, loose_textL x _ out _ (h x (by simp)), loose_text r f _ fun y hy => h y (by simp [hy])]
    simp [enc]
theorem textL_bounds (L : List UInt8) : L.length + 1 ≤ (textL L).length ∧ (textL L).length ≤ 4 * L.length + 1 := by
  have h2 := flat_len esc 4 esc_len L
  have h1 : L.length ≤ (L.flatMap esc).length := by
    clear h2
    induction L with
    | nil => simp
    | cons c t ih =>
      have : 1 ≤ (esc c).length := by unfold esc; split <;> simp
      simp only [List.flatMap_cons, List.length_append, List.length_cons]
      omega
  simp only [textL, List.length_append, List.length_cons, List.length_nil]
  omega
theorem text_bounds : ∀ ls : List (List UInt8), (enc ls).length ≤ (ls.flatMap textL).length ∧ (ls.flatMap textL).length ≤ 4 * (enc ls).length
  | [] => by simp [enc]
  | x :: r => by
    have h1 := textL_bounds x
    have h2 := text_bounds r
    rw [enc_cons_length, List.flatMap_cons, List.length_append]
    omega
theorem parse_text {l : List UInt8} {ls : List (List UInt8)} (h : labels l = some ls) : parse (text ls) = some (wire ls) := by
  obtain ⟨e, hf, hl⟩ := labels_some h
  have hw : labels (wire ls) = some ls := by rw [← e]; exact h
  unfold parse
  by_cases h0 : ls = []
  · subst h0
    rfl
  · have ht : text ls = ls.flatMap textL := by rw [text, if_neg h0]
    have hb := text_bounds ls
    have hlen : 2 ≤ (enc ls).length := by
      cases ls with
      | nil => exact absurd rfl h0
      | cons x r => rw [enc_cons_length]; have := (hf x (by simp)).1; omega
    have hne : text ls ≠ [46] := fun e => by
      have := congrArg List.length e
      rw [ht] at this
      simp only [List.length_cons, List.length_nil] at this
      omega
    have hlo : loose ((text ls).length + 1) (text ls) [] [] = some (wire ls) := by
      have h1 := loose_text ls ((text ls).length - (enc ls).length) [] hf
      rw [ht] at h1 ⊢
      rw [show (ls.flatMap textL).length - (enc ls).length + 1 + (enc ls).length = (ls.flatMap textL).length + 1 from by omega] at h1
      rw [h1]
      simp [wire]
    rw [if_neg hne, hlo]
    simp only [hw, if_true]
theorem esc_bytes (c : UInt8) : ∀ b ∈ esc c, 33 ≤ b.toNat ∧ b.toNat ≤ 126 := by
  have hc : c.toNat < 256 := UInt8.toNat_lt _
  rcases esc_cases c with ⟨h, h1, h2, _, _⟩ | ⟨x, y, z, h, hx, hy, hz⟩
  · rw [h]
    intro b hb
    rw [List.mem_singleton] at hb
    subst hb
    omega
  · rw [h]
    intro b hb
    simp only [List.mem_cons, List.mem_nil_iff, or_false] at hb
    rcases hb with rfl | rfl | rfl | rfl
    · decide
    · omega
    · omega
    · omega
theorem text_bytes (ls : List (List UInt8)) : ∀ b ∈ text ls, 33 ≤ b.toNat ∧ b.toNat ≤ 126 := by
  intro b hb
  unfold text at hb
  split at hb
  · rw [List.mem_singleton] at hb
    subst hb
    decide
  · obtain ⟨L, _, h2⟩ := List.mem_flatMap.1 hb
    rw [textL] at h2
    rcases List.mem_append.1 h2 with h3 | h3
    · obtain ⟨c, _, h4⟩ := List.mem_flatMap.1 h3
      exact esc_bytes c b h4
    · rw [List.mem_singleton] at h3
      subst h3
      decide
theorem text_word {l : List UInt8} {ls : List (List UInt8)} (h : labels l = some ls) : Ln.Word (text ls) ∧ 10 ∉ text ls ∧ (text ls).length ≤ 1020 := by
  have hb := text_bytes ls
  refine ⟨⟨?_, fun c hc => ⟨?_, ?_⟩⟩, fun hc => ?_, ?_⟩
  · intro e
    unfold text at e
    split at e
    · cases e
    · rename_i h0
      have h1 := (text_bounds ls).1
      rw [e] at h1
      have h2 := enc_length_pos ls
      have h3 : 0 < ls.length := List.length_pos_iff.2 h0
      simp only [List.length_nil] at h1
      omega
  · have := hb c hc
    simp [isGap]
    omega
  · have := hb c hc
    omega
  · have := (hb 10 hc).1
    exact absurd this (by decide)
  · obtain ⟨e, _, hl⟩ := labels_some h
    have h1 := (text_bounds ls).2
    rw [e] at hl
    simp only [wire, List.length_append, List.length_cons, List.length_nil] at hl
    unfold text
    split
    · simp
    · omega
end Nm

/-! ### P9: Lines of names, plain, and the walk of ConsoleNames. Condition: the variables read as the program lays them; the texts are of at most 2^47 bytes. -/
theorem readOne_name {l : List UInt8} {ls : List (List UInt8)} (h : Nm.labels l = some ls) (st : St) : Nu.readOne 35 (Nm.text ls) st = .ok { st with names := st.names ++ [l] } := by
  unfold Nu.readOne
  rw [if_neg (by decide), if_pos rfl, Nm.parse_text h, ← (Nm.labels_some h).1]
theorem cmd_count : cmdOf (txt [99, 111, 117, 110, 116]) cmds = some ⟨⟨#[99, 111, 117, 110, 116]⟩, [35], 37⟩ := by kernel_rfl
theorem cmd_fold : cmdOf (txt [102, 111, 108, 100]) cmds = some ⟨⟨#[102, 111, 108, 100]⟩, [35], 40⟩ := by kernel_rfl
theorem cmd_above : cmdOf (txt [97, 98, 111, 118, 101]) cmds = some ⟨⟨#[97, 98, 111, 118, 101]⟩, [35, 35], 41⟩ := by kernel_rfl
theorem cmd_compare : cmdOf (txt [99, 111, 109, 112, 97, 114, 101]) cmds = some ⟨⟨#[99, 111, 109, 112, 97, 114, 101]⟩, [35, 35], 42⟩ := by kernel_rfl
/-- A line of a command and one name. -/
theorem one_name {l key : List UInt8} {ls : List (List UInt8)} {c : Cmd} (h : Nm.labels l = some ls) (hk : Ln.Word key ∧ 10 ∉ key) (h35 : key.head? ≠ some 35) (hl : key.length ≤ 100) (hc : cmdOf (txt key) cmds = some c) (hr : c.reads = [35]) :
    runE (txt (Ln.joinW [key, Nm.text ls])) = (tellT c.tell ⟨[], [l], []⟩ ++ [10], 0) := by
  have ht := Nm.text_word h
  rw [run_words]
  · rw [tells_line (st := ⟨[], [l], []⟩) hc (by rw [hr]; rfl) (by rw [hr]; simp only [Nu.readAll, readOne_name h, List.nil_append])]
  · intro x hx
    simp only [List.mem_cons, List.mem_nil_iff, or_false] at hx
    rcases hx with rfl | rfl
    · exact hk
    · exact ⟨ht.1, ht.2.1⟩
  · exact h35
  · simp [Ln.joinW]; omega
/-- A line of a command and two names. -/
theorem two_names {l l' key : List UInt8} {ls ls' : List (List UInt8)} {c : Cmd} (h : Nm.labels l = some ls) (h' : Nm.labels l' = some ls') (hk : Ln.Word key ∧ 10 ∉ key) (h35 : key.head? ≠ some 35) (hl : key.length ≤ 100) (hc : cmdOf (txt key) cmds = some c) (hr : c.reads = [35, 35]) :
    runE (txt (Ln.joinW [key, Nm.text ls, Nm.text ls'])) = (tellT c.tell ⟨[], [l, l'], []⟩ ++ [10], 0) := by
  have ht := Nm.text_word h
  have ht' := Nm.text_word h'
  rw [run_words]
  · rw [tells_line (st := ⟨[], [l, l'], []⟩) hc (by rw [hr]; rfl) (by rw [hr]; simp only [Nu.readAll, readOne_name h, readOne_name h', List.nil_append, List.cons_append])]
  · intro x hx
    simp only [List.mem_cons, List.mem_nil_iff, or_false] at hx
    rcases hx with rfl | rfl | rfl
    · exact hk
    · exact ⟨ht.1, ht.2.1⟩
    · exact ⟨ht'.1, ht'.2.1⟩
  · exact h35
  · simp [Ln.joinW]; omega

/-! ### P10: The walk of ConsoleNames. Condition: the variables read as the program lays them; the texts are of at most 2^47 bytes. -/
theorem Nm.cmpL_cases : ∀ x y : List (List UInt8), Nm.cmpL x y = -1 ∨ Nm.cmpL x y = 0 ∨ Nm.cmpL x y = 1
  | [], [] => .inr (.inl rfl)
  | [], _ :: _ => .inl rfl
  | _ :: _, [] => .inr (.inr rfl)
  | x :: r, y :: t => by
    rw [Nm.cmpL]
    split
    · exact Nm.cmpL_cases r t
    · unfold Nm.cmpB
      split
      · exact .inl rfl
      · split
        · exact .inr (.inl rfl)
        · exact .inr (.inr rfl)

set_option maxHeartbeats 2000000 in
set_option maxRecDepth 100000 in
theorem names_no1 (a b : ByteArray) (w : World) (hV : Vars w) (ha : a.size ≤ 140737488355328) (hb : b.size ≤ 140737488355328) (h1 : Nm.labels a.data.toList = none) :
    Calls Tryz.prog 4 #[.string a, .string b] w fun e w' => e = .returned (.bool true) ∧ Below w.heap.size w w' := by
  have hA := Lib.hid (awake_calls w hV)
  have T1 := Lib.hid (fun W => rtext_not a h1 W ha)
  have hT2 : ∀ W, ∃ t c, Calls Tryz.prog 11 #[.string b] W fun e w' => e = .returned (.tuple #[.string t, .int .i64 c]) ∧ Below W.heap.size W w' := fun W => by
    cases h2 : Nm.labels b.data.toList with
    | none => exact ⟨_, _, rtext_not b h2 W hb⟩
    | some lb => exact ⟨_, _, rtext_yes b lb h2 W hb⟩
  have T2 := Lib.hid hT2
  clear h1 hT2 hV
  go_enter Tryz.func4, Tryz.ntmps4
  go_wp2_with fail
  refine hA.out.mono ?_
  rintro e w1 ⟨rfl, b1⟩
  go_wp2_with fail
  refine (T1.out _).mono ?_
  rintro e w2 ⟨rfl, b⟩
  have b2 := b1.trans (b.mono b1.size)
  clear b b1
  go_wp2_with fail
  obtain ⟨t, c, hc⟩ := T2.out w2
  refine hc.mono ?_
  rintro e w3 ⟨rfl, b⟩
  have b3 := b2.trans (b.mono b2.size)
  clear b b2 hc
  go_wp2_with fail
  go_ret
  exact ⟨rfl, b3⟩

set_option maxHeartbeats 2000000 in
set_option maxRecDepth 100000 in
theorem names_no2 (a b : ByteArray) (la : List (List UInt8)) (w : World) (hV : Vars w) (ha : a.size ≤ 140737488355328) (hb : b.size ≤ 140737488355328) (h1 : Nm.labels a.data.toList = some la) (h2 : Nm.labels b.data.toList = none) :
    Calls Tryz.prog 4 #[.string a, .string b] w fun e w' => e = .returned (.bool true) ∧ Below w.heap.size w w' := by
  have hA := Lib.hid (awake_calls w hV)
  have T1 := Lib.hid (fun W => rtext_yes a la h1 W ha)
  have T2 := Lib.hid (fun W => rtext_not b h2 W hb)
  clear h1 h2 hV
  go_enter Tryz.func4, Tryz.ntmps4
  go_wp2_with fail
  refine hA.out.mono ?_
  rintro e w1 ⟨rfl, b1⟩
  go_wp2_with fail
  refine (T1.out _).mono ?_
  rintro e w2 ⟨rfl, b⟩
  have b2 := b1.trans (b.mono b1.size)
  clear b b1
  go_wp2_with fail
  refine (T2.out _).mono ?_
  rintro e w3 ⟨rfl, b⟩
  have b3 := b2.trans (b.mono b2.size)
  clear b b2
  go_wp2_with fail
  go_ret
  exact ⟨rfl, b3⟩

theorem cmpText_len (r : Int) : (Nu.cmpText r).length ≤ 4 := by
  unfold Nu.cmpText
  split
  · simp
  · split <;> simp
theorem name_line1 (k : List UInt8) (t : List UInt8) : txt (k ++ [32]) ++ txt t = txt (Ln.joinW [k, t]) := by
  simp only [txt_append, Ln.joinW, List.append_assoc, List.cons_append, List.nil_append]
theorem name_line2 (k : List UInt8) (t u : List UInt8) : txt (k ++ [32]) ++ txt t ++ ⟨#[32]⟩ ++ txt u = txt (Ln.joinW [k, t, u]) := by
  rw [show (⟨#[32]⟩ : ByteArray) = txt [32] from rfl]
  simp only [txt_append, Ln.joinW, List.append_assoc, List.cons_append, List.nil_append]

set_option maxHeartbeats 4000000 in
set_option maxRecDepth 100000 in
theorem names_yes (a b : ByteArray) (la lb : List (List UInt8)) (w : World) (hV : Vars w) (ha : a.size ≤ 140737488355328) (hb : b.size ≤ 140737488355328) (h1 : Nm.labels a.data.toList = some la) (h2 : Nm.labels b.data.toList = some lb) :
    Calls Tryz.prog 4 #[.string a, .string b] w fun e w' => e = .returned (.bool true) ∧ Below w.heap.size w w' := by
  have hA := Lib.hid (awake_calls w hV)
  have h8 := hV.size
  have HV := Lib.hid hV
  have hll : la.length ≤ 255 := by have h3 := Nm.labels_some h1; have h2 := Nm.enc_length_pos la; have h4 := h3.2.2; rw [h3.1] at h4; simp only [Nm.wire, List.length_append, List.length_cons, List.length_nil] at h4; omega
  have hlf := Nm.labels_fold h1
  have T1 := fun W => rtext_yes a la h1 W ha
  have T2 := fun W => rtext_yes b lb h2 W hb
  have F1 := fun W => rfold_calls a la h1 W ha
  have T3 := fun W => rtext_yes (txt (Nm.wire (Nm.foldLs la))) (Nm.foldLs la) (by rw [txt_data]; exact hlf) W (by rw [txt_size]; have := (Nm.labels_some hlf).2.2; omega)
  have CM := fun W => rcompare_calls a b la lb h1 h2 W ha hb
  have N1 := fun W => rcount_calls a la h1 W ha
  have D1 := fun W => decimal_calls la.length (by omega) W
  have AB := fun W => rabove_calls a b la lb h1 h2 W ha hb
  have YE := fun W => yes_calls (Nm.above a.data.toList b.data.toList) W
  have O1 := fun W hV => one_calls _ (Lib.itoa (la.length : Int)) ((one_name h1 (word_of (by decide)) (by simp) (by simp) cmd_count rfl).trans (by congr 2; show Lib.itoa (Nm.count a.data.toList : Int) = _; rw [Nm.count, h1])) (by have := itoa_len (la.length : Int) (by omega) (by omega); omega) W hV
  have O2 := fun W hV => one_calls _ (Nm.text (Nm.foldLs la)) ((one_name h1 (word_of (by decide)) (by simp) (by simp) cmd_fold rfl).trans (by
    congr 2
    show Nu.told (Nm.textE (Nm.fold a.data.toList)).1 (Nm.textE (Nm.fold a.data.toList)).2 = _
    have hfa : Nm.fold a.data.toList = Nm.wire (Nm.foldLs la) := by rw [Nm.fold, h1]
    have hte : Nm.textE (Nm.fold a.data.toList) = (Nm.text (Nm.foldLs la), 0) := by rw [hfa, Nm.textE, hlf]
    rw [hte]; rfl)) (by have := (Nm.text_word hlf).2.2; omega) W hV
  have O3 := fun W hV => one_calls _ (if Nm.above a.data.toList b.data.toList = true then [121, 101, 115] else [110, 111]) ((two_names h1 h2 (word_of (by decide)) (by simp) (by simp) cmd_above rfl).trans rfl) (by split <;> simp) W hV
  have O4 := fun W hV => one_calls _ (Nu.cmpText (Nm.compare a.data.toList b.data.toList)) ((two_names h1 h2 (word_of (by decide)) (by simp) (by simp) cmd_compare rfl).trans rfl) (Nat.le_trans (cmpText_len _) (by decide)) W hV
  rw [← name_line1, show txt ([99, 111, 117, 110, 116] ++ [32]) = (⟨#[99, 111, 117, 110, 116, 32]⟩ : ByteArray) from rfl] at O1
  rw [← name_line1, show txt ([102, 111, 108, 100] ++ [32]) = (⟨#[102, 111, 108, 100, 32]⟩ : ByteArray) from rfl] at O2
  rw [← name_line2, show txt ([97, 98, 111, 118, 101] ++ [32]) = (⟨#[97, 98, 111, 118, 101, 32]⟩ : ByteArray) from rfl] at O3
  rw [← name_line2, show txt ([99, 111, 109, 112, 97, 114, 101] ++ [32]) = (⟨#[99, 111, 109, 112, 97, 114, 101, 32]⟩ : ByteArray) from rfl] at O4
  have hcases : Nm.compare a.data.toList b.data.toList = -1 ∨ Nm.compare a.data.toList b.data.toList = 0 ∨ Nm.compare a.data.toList b.data.toList = 1 := Nm.cmpL_cases _ _
  have z1 : (txt (Nm.text la)).size ≤ 1020 := by rw [txt_size]; exact (Nm.text_word h1).2.2
  have z2 : (txt (Nm.text lb)).size ≤ 1020 := by rw [txt_size]; exact (Nm.text_word h2).2.2
  generalize Nm.compare a.data.toList b.data.toList = r at *
  generalize Nm.above a.data.toList b.data.toList = ab at *
  generalize txt (if ab = true then [121, 101, 115] else [110, 111]) = Y at *
  generalize txt (Nm.text la) = S at *
  generalize txt (Nm.text lb) = T at *
  generalize txt (Nm.text (Nm.foldLs la)) = U at *
  generalize txt (Lib.itoa (la.length : Int)) = C at *
  generalize txt (Nm.wire (Nm.foldLs la)) = FA at *
  have T1 := Lib.hid T1
  have T2 := Lib.hid T2
  have T3 := Lib.hid T3
  have F1 := Lib.hid F1
  have CM := Lib.hid CM
  have N1 := Lib.hid N1
  have D1 := Lib.hid D1
  have AB := Lib.hid AB
  have YE := Lib.hid YE
  have O1 := Lib.hid O1
  have O2 := Lib.hid O2
  have O3 := Lib.hid O3
  have O4 := Lib.hid O4
  clear h1 h2 hlf hV
  have hrow : ∃ k : Nat, k < 3 ∧ r + 1 = (k : Int) ∧ #[Value.string ⟨#[108, 101, 115, 115]⟩, Value.string ⟨#[115, 97, 109, 101]⟩, Value.string ⟨#[109, 111, 114, 101]⟩][k]? = some (Value.string (txt (Nu.cmpText r))) := by
    rcases hcases with rfl | rfl | rfl
    · exact ⟨0, by decide, rfl, rfl⟩
    · exact ⟨1, by decide, rfl, rfl⟩
    · exact ⟨2, by decide, rfl, rfl⟩
  obtain ⟨k, hk3, hrk, hget⟩ := hrow
  generalize txt (Nu.cmpText r) = R at *
  obtain rfl : r = (k : Int) - 1 := by omega
  have q1 : ((k : Int) < 3) = True := by simp; omega
  have q2 : wrap64 ((k : Int) - 1 + 1) = (k : Int) := by unfold wrap64; omega
  have q3 : IntKind.i64.wrap ((k : Int) - 1 + 1) = (k : Int) := by rw [IntWalk.i64_in _ (by omega)]; omega
  have HGET := Lib.hid hget
  clear hcases hrk hget
  go_enter Tryz.func4, Tryz.ntmps4
  go_wp2_with fail
  refine hA.out.mono ?_
  rintro e w1 ⟨rfl, b1⟩
  go_wp2_with fail
  refine (T1.out _).mono ?_
  rintro e w2 ⟨rfl, b⟩
  have b2 := b1.trans (b.mono b1.size)
  clear b b1
  go_wp2_with fail
  refine (T2.out _).mono ?_
  rintro e w3 ⟨rfl, b⟩
  have b3 := b2.trans (b.mono b2.size)
  clear b b2
  go_wp2_with fail
  refine (F1.out _).mono ?_
  rintro e w4 ⟨rfl, b⟩
  have b4 := b3.trans (b.mono b3.size)
  clear b b3
  go_wp2_with fail
  refine (T3.out _).mono ?_
  rintro e w5 ⟨rfl, b⟩
  have b5 := b4.trans (b.mono b4.size)
  clear b b4
  go_wp2_with fail
  refine (CM.out _).mono ?_
  rintro e w6 ⟨rfl, b⟩
  have b6 := (b5.alloc b5.size _).trans (b.mono (by have := b5.size; simp; omega))
  have cr : w6.cell? ⟨w5.heap.size, k, none⟩ = some (.string R) := by
    rw [b.cell (p := ⟨w5.heap.size, k, none⟩) (by simp), Lib.cell_of_heap (heap_alloc_new w5 _)]
    exact HGET.out
  clear b b5
  go_wp2_with fail
  refine (O1.out _ (HV.out.below b6 h8)).mono ?_
  rintro e w7 ⟨rfl, b⟩
  have b7 := b6.trans (b.mono b6.size)
  clear b b6
  go_wp2_with fail
  refine (N1.out _).mono ?_
  rintro e w8 ⟨rfl, b⟩
  have b8 := b7.trans (b.mono b7.size)
  clear b b7
  go_wp2_with fail
  refine (D1.out _).mono ?_
  rintro e w9 ⟨rfl, b⟩
  have b9 := b8.trans (b.mono b8.size)
  clear b b8
  go_wp2_with fail
  refine (O2.out _ (HV.out.below b9 h8)).mono ?_
  rintro e w10 ⟨rfl, b⟩
  have b10 := b9.trans (b.mono b9.size)
  clear b b9
  go_wp2_with fail
  refine (O3.out _ (HV.out.below b10 h8)).mono ?_
  rintro e w11 ⟨rfl, b⟩
  have b11 := b10.trans (b.mono b10.size)
  clear b b10
  go_wp2_with fail
  refine (AB.out _).mono ?_
  rintro e w12 ⟨rfl, b⟩
  have b12 := b11.trans (b.mono b11.size)
  clear b b11
  go_wp2_with fail
  refine (YE.out _).mono ?_
  rintro e w13 ⟨rfl, rfl⟩
  go_wp2_with fail
  refine (O4.out _ (HV.out.below b12 h8)).mono ?_
  rintro e w14 ⟨rfl, b⟩
  have b14 := b12.trans (b.mono b12.size)
  clear b b12
  go_wp2_with fail
  go_ret
  exact ⟨rfl, b14⟩

theorem lawNames_calls (a b : ByteArray) (w : World) (hV : Vars w) (ha : a.size ≤ 140737488355328) (hb : b.size ≤ 140737488355328) :
    Calls Tryz.prog 4 #[.string a, .string b] w fun e w' => e = .returned (.bool true) ∧ Below w.heap.size w w' := by
  cases h1 : Nm.labels a.data.toList with
  | none => exact names_no1 a b w hV ha hb h1
  | some la =>
    cases h2 : Nm.labels b.data.toList with
    | none => exact names_no2 a b la w hV ha hb h1 h2
    | some lb => exact names_yes a b la lb w hV ha hb h1 h2
end Go.Proofs.YtolbfeggceemfaaGreatDoor
