/-
  The walks of package name: Places, Labels, Count, May, Text, escaped, loose, Parse: each returns what the plain functions on lists of bytes say. Condition: the text is of at most 2^47 bytes.
-/
import Derived.Test.YtolbfeggceemfaaGreatDoorB0
import Derived.Test.YtolbfeggceemfaaGreatDoorA0
import Derived.Deep.RegionHeld3
import Derived.Deep.AppendLies
import Derived.IntWalk
namespace Go.Proofs.YtolbfeggceemfaaGreatDoor
open Go.RowKit

def PlacesPost (s : ByteArray) (w : World) (e : Ending) (w' : World) : Prop :=
  ∃ v ps, e = .returned (.tuple #[v, .bool (Nm.labels s.data.toList).isSome]) ∧ w'.ownsRow w.heap.size 3 1 v ps.length (i64s ps) ∧ Below w.heap.size w w' ∧
    (∀ ls, Nm.labels s.data.toList = some ls → ps = Nm.offs 0 ls) ∧ (s.size = 0 → ps = [])

theorem places_long (s : ByteArray) (w : World) (hs : 255 < s.size) (hm : s.size ≤ 140737488355328) :
    Calls Tryz.prog 57 #[.string s] w (PlacesPost s w) := by
  have hno : Aside (Nm.labels s.data.toList = none) := by
    unfold Nm.labels
    rw [if_neg (by simp; omega)]
    rfl
  go_enter Tryz.func57, Tryz.ntmps57
  go_wp2
  go_step3
  go_wp2
  rw [Exit.noGoto_ret]
  go_ret2
  exact ⟨.slice none 0 0, [], by rw [hno.out]; rfl, World.ownsRow_nil _ _ _ _, Below.refl _ _, by rw [hno.out]; simp, fun _ => rfl⟩

set_option maxHeartbeats 800000 in
set_option maxRecDepth 100000 in
theorem places_any (s : ByteArray) (w : World) (hs : s.size ≤ 255) :
    Calls Tryz.prog 57 #[.string s] w (PlacesPost s w) := by
  obtain ⟨i0, hi, hz0, hz1, hz2⟩ := info_parts Tryz.info3
  go_enter Tryz.func57, Tryz.ntmps57
  go_wp2
  go_step3
  go_wp2
  go_step3
  go_wp2
  go_loopg [4, 5] (s.size + 1) (fun g v4 v5 wx => ∃ (p : Nat) (ps : List Nat) (f : Nat), v5 = .int .i64 p ∧ p ≤ s.size + 63 ∧ s.size + 1 ≤ p + g ∧ ps.length ≤ p ∧
    wx.ownsRow w.heap.size 3 1 v4 ps.length (i64s ps) ∧ Below w.heap.size w wx ∧ s.size - p < f ∧ (s.size = 0 → ps = []) ∧
    Aside ((Nm.labs f (s.data.toList.drop p)).map (fun ls => ps ++ Nm.offs p ls) = (Nm.labels s.data.toList).map (Nm.offs 0)))
  case atStart => 
    refine ⟨0, [], s.size + 1, rfl, by omega, by omega, by simp, World.ownsRow_nil _ _ _ _, Below.refl _ _, by omega, fun _ => rfl, ?_⟩
    show _ = _
    rw [List.drop_zero, Nm.labels, if_pos (by simp; omega)]
    simp
  case round =>
    obtain ⟨p, ps, f, rfl, hp, hpg, hpl, hown, hb, hf, hz, HA⟩ := hrel
    have hbs := hb.size
    by_cases hlt : p < s.size
    · clear hz
      have hc : s[p].toNat < 256 := UInt8.toNat_lt _
      have hdrop : Aside (s.data.toList.drop p = s[p] :: s.data.toList.drop (p + 1)) := by
        show _ = _
        rw [List.drop_eq_getElem_cons (by simpa using hlt)]; rfl
      obtain ⟨f, rfl⟩ : ∃ f', f = f' + 1 := ⟨f - 1, by omega⟩
      go_wp2_with (at_builtin; refine wpList_append_own _ rfl _ _ 40 rfl (w.heap.size) 3 i0 (.int .i64 0) 1 8 Tryz.underlying40 hi hz0 hz1 hz2 rfl (by decide) _ _ _ rfl (hown.alloc _) ⟨wr.heap.size, 0, none⟩ 1 1 [.int .i64 (p : Int)] rfl rfl (one_new _ _ _ rfl) (by simp; rfl) (by unfold maxLen; omega) (by omega) (by simp; omega) ?_; intro v' w1 hown1 hgrow _)
      · -- the end's byte
        rename_i h0 _
        have hb1 := below_app hb (Nat.le_refl _) hbs hown hgrow
        rw [Exit.noGoto_ret]
        go_ret2
        have h0' : s[p].toNat = 0 := by simpa using h0
        have H := HA.out
        rw [hdrop.out, Nm.labs, if_pos h0'] at H
        have hown2 : w1.ownsRow w.heap.size 3 1 v' (ps ++ [p]).length (i64s (ps ++ [p])) := own_i64 hown1
        refine ⟨v', ps ++ [p], ?_, hown2, hb1, ?_, by omega⟩
        · by_cases hr : s.data.toList.drop (p + 1) = []
          · rw [if_pos hr] at H
            have hp1 : s.size ≤ p + 1 := by simpa using hr
            have : (Nm.labels s.data.toList).isSome = true := by
              cases h : Nm.labels s.data.toList with
              | none => rw [h] at H; cases H
              | some _ => rfl
            exact ret_vb (by rw [this]; simp; omega)
          · rw [if_neg hr] at H
            have hp1 : p + 1 < s.size := by simpa using hr
            have : (Nm.labels s.data.toList).isSome = false := by
              cases h : Nm.labels s.data.toList with
              | none => rfl
              | some _ => rw [h] at H; cases H
            exact ret_vb (by rw [this]; simp; omega)
        · intro ls hls
          rw [hls] at H
          by_cases hr : s.data.toList.drop (p + 1) = []
          · rw [if_pos hr] at H
            simpa [Nm.offs] using H
          · rw [if_neg hr] at H; cases H
      · rename_i h0 h6
        have hb1 := below_app hb (Nat.le_refl _) hbs hown hgrow
        rw [Exit.noGoto_ret]
        go_ret2
        have h0' : ¬ s[p].toNat = 0 := by simpa using h0
        have h6' : 63 < s[p].toNat := by omega
        have H := HA.out
        rw [hdrop.out, Nm.labs, if_neg h0', if_pos h6'] at H
        have : Nm.labels s.data.toList = none := by
          cases h : Nm.labels s.data.toList with
          | none => rfl
          | some _ => rw [h] at H; cases H
        exact ⟨.slice none 0 0, [], by rw [this]; rfl, World.ownsRow_nil _ _ _ _, hb1, by rw [this]; simp, fun _ => rfl⟩
      · rename_i h0 h6
        have h0' : ¬ s[p].toNat = 0 := by simpa using h0
        have h6' : ¬ 63 < s[p].toNat := by omega
        have H := HA.out
        rw [hdrop.out, Nm.labs, if_neg h0', if_neg h6', List.drop_drop] at H
        go_roundg (gk - 1)
        case measure => omega
        case rel => 
          refine ⟨p + (1 + s[p].toNat), ps ++ [p], f, ?_, by omega, by omega, by simp; omega, ?_, below_app hb (Nat.le_refl _) hbs hown hgrow, by omega, by omega, ?_⟩
          · simp
          · exact own_i64 hown1
          · show _ = _
            rw [← H, show p + (1 + s[p].toNat) = p + 1 + s[p].toNat from by omega]
            cases hl : Nm.labs f (List.drop (p + 1 + s[p].toNat) s.data.toList) with
            | none => rfl
            | some ls =>
              have hlen : (List.take s[p].toNat (List.drop (p + 1) s.data.toList)).length = s[p].toNat := by
                have : (List.drop (p + 1 + s[p].toNat) s.data.toList).length ≠ 0 := by rw [(Nm.labs_some _ _ _ hl).1]; simp [Nm.wire]
                simp at this ⊢
                omega
              simp [Nm.offs, hlen, show p + (1 + s[p].toNat) = p + 1 + s[p].toNat from by omega]
    · have H := HA.out
      have hno : Aside (Nm.labels s.data.toList = none) := by
        show _ = _
        rw [List.drop_eq_nil_of_le (by simp; omega)] at H
        cases f with
        | zero => omega
        | succ f =>
          cases h : Nm.labels s.data.toList with
          | none => rfl
          | some _ => rw [h] at H; cases H
      clear H HA
      have HZ : Hid (s.size = 0 → ps = []) := hz
      clear hz
      go_wp2
      all_goals (rw [Exit.noGoto_ret]; go_ret2; exact ⟨u4, ps, ret_vb (by rw [hno.out]; simp; try omega), hown, hb, by rw [hno.out]; simp, HZ.out⟩)

theorem places_calls (s : ByteArray) (w : World) (hm : s.size ≤ 140737488355328) : Calls Tryz.prog 57 #[.string s] w (PlacesPost s w) := by
  by_cases hs : s.size ≤ 255
  · exact places_any s w hs
  · exact places_long s w (by omega) hm
theorem labels_no (s : ByteArray) (h : Nm.labels s.data.toList = none) (w : World) (hm : s.size ≤ 140737488355328) :
    Calls Tryz.prog 57 #[.string s] w fun e w' => ∃ v, e = .returned (.tuple #[v, .bool false]) ∧ Below w.heap.size w w' :=
  (places_calls s w hm).mono fun e w' ⟨v, ps, he, _, hb, _, _⟩ => ⟨v, by rw [he, h]; rfl, hb⟩

/-- A name's places: an owned list, by its address. -/
def PlacesYes (ls : List (List UInt8)) (w : World) (e : Ending) (w' : World) : Prop :=
  ∃ g cap, e = .returned (.tuple #[.slice (some ⟨g, 0, none⟩) (ls.length + 1) cap, .bool true]) ∧ w.heap.size ≤ g ∧ g < w'.heap.size ∧ w'.ownsRow w.heap.size 3 1 (.slice (some ⟨g, 0, none⟩) (ls.length + 1) cap) (ls.length + 1) (i64s (Nm.offs 0 ls)) ∧
    (∀ (j p : Nat), (Nm.offs 0 ls)[j]? = some p → w'.cell? ⟨g, j, none⟩ = some (.int .i64 (p : Int))) ∧ Below w.heap.size w w'

theorem places_yes (s : ByteArray) (ls : List (List UInt8)) (h : Nm.labels s.data.toList = some ls) (w : World) (hm : s.size ≤ 140737488355328) :
    Calls Tryz.prog 57 #[.string s] w (PlacesYes ls w) := by
  refine (places_calls s w hm).mono ?_
  rintro e w' ⟨v, ps, he, hown, hb, hps, _⟩
  obtain rfl := hps ls h
  rw [Nm.offs_length] at hown
  obtain ⟨g, cap, rfl, hg, hlt, hc⟩ := own_at hown (by omega)
  exact ⟨g, cap, by rw [he, h]; rfl, hg, hlt, hown, fun j p hj => hc j _ (by simp [i64s, hj]), hb⟩

/-- How many labels; of what is no name: none. -/
def Nm.count (l : List UInt8) : Nat := match Nm.labels l with | some ls => ls.length | none => 0

theorem count_calls (s : ByteArray) (w : World) (hm : s.size ≤ 140737488355328) :
    Calls Tryz.prog 39 #[.string s] w fun e w' => e = .returned (.int .i64 (Nm.count s.data.toList : Int)) ∧ Below w.heap.size w w' := by
  cases h : Nm.labels s.data.toList with
  | none =>
    have hc : Aside ((Nm.count s.data.toList : Int) = 0) := by show _ = _; simp [Nm.count, h]
    have H := Lib.hid h
    clear h
    go_enter Tryz.func39, Tryz.ntmps39
    go_wp2_with (go_at_call 57; refine (labels_no s H.out _ hm).mono ?_; rintro e w1 ⟨v, rfl, hb⟩)
    go_ret
    exact ⟨by rw [hc.out]; rfl, hb⟩
  | some ls =>
    have hc : Aside ((Nm.count s.data.toList : Int) = ls.length) := by show _ = _; simp [Nm.count, h]
    have hl : ls.length ≤ 255 := by have := Nm.labels_some h; have h2 := Nm.enc_length_pos ls; rw [this.1] at this; simp [Nm.wire] at this; omega
    have H := Lib.hid h
    clear h
    go_enter Tryz.func39, Tryz.ntmps39
    go_wp2_with (go_at_call 57; refine (places_yes s ls H.out _ hm).mono ?_; rintro e w1 ⟨g, cap, rfl, hg, hlt, hown, hcell, hb⟩; have HC := Lib.hid hcell; clear hcell)
    go_ret
    exact ⟨by rw [hc.out]; simp, hb⟩

theorem may_calls (s : ByteArray) (w : World) (hm : s.size ≤ 140737488355328) :
    Calls Tryz.prog 82 #[.string s] w fun e w' => e = .returned (.bool (Nm.labels s.data.toList).isSome) ∧ Below w.heap.size w w' := by
  go_enter Tryz.func82, Tryz.ntmps82
  go_wp2_with (go_at_call 57; refine (places_calls s _ hm).mono ?_; rintro e w1 ⟨v, ps, rfl, hown, hb, hps, hz⟩; clear hps hz)
  go_ret
  exact ⟨rfl, hb⟩

def LabelsYes (ls : List (List UInt8)) (w : World) (e : Ending) (w' : World) : Prop :=
  ∃ v, e = .returned (.tuple #[v, .bool true]) ∧ w'.ownsRow w.heap.size 9 1 v ls.length (strs ls) ∧ Below w.heap.size w w'

theorem own_str {w : World} {B : Nat} {v : Value} {ls : List (List UInt8)} {l : List UInt8} (h : w.ownsRow B 9 1 v (ls.length + 1) (strs ls ++ [.string (txt l)])) : w.ownsRow B 9 1 v (ls ++ [l]).length (strs (ls ++ [l])) := by
  rw [strs_append, List.length_append]; exact h

set_option maxHeartbeats 1000000 in
set_option maxRecDepth 100000 in
theorem labels_yes (s : ByteArray) (ls : List (List UInt8)) (h : Nm.labels s.data.toList = some ls) (w : World) (hm : s.size ≤ 140737488355328) :
    Calls Tryz.prog 77 #[.string s] w (LabelsYes ls w) := by
  obtain ⟨i0, hi, hz0, hz1, hz2⟩ := info_parts Tryz.info9
  have hfacts := Nm.labels_some h
  have hsz : s.size = (Nm.wire ls).length := by rw [← hfacts.1]; simp
  have h255 : s.size ≤ 255 := by have := hfacts.2.2; simpa using this
  have hll : ls.length ≤ 255 := by have h2 := Nm.enc_length_pos ls; simp [Nm.wire] at hsz; omega
  have HF := Lib.hid hfacts
  have H := Lib.hid h
  have HS := Lib.hid hsz
  clear hfacts h hsz
  go_enter Tryz.func77, Tryz.ntmps77
  go_wp2_with (go_at_call 57; refine (places_yes s ls H.out _ hm).mono ?_; rintro e w1 ⟨g, cap, rfl, hg, hlt, hown, hcell, hb⟩; have HC := Lib.hid hcell; clear hcell hown)
  go_loopg [6, 7] ls.length (fun gg v6 v7 wx => ∃ (k : Nat), v7 = .int .i64 ((k : Int) + 1) ∧ k + gg = ls.length ∧ wx.ownsRow w1.heap.size 9 1 v6 k (strs (ls.take k)) ∧ Below w1.heap.size w1 wx)
  case atStart => exact ⟨0, rfl, by omega, by simpa [strs] using World.ownsRow_nil w1 w1.heap.size 9 1, Below.refl _ _⟩
  case round =>
    obtain ⟨k, rfl, hk, hown, hbx⟩ := hrel
    cases gk with
    | zero =>
      have : k = ls.length := by omega
      subst this
      go_wp2
      go_ret2
      rw [List.take_length] at hown
      exact ⟨u6, rfl, own_mono hown hb.size, hb.trans (hbx.mono hb.size)⟩
    | succ g1 =>
      have hk' : k < ls.length := by omega
      obtain ⟨a, ha⟩ : ∃ a, (Nm.enc (ls.take k)).length = a := ⟨_, rfl⟩
      obtain ⟨b, hb'⟩ : ∃ b, (Nm.enc (ls.take (k + 1))).length = b := ⟨_, rfl⟩
      have hca : wr.cell? ⟨g, k, none⟩ = some (.int .i64 (a : Int)) := by
        rw [hbx.cell (p := ⟨g, k, none⟩) hlt]
        exact HC.out k a (by rw [Nm.offs_get _ _ _ (by omega), ha]; simp)
      have hcb : wr.cell? ⟨g, k + 1, none⟩ = some (.int .i64 (b : Int)) := by
        rw [hbx.cell (p := ⟨g, k + 1, none⟩) hlt]
        exact HC.out (k + 1) b (by rw [Nm.offs_get _ _ _ (by omega), hb']; simp)
      have hab : b = a + (1 + (ls[k]).length) := by rw [← ha, ← hb']; exact Nm.enc_take_succ ls k hk'
      have hbs : b < s.size := by rw [HS.out, ← hb']; have := Nm.enc_take_le ls (k + 1); simp [Nm.wire]; omega
      have hext : s.extract (a + 1) b = txt ls[k] := by
        refine ByteArray.ext (Array.toList_inj.1 ?_)
        have hw := Nm.wire_label ls k hk'
        rw [ha] at hw
        rw [Lib.extract_data, HF.out.1, txt_data, show b - (a + 1) = ls[k].length from by omega]
        exact hw
      have hab1 : a + 1 ≤ b := by omega
      have hne : u6.ownBlock ≠ some g := fun e => by have := (hown.lt g e).1; omega
      have hbxs := hbx.size
      have HE := Lib.hid hext
      have HAB := Lib.hid hab
      clear hab hext ha hb'
      have q0 : (0 : Int) ≤ (k : Int) := Int.natCast_nonneg _
      have q1 : (k : Int) < (ls.length : Int) + 1 := by omega
      have q2 : (0 : Int) ≤ (k : Int) + 1 := by omega
      have q3 : (k : Int) + 1 < (ls.length : Int) + 1 := by omega
      have q4 : IntKind.i64.wrap (k : Int) = (k : Int) := IntWalk.i64_in _ (by omega)
      have q5 : IntKind.i64.wrap ((a : Int) + 1) = (a : Int) + 1 := IntWalk.i64_in _ (by omega)
      have q6 : (0 : Int) ≤ (a : Int) + 1 := by omega
      have q7 : (a : Int) + 1 ≤ (b : Int) := by omega
      have q8 : (b : Int) ≤ (s.size : Int) := by omega
      have q9 : ((a : Int) + 1).toNat = a + 1 := by omega
      have q10 : ((k : Int) + 1).toNat = k + 1 := by omega
      go_wp2_with fail
      go_region_held3 (fun w' => w'.cell? ⟨g, k, none⟩ = some (.int .i64 (a : Int)) ∧ w'.cell? ⟨g, k + 1, none⟩ = some (.int .i64 (b : Int)))
        (first
          | go_keep
          | (go_split_ands
             refine ⟨?_, ?_⟩
             · (rw [hgrow.cell_far (a := ⟨g, k, none⟩) (by simp; omega) (Ne.symm hne)]; assumption)
             · (rw [hgrow.cell_far (a := ⟨g, k + 1, none⟩) (by simp; omega) (Ne.symm hne)]; assumption)))
        ((go_loud (refine step_append_lies _ (by rfl) _ _ _ (by rfl) w1.heap.size 9 i0 _ 1 16 Tryz.underlying31 hi hz0 hz1 hz2 rfl (by omega) _ k (strs (ls.take k)) (by rfl) ((hown.alloc _).drew) ⟨wr.heap.size, 0, none⟩ 1 1 [.string (s.extract (a + 1) b)] (by rfl) (by rfl) (World.news_of_block (cs := #[.string (s.extract (a + 1) b)]) (t := 9) (fr := (0, 0)) (heap_alloc_new wr _)) (by simp [Value.oneCell']) (by omega) (by unfold maxLen; omega) (by omega) (by simp; omega) (wr.heap.size + 1) (by simp) ?_); intro gg cap2 w2 hown2 hgrow hat hlt2))
      go_wp2
      go_roundg g1
      case measure => omega
      case rel =>
        refine ⟨k + 1, by simp, by omega, ?_, ?_⟩
        · rw [List.take_succ_eq_append_getElem hk', strs_append]
          rw [HE.out] at hown2
          exact hown2
        · exact ((hbx.alloc hbxs _).drew).grown hgrow (by simp; omega) (fun j hj => by have := (hown.lt j hj).1; omega)

theorem labels_not (s : ByteArray) (h : Nm.labels s.data.toList = none) (w : World) (hm : s.size ≤ 140737488355328) :
    Calls Tryz.prog 77 #[.string s] w fun e w' => e = .returned (.tuple #[.slice none 0 0, .bool false]) ∧ Below w.heap.size w w' := by
  have H := Lib.hid h
  clear h
  go_enter Tryz.func77, Tryz.ntmps77
  go_wp2_with (go_at_call 57; refine (labels_no s H.out _ hm).mono ?_; rintro e w1 ⟨v, rfl, hb⟩)
  go_ret2
  exact ⟨rfl, hb⟩

end Go.Proofs.YtolbfeggceemfaaGreatDoor
