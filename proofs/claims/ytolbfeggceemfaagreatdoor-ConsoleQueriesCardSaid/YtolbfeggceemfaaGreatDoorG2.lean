/-
  The walks of rdata.Ends, texts, soa, May. Condition: the data is of at most 100000 bytes.
-/
import Derived.Test.YtolbfeggceemfaaGreatDoorB0
import Derived.Test.YtolbfeggceemfaaGreatDoorN1
namespace Go.Proofs.YtolbfeggceemfaaGreatDoor
open Go.RowKit
namespace Rd
/-- Where the name ends that begins data; -1: none does. -/
def endsGo (l : List UInt8) : Nat → Nat → Int
  | 0, _ => -1
  | f + 1, i => if i < l.length ∧ i < 255 then
      (if (l.getD i 0).toNat = 0 then (if (Nm.labels (l.take (i + 1))).isSome = true then (i : Int) + 1 else -1) else endsGo l f (i + (1 + (l.getD i 0).toNat)))
    else -1
def ends (l : List UInt8) : Int := endsGo l 256 0
theorem endsGo_range (l : List UInt8) : ∀ f i, -1 ≤ endsGo l f i ∧ endsGo l f i ≤ 255 ∧ endsGo l f i ≤ l.length
  | 0, _ => by simp [endsGo]
  | f + 1, i => by
    unfold endsGo
    split
    · split
      · split
        · omega
        · omega
      · exact endsGo_range l f _
    · omega
end Rd

set_option maxHeartbeats 2000000 in
set_option maxRecDepth 100000 in
theorem ends_calls (s : ByteArray) (w : World) :
    Calls Tryz.prog 158 #[.string s] w fun e w' => e = .returned (.int .i64 (Rd.ends s.data.toList)) ∧ Below w.heap.size w w' := by
  obtain ⟨o, ho⟩ : ∃ o, Rd.ends s.data.toList = o := ⟨_, rfl⟩
  rw [ho]
  rw [Rd.ends] at ho
  have HO := Lib.hid ho
  clear ho
  go_enter Tryz.func158, Tryz.ntmps158
  go_wp2
  go_loopg [3] 256 (fun gg v3 wx => ∃ (i f : Nat), v3 = .int .i64 (i : Int) ∧ i ≤ 1000 ∧ 255 - i < gg ∧ 255 - i < f ∧ w = wx ∧ Aside (Rd.endsGo s.data.toList f i = o))
  case atStart => exact ⟨0, 256, rfl, by omega, by omega, by omega, rfl, HO.out⟩
  case round =>
    obtain ⟨i, f, rfl, hi, hg, hf, rfl, HA⟩ := hrel
    obtain ⟨f, rfl⟩ : ∃ f', f = f' + 1 := ⟨f - 1, by omega⟩
    have hst := HA.out
    rw [Rd.endsGo, ← Lib.size_eq] at hst
    by_cases h1 : i < s.size
    · have q1 : ((i : Int) < (s.size : Int)) = True := by simp; omega
      by_cases h2 : i < 255
      · have q2 : ((i : Int) < 255) = True := by simp; omega
        have hgd : s.data.toList.getD i 0 = s[i] := by
          rw [List.getD_eq_getElem?_getD, List.getElem?_eq_getElem (by simpa using h1)]; rfl
        have hk256 := UInt8.toNat_lt s[i]
        rw [if_pos ⟨h1, h2⟩, hgd] at hst
        by_cases hk0 : s[i].toNat = 0
        · rw [if_pos hk0] at hst
          have qk : ((s[i].toNat : Int) == 0) = true := by simp; omega
          have hm := may_calls (s.extract 0 (i + 1)) w (by simp only [ByteArray.size_extract]; omega)
          have hex : (s.extract 0 (i + 1)).data.toList = s.data.toList.take (i + 1) := by rw [Lib.extract_data]; simp
          rw [hex] at hm
          obtain ⟨j, hj⟩ : ∃ j, i + 1 = j := ⟨_, rfl⟩
          have e1 : (i : Int) + 1 = (j : Int) := by omega
          have hjs : (j : Int) ≤ (s.size : Int) := by omega
          rw [hj] at hm hst
          rw [e1] at hst
          generalize (Nm.labels (List.take j s.data.toList)).isSome = r at *
          have HM := Lib.hid hm
          have HST := Lib.hid hst
          clear hst hm hk0 hgd hex hj
          cases r with
          | true =>
            go_wp2_with (go_at_call 82; refine HM.out.mono ?_; rintro e w1 ⟨rfl, hb⟩)
            go_ret
            rw [← HST.out]
            exact ⟨rfl, hb⟩
          | false =>
            go_wp2_with (go_at_call 82; refine HM.out.mono ?_; rintro e w1 ⟨rfl, hb⟩)
            go_ret
            rw [← HST.out]
            exact ⟨rfl, hb⟩
        · rw [if_neg hk0] at hst
          have qk : ((s[i].toNat : Int) == 0) = false := by simp; omega
          obtain ⟨j, hj⟩ : ∃ j, i + (1 + s[i].toNat) = j := ⟨_, rfl⟩
          have e1 : (i : Int) + (1 + (s[i].toNat : Int)) = (j : Int) := by omega
          rw [hj] at hst
          have HST := Lib.hid hst
          have hj1 : i < j := by omega
          have hj2 : j ≤ 1000 := by omega
          clear hst hk0 hgd hj
          go_wp2
          go_roundg (gk - 1)
          case measure => omega
          case rel => exact ⟨j, f, rfl, hj2, by omega, by omega, rfl, HST.out⟩
      · have q2 : ((i : Int) < 255) = False := by simp; omega
        rw [if_neg (by omega)] at hst
        have HST := Lib.hid hst
        clear hst h2
        go_wp2
        go_ret
        rw [← HST.out]
        exact ⟨rfl, Below.refl _ _⟩
    · have q1 : ((i : Int) < (s.size : Int)) = False := by simp; omega
      rw [if_neg (by omega)] at hst
      have HST := Lib.hid hst
      clear hst h1
      go_wp2
      go_ret
      rw [← HST.out]
      exact ⟨rfl, Below.refl _ _⟩

namespace Rd
def textsGo (l : List UInt8) : Nat → Nat → Nat
  | 0, i => i
  | f + 1, i => if i < l.length then textsGo l f (i + (1 + (l.getD i 0).toNat)) else i
/-- Are these one or more texts? -/
def texts (l : List UInt8) : Bool := !l.isEmpty && (textsGo l (l.length + 1) 0 == l.length)
/-- Are these two names, and five numbers? -/
def soa (l : List UInt8) : Bool := decide (0 ≤ ends l) && (decide (0 ≤ ends (l.drop (ends l).toNat)) && decide ((l.length : Int) - ends l - ends (l.drop (ends l).toNat) = 20))
end Rd

set_option maxHeartbeats 2000000 in
set_option maxRecDepth 100000 in
theorem texts_calls (s : ByteArray) (w : World) (hs : s.size ≤ 100000) :
    Calls Tryz.prog 157 #[.string s] w fun e w' => e = .returned (.bool (Rd.texts s.data.toList)) ∧ w = w' := by
  obtain ⟨o, ho⟩ : ∃ o, Rd.textsGo s.data.toList (s.size + 1) 0 = o := ⟨_, rfl⟩
  have hr : Rd.texts s.data.toList = (!s.data.toList.isEmpty && (o == s.size)) := by
    rw [Rd.texts, ← Lib.size_eq, ho]
  rw [hr]
  have HO := Lib.hid ho
  have HRR := Lib.hid hr
  clear ho hr
  go_enter Tryz.func157, Tryz.ntmps157
  go_wp2
  go_loopg [3] (s.size + 1) (fun gg v3 wx => ∃ (i f : Nat), v3 = .int .i64 (i : Int) ∧ i ≤ 200000 ∧ s.size - i < gg ∧ s.size - i < f ∧ w = wx ∧ Aside (Rd.textsGo s.data.toList f i = o))
  case atStart => exact ⟨0, s.size + 1, rfl, by omega, by omega, by omega, rfl, HO.out⟩
  case round =>
    obtain ⟨i, f, rfl, hi, hg, hf, rfl, HA⟩ := hrel
    obtain ⟨f, rfl⟩ : ∃ f', f = f' + 1 := ⟨f - 1, by omega⟩
    have hst := HA.out
    rw [Rd.textsGo, ← Lib.size_eq] at hst
    by_cases h1 : i < s.size
    · have q1 : ((i : Int) < (s.size : Int)) = True := by simp; omega
      have hgd : s.data.toList.getD i 0 = s[i] := by
        rw [List.getD_eq_getElem?_getD, List.getElem?_eq_getElem (by simpa using h1)]; rfl
      have hk256 := UInt8.toNat_lt s[i]
      rw [if_pos h1, hgd] at hst
      obtain ⟨j, hj⟩ : ∃ j, i + (1 + s[i].toNat) = j := ⟨_, rfl⟩
      have e1 : (i : Int) + (1 + (s[i].toNat : Int)) = (j : Int) := by omega
      rw [hj] at hst
      have HST := Lib.hid hst
      have hj1 : i < j := by omega
      have hj2 : j ≤ 200000 := by omega
      clear hst hgd hj
      go_wp2
      go_roundg (gk - 1)
      case measure => omega
      case rel => exact ⟨j, f, rfl, hj2, by omega, by omega, rfl, HST.out⟩
    · have q1 : ((i : Int) < (s.size : Int)) = False := by simp; omega
      rw [if_neg (by omega)] at hst
      by_cases h0 : s.data.toList = []
      · have hb : s.toList.isEmpty = true := by rw [Lib.toList_data, h0]; rfl
        have hz : (!s.data.toList.isEmpty && (o == s.size)) = false := by rw [h0]; rfl
        have HZ := Lib.hid hz
        clear hst h1 h0 hz
        go_wp2
        go_ret
        rw [HZ.out]
        exact ⟨rfl, rfl⟩
      · have hb : s.toList.isEmpty = false := by
          rw [Lib.toList_data]
          cases h : s.data.toList with
          | nil => exact absurd h h0
          | cons => rfl
        have hz : (!s.data.toList.isEmpty && (o == s.size)) = ((i : Int) == (s.size : Int)) := by
          rw [← hst, ← Lib.toList_data, hb]
          simp only [Bool.not_false, Bool.true_and]
          rw [Bool.eq_iff_iff]
          simp
          omega
        have HZ := Lib.hid hz
        clear hst h1 h0 hz
        go_wp2
        go_ret
        rw [HZ.out]
        exact ⟨rfl, rfl⟩

set_option maxHeartbeats 2000000 in
set_option maxRecDepth 100000 in
theorem soa_calls (s : ByteArray) (w : World) (hs : s.size ≤ 100000) :
    Calls Tryz.prog 156 #[.string s] w fun e w' => e = .returned (.bool (Rd.soa s.data.toList)) ∧ Below w.heap.size w w' := by
  have h1 := ends_calls s w
  have hr1 := Rd.endsGo_range s.data.toList 256 0
  have hz : (s.data.toList.length : Int) = (s.size : Int) := by rw [← Lib.size_eq]
  have hd : Rd.soa s.data.toList = (decide (0 ≤ Rd.ends s.data.toList) && (decide (0 ≤ Rd.ends (s.data.toList.drop (Rd.ends s.data.toList).toNat)) && decide ((s.size : Int) - Rd.ends s.data.toList - Rd.ends (s.data.toList.drop (Rd.ends s.data.toList).toNat) = 20))) := by
    rw [Rd.soa, hz]
  change -1 ≤ Rd.ends s.data.toList ∧ Rd.ends s.data.toList ≤ 255 ∧ Rd.ends s.data.toList ≤ s.data.toList.length at hr1
  rw [hz] at hr1
  by_cases ha : Rd.ends s.data.toList < 0
  · have hf : Rd.soa s.data.toList = false := by
      rw [hd]
      have : decide (0 ≤ Rd.ends s.data.toList) = false := by simp; omega
      rw [this]; rfl
    rw [hf]
    generalize Rd.ends s.data.toList = a at *
    have q : (a < 0) = True := by simp [ha]
    clear hd hf hr1 ha
    go_enter Tryz.func156, Tryz.ntmps156
    go_wp2_with (go_at_call 158; refine h1.mono ?_; rintro e w1 ⟨rfl, hb⟩)
    go_ret
    exact ⟨rfl, hb⟩
  · obtain ⟨a, haa⟩ : ∃ a : Nat, Rd.ends s.data.toList = (a : Int) := ⟨(Rd.ends s.data.toList).toNat, by omega⟩
    rw [haa] at h1 hr1 hd
    have h2 := fun W => ends_calls (s.extract a s.size) W
    have hex : (s.extract a s.size).data.toList = s.data.toList.drop a := Lib.extract_to_end s a
    rw [hex] at h2
    rw [Int.toNat_natCast] at hd
    have hr2 := Rd.endsGo_range (s.data.toList.drop a) 256 0
    change -1 ≤ Rd.ends (s.data.toList.drop a) ∧ Rd.ends (s.data.toList.drop a) ≤ 255 ∧ _ at hr2
    generalize Rd.ends (s.data.toList.drop a) = t at *
    obtain ⟨hr2a, hr2b, _⟩ := hr2
    have q0 : ((a : Int) < 0) = False := by simp
    have has : (a : Int) ≤ (s.size : Int) := hr1.2.2
    have hd2 : Rd.soa s.data.toList = (decide (0 ≤ t) && decide ((s.size : Int) - a - t = 20)) := by
      rw [hd]
      have : decide (0 ≤ (a : Int)) = true := by simp
      rw [this]; rfl
    rw [hd2]
    have H2 := Lib.hid h2
    clear hd hd2 hr1 ha haa hex h2 hz
    by_cases ht : 0 ≤ t
    · have q1 : (0 ≤ t) = True := by simp [ht]
      have hf : (decide (0 ≤ t) && decide ((s.size : Int) - a - t = 20)) = ((s.size : Int) - a - t == 20) := by
        rw [Bool.eq_iff_iff]
        simp [ht]
      rw [hf]
      clear hf
      go_enter Tryz.func156, Tryz.ntmps156
      go_wp2_with fail
      refine h1.mono ?_
      rintro e w1 ⟨rfl, hb⟩
      go_wp2_with fail
      refine (H2.out _).mono ?_
      rintro e w2 ⟨rfl, hb2⟩
      go_wp2_with fail
      go_ret
      exact ⟨rfl, hb.trans (hb2.mono hb.size)⟩
    · have q1 : (0 ≤ t) = False := by simp; omega
      have hf : (decide (0 ≤ t) && decide ((s.size : Int) - a - t = 20)) = false := by simp [ht]
      rw [hf]
      clear hf
      go_enter Tryz.func156, Tryz.ntmps156
      go_wp2_with fail
      refine h1.mono ?_
      rintro e w1 ⟨rfl, hb⟩
      go_wp2_with fail
      refine (H2.out _).mono ?_
      rintro e w2 ⟨rfl, hb2⟩
      go_wp2_with fail
      go_ret
      exact ⟨rfl, hb.trans (hb2.mono hb.size)⟩
end Go.Proofs.YtolbfeggceemfaaGreatDoor
