/-
  The walk of rdata.May. Condition: the data is of at most 100000 bytes.
-/
import Derived.Test.YtolbfeggceemfaaGreatDoorG2
namespace Go.Proofs.YtolbfeggceemfaaGreatDoor
open Go.RowKit
namespace Rd
/-- May data be for a type? -/
def may (t : Nat) (l : List UInt8) : Bool :=
  if t < 1 ∨ 65535 < t ∨ 65535 < l.length then false
  else if t = 1 then l.length == 4
  else if t = 28 then l.length == 16
  else if t = 2 ∨ t = 5 ∨ t = 12 then (Nm.labels l).isSome
  else if t = 15 then decide (2 ≤ l.length) && (Nm.labels (l.drop 2)).isSome
  else if t = 6 then soa l
  else if t = 16 then texts l
  else true
end Rd

set_option maxHeartbeats 2000000 in
set_option maxRecDepth 100000 in
theorem mayData_bad (t : Nat) (s : ByteArray) (w : World) (h : t < 1 ∨ 65535 < t ∨ 65535 < s.size) :
    Calls Tryz.prog 142 #[.int .i64 (t : Int), .string s] w fun e w' => e = .returned (.bool false) ∧ w = w' := by
  by_cases h1 : t < 1
  · have q1 : ((t : Int) < 1) = True := by simp; omega
    clear h h1
    go_enter Tryz.func142, Tryz.ntmps142
    go_wp2
    go_ret
    exact ⟨rfl, rfl⟩
  · have q1 : ((t : Int) < 1) = False := by simp; omega
    by_cases h2 : 65535 < t
    · have q2 : ((65535 : Int) < (t : Int)) = True := by simp; omega
      clear h h1 h2
      go_enter Tryz.func142, Tryz.ntmps142
      go_wp2
      go_ret
      exact ⟨rfl, rfl⟩
    · have q2 : ((65535 : Int) < (t : Int)) = False := by simp; omega
      have q3 : ((65535 : Int) < (s.size : Int)) = True := by simp; omega
      clear h h1 h2
      go_enter Tryz.func142, Tryz.ntmps142
      go_wp2
      go_ret
      exact ⟨rfl, rfl⟩

theorem natbeq (a b : Nat) : (a == b) = ((a : Int) == (b : Int)) := by
  rw [Bool.eq_iff_iff]
  simp
  omega
theorem may_len (t : Nat) (s : ByteArray) (h : ¬ (t < 1 ∨ 65535 < t ∨ 65535 < s.size)) : Rd.may t s.data.toList =
    if t = 1 then s.size == 4 else if t = 28 then s.size == 16 else if t = 2 ∨ t = 5 ∨ t = 12 then (Nm.labels s.data.toList).isSome
    else if t = 15 then decide (2 ≤ s.size) && (Nm.labels (s.data.toList.drop 2)).isSome else if t = 6 then Rd.soa s.data.toList else if t = 16 then Rd.texts s.data.toList else true := by
  rw [Rd.may, ← Lib.size_eq, if_neg h]

set_option maxHeartbeats 4000000 in
set_option maxRecDepth 100000 in
theorem mayData_calls (t : Nat) (s : ByteArray) (w : World) (hs : s.size ≤ 100000) :
    Calls Tryz.prog 142 #[.int .i64 (t : Int), .string s] w fun e w' => e = .returned (.bool (Rd.may t s.data.toList)) ∧ Below w.heap.size w w' := by
  by_cases hbad : t < 1 ∨ 65535 < t ∨ 65535 < s.size
  · have : Rd.may t s.data.toList = false := by rw [Rd.may, ← Lib.size_eq, if_pos hbad]
    rw [this]
    refine (mayData_bad t s w hbad).mono ?_
    rintro e w' ⟨h1, rfl⟩
    exact ⟨h1, Below.refl _ _⟩
  · have hm := may_len t s hbad
    have q : ((65535 : Int) < (s.size : Int)) = False := by simp; omega
    have hM := fun W => may_calls s W (by omega)
    have HM := Lib.hid hM
    by_cases h1 : t = 1
    · subst h1
      rw [hm, if_pos rfl, show (s.size == 4) = ((s.size : Int) == 4) from natbeq s.size 4]
      clear hm hM hbad
      go_enter Tryz.func142, Tryz.ntmps142
      go_wp2
      go_ret
      exact ⟨rfl, Below.refl _ _⟩
    · rw [if_neg h1] at hm
      have q1 : ((t : Int) == 1) = false := by simp; omega
      by_cases h2 : t = 28
      · subst h2
        rw [hm, if_pos rfl, show (s.size == 16) = ((s.size : Int) == 16) from natbeq s.size 16]
        clear hm hM hbad h1 q1
        go_enter Tryz.func142, Tryz.ntmps142
        go_wp2
        go_ret
        exact ⟨rfl, Below.refl _ _⟩
      · rw [if_neg h2] at hm
        by_cases h3 : t = 2 ∨ t = 5 ∨ t = 12
        · rw [if_pos h3] at hm
          rw [hm]
          clear hm hM hbad h1 h2 q1
          rcases h3 with rfl | rfl | rfl
          all_goals
            go_enter Tryz.func142, Tryz.ntmps142
            go_wp2_with (go_at_call 82; refine (HM.out _).mono ?_; rintro e w1 ⟨rfl, hb⟩)
            go_ret
            exact ⟨rfl, hb⟩
        · rw [if_neg h3] at hm
          by_cases h4 : t = 15
          · subst h4
            rw [if_pos rfl] at hm
            rw [hm]
            have hM2 := fun W => may_calls (s.extract 2 s.size) W (by simp only [ByteArray.size_extract]; omega)
            rw [Lib.extract_to_end] at hM2
            generalize (Nm.labels (s.data.toList.drop 2)).isSome = r at *
            have HM2 := Lib.hid hM2
            by_cases h5 : 2 ≤ s.size
            · have q5 : ((2 : Int) ≤ (s.size : Int)) = True := by simp; omega
              rw [show (decide (2 ≤ s.size) && r) = r from by simp [h5]]
              clear hm hM hM2 hbad h1 h2 h3 q1 h5
              go_enter Tryz.func142, Tryz.ntmps142
              go_wp2_with (go_at_call 82; refine (HM2.out _).mono ?_; rintro e w1 ⟨rfl, hb⟩)
              go_ret
              exact ⟨rfl, hb⟩
            · have q5 : ((2 : Int) ≤ (s.size : Int)) = False := by simp; omega
              rw [show (decide (2 ≤ s.size) && r) = false from by simp [h5]]
              clear hm hM hM2 hbad h1 h2 h3 q1 h5
              go_enter Tryz.func142, Tryz.ntmps142
              go_wp2_with fail
              go_ret
              exact ⟨rfl, Below.refl _ _⟩
          · rw [if_neg h4] at hm
            by_cases h5 : t = 6
            · subst h5
              rw [hm, if_pos rfl]
              have hS := fun W => soa_calls s W hs
              have HS := Lib.hid hS
              clear hm hM hS hbad h1 h2 h3 q1
              go_enter Tryz.func142, Tryz.ntmps142
              go_wp2_with (go_at_call 156; refine (HS.out _).mono ?_; rintro e w1 ⟨rfl, hb⟩)
              go_ret
              exact ⟨rfl, hb⟩
            · rw [if_neg h5] at hm
              by_cases h6 : t = 16
              · subst h6
                rw [hm, if_pos rfl]
                have hS := fun W => texts_calls s W hs
                have HS := Lib.hid hS
                clear hm hM hS hbad h1 h2 h3 q1
                go_enter Tryz.func142, Tryz.ntmps142
                go_wp2_with (go_at_call 157; refine (HS.out _).mono ?_; rintro e w1 ⟨rfl, rfl⟩)
                go_ret
                exact ⟨rfl, Below.refl _ _⟩
              · rw [if_neg h6] at hm
                rw [hm]
                have r1 : ((t : Int) < 1) = False := by simp; omega
                have r2 : ((65535 : Int) < (t : Int)) = False := by simp; omega
                have q2 : ((t : Int) == 28) = false := by simp; omega
                have q3 : ((t : Int) == 2) = false := by simp; omega
                have q4 : ((t : Int) == 5) = false := by simp; omega
                have q5 : ((t : Int) == 12) = false := by simp; omega
                have q6 : ((t : Int) == 15) = false := by simp; omega
                have q7 : ((t : Int) == 6) = false := by simp; omega
                have q8 : ((t : Int) == 16) = false := by simp; omega
                clear hm hM hbad h1 h2 h3 h4 h5 h6
                go_enter Tryz.func142, Tryz.ntmps142
                go_wp2_with fail
                go_ret
                exact ⟨rfl, Below.refl _ _⟩
end Go.Proofs.YtolbfeggceemfaaGreatDoor
