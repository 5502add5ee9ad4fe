/-
  The walks of qmin.Size and pad.Room: each returns the number that the document's formula says. Condition: the numbers are ints of 64 bits.
-/
import Derived.Test.YtolbfeggceemfaaGreatDoorB0
namespace Go.Proofs.YtolbfeggceemfaaGreatDoor
open Go.RowKit
namespace Nu
/-- How many labels more are told: the number, the error. -/
def size (steps left count one : Int) : Int × Int :=
  if steps < 0 ∨ 1000 < steps ∨ left < 0 ∨ 1000 < left ∨ count < 0 ∨ 1000 < count ∨ one < 0 ∨ 1000 < one ∨ left = 0 then (0, 1700)
  else if steps < one ∨ left ≤ count - steps then (1, 0)
  else if count ≤ steps then (left, 0)
  else ((left + count - steps - 1) / (count - steps), 0)
theorem size_bad {a b c d : Int} (h : a < 0 ∨ 1000 < a ∨ b < 0 ∨ 1000 < b ∨ c < 0 ∨ 1000 < c ∨ d < 0 ∨ 1000 < d ∨ b = 0) : size a b c d = (0, 1700) := by
  unfold size; rw [if_pos h]
theorem size_one {a b c d : Int} (h : ¬ (a < 0 ∨ 1000 < a ∨ b < 0 ∨ 1000 < b ∨ c < 0 ∨ 1000 < c ∨ d < 0 ∨ 1000 < d ∨ b = 0)) (h1 : a < d ∨ b ≤ c - a) : size a b c d = (1, 0) := by
  unfold size; rw [if_neg h, if_pos h1]
theorem size_left {a b c d : Int} (h : ¬ (a < 0 ∨ 1000 < a ∨ b < 0 ∨ 1000 < b ∨ c < 0 ∨ 1000 < c ∨ d < 0 ∨ 1000 < d ∨ b = 0)) (h1 : ¬ (a < d ∨ b ≤ c - a)) (h2 : c ≤ a) : size a b c d = (b, 0) := by
  unfold size; rw [if_neg h, if_neg h1, if_pos h2]
theorem size_div {a b c d : Int} (h : ¬ (a < 0 ∨ 1000 < a ∨ b < 0 ∨ 1000 < b ∨ c < 0 ∨ 1000 < c ∨ d < 0 ∨ 1000 < d ∨ b = 0)) (h1 : ¬ (a < d ∨ b ≤ c - a)) (h2 : ¬ c ≤ a) : size a b c d = ((b + c - a - 1) / (c - a), 0) := by
  unfold size; rw [if_neg h, if_neg h1, if_neg h2]
end Nu

theorem ret_ii {a b c d : Int} (h : a = b) (k : c = d) : Ending.returned (.tuple #[.int .i64 a, .int .i64 c]) = .returned (.tuple #[.int .i64 b, .int .i64 d]) := by rw [h, k]

set_option maxHeartbeats 1000000 in
set_option maxRecDepth 100000 in
theorem size_calls (a b c d : Int) (w : World) :
    Calls Tryz.prog 62 #[.int .i64 a, .int .i64 b, .int .i64 c, .int .i64 d] w fun e w' => e = .returned (.tuple #[.int .i64 (Nu.size a b c d).1, .int .i64 (Nu.size a b c d).2]) ∧ w = w' := by
  have i0 : ∀ w, (Instr.index 99 (.agg #[.int .i64 a, .int .i64 b, .int .i64 c, .int .i64 d]) (.int .i64 0)).run Tryz.prog w = .ok (.int .i64 a) w := fun _ => by kernel_rfl
  have i1 : ∀ w, (Instr.index 99 (.agg #[.int .i64 a, .int .i64 b, .int .i64 c, .int .i64 d]) (.int .i64 1)).run Tryz.prog w = .ok (.int .i64 b) w := fun _ => by kernel_rfl
  have i2 : ∀ w, (Instr.index 99 (.agg #[.int .i64 a, .int .i64 b, .int .i64 c, .int .i64 d]) (.int .i64 2)).run Tryz.prog w = .ok (.int .i64 c) w := fun _ => by kernel_rfl
  have i3 : ∀ w, (Instr.index 99 (.agg #[.int .i64 a, .int .i64 b, .int .i64 c, .int .i64 d]) (.int .i64 3)).run Tryz.prog w = .ok (.int .i64 d) w := fun _ => by kernel_rfl
  go_enter Tryz.func62, Tryz.ntmps62
  go_wp2
  refine wp_loop_rounds 5 ?_
  rw [rounds_succ]
  go_wp2
  all_goals (try (rw [rounds_succ]; go_wp2))
  all_goals (try (rw [rounds_succ]; go_wp2))
  all_goals (try (rw [rounds_succ]; go_wp2))
  all_goals (try (rw [rounds_succ]; go_wp2))
  iterate 4
    · go_ret2
      rw [Nu.size_bad (by omega)]
      exact ⟨rfl, rfl⟩
  · rename_i h0
    go_ret2
    rw [Nu.size_bad (by have : b = 0 := by simpa using h0
                        omega)]
    exact ⟨rfl, rfl⟩
  · rename_i h0 _ h1
    have : b ≠ 0 := by simpa using h0
    go_ret2
    rw [Nu.size_one (by omega) (by omega)]
    exact ⟨rfl, rfl⟩
  · rename_i h0 _ _ h1
    have : b ≠ 0 := by simpa using h0
    go_ret2
    rw [Nu.size_left (by omega) (by omega) (by omega)]
    exact ⟨rfl, rfl⟩
  · rename_i h0 _ _ h1
    have : b ≠ 0 := by simpa using h0
    go_ret2
    rw [Nu.size_div (by omega) (by omega) (by omega)]
    exact ⟨ret_ii (by simp) rfl, rfl⟩
  · rename_i h0 h1
    have : b ≠ 0 := by simpa using h0
    go_ret2
    rw [Nu.size_one (by omega) (by omega)]
    exact ⟨rfl, rfl⟩
  all_goals
    go_ret2
    rw [Nu.size_bad (by omega)]
    exact ⟨rfl, rfl⟩

/-- How many bytes a padding has. -/
def Nu.room (size block : Int) : Int := if size < 0 ∨ block < 1 then 0 else (block - (size + 4) % block) % block

theorem room_calls (a b : Int) (w : World) (ha : a ≤ 9223372036854775807) (hb : b ≤ 9223372036854775807) :
    Calls Tryz.prog 45 #[.int .i64 a, .int .i64 b] w fun e w' => e = .returned (.int .i64 (Nu.room a b)) ∧ w = w' := by
  by_cases h1 : a < 0
  · have hr : Nu.room a b = 0 := by unfold Nu.room; rw [if_pos (Or.inl h1)]
    have HR := Lib.hid hr
    clear hr
    go_enter Tryz.func45, Tryz.ntmps45
    go_wp2
    go_ret
    rw [HR.out]
    exact ⟨rfl, rfl⟩
  · by_cases h2 : b < 1
    · have hr : Nu.room a b = 0 := by unfold Nu.room; rw [if_pos (Or.inr h2)]
      have HR := Lib.hid hr
      clear hr
      go_enter Tryz.func45, Tryz.ntmps45
      go_wp2
      go_ret
      rw [HR.out]
      exact ⟨rfl, rfl⟩
    · have hr : Nu.room a b = (b - (a + 4) % b) % b := by unfold Nu.room; rw [if_neg (by omega)]
      have HR := Lib.hid hr
      clear hr
      have ha0 : 0 ≤ a := by omega
      have hb1 : 1 ≤ b := by omega
      clear h1 h2
      have hm := Int.emod_nonneg (a + 4) (show b ≠ 0 by omega)
      have hm2 := Int.emod_lt_of_pos (a + 4) (show 0 < b by omega)
      have hn := Int.emod_nonneg (b - (a + 4) % b) (show b ≠ 0 by omega)
      have hn2 := Int.emod_lt_of_pos (b - (a + 4) % b) (show 0 < b by omega)
      go_enter Tryz.func45, Tryz.ntmps45
      have he : (b - (a + 4) % b) % b = -((a + 4) % b) % b := by rw [Int.sub_eq_add_neg, Int.add_emod_left]
      have hw : wrap64 (-((a + 4) % b) % b) = (b - (a + 4) % b) % b := by rw [← he]; unfold wrap64; omega
      have HW := Lib.hid hw
      clear hw he
      go_wp2
      go_ret
      rw [HR.out, ← HW.out]
      exact ⟨rfl, rfl⟩
end Go.Proofs.YtolbfeggceemfaaGreatDoor
