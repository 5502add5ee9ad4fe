/-
  The walks of the laws' awake, Num, one, and of ConsoleBegins. Condition: the variables read as the program lays them; the texts are of at most 2^47 bytes.
-/
import Derived.Test.YtolbfeggceemfaaGreatDoorD2
import Derived.Test.YtolbfeggceemfaaGreatDoorD3
namespace Go.Proofs.YtolbfeggceemfaaGreatDoor
open Go.RowKit

theorem num0_calls (x : Int) (w : World) : Calls Tryz.prog 10 #[.int .i64 x] w fun e w' => e = .returned (.int .i64 x) ∧ w = w' := by
  go_enter Tryz.func10, Tryz.ntmps10
  go_wp2
  go_ret
  exact ⟨rfl, rfl⟩

theorem wake_same : ((txt wakeOut).toList == ([50, 10, 101, 114, 114, 111, 114, 32, 50, 56, 48, 48, 10, 97, 46, 98, 46, 10, 121, 101, 115, 10, 108, 101, 115, 115, 10, 52, 10, 49, 10, 101, 114, 114, 111, 114, 32, 55, 48, 48, 10, 101, 114, 114, 111, 114, 32, 49, 48, 48, 10] : List UInt8)) = true := by
  rw [Lib.toList_data, txt_data]
  kernel_rfl

set_option maxHeartbeats 2000000 in
set_option maxRecDepth 100000 in
theorem awake_calls (w : World) (hV : Vars w) : Calls Tryz.prog 8 #[] w fun e w' => e = .returned (.bool true) ∧ Below w.heap.size w w' := by
  have hR := run_calls wakeIn w hV
  rw [wake_run] at hR
  have hs := wake_same
  generalize txt wakeOut = X at *
  have HR := Lib.hid hR
  clear hR
  go_enter Tryz.func8, Tryz.ntmps8
  go_wp2_with fail
  refine HR.out.mono ?_
  rintro e w1 ⟨rfl, hb1⟩
  go_wp2_with fail
  refine (num0_calls _ _).mono ?_
  rintro e w2 ⟨rfl, rfl⟩
  go_wp2_with fail
  go_ret
  exact ⟨rfl, hb1⟩

set_option maxHeartbeats 2000000 in
set_option maxRecDepth 100000 in
theorem begins_calls (s r : ByteArray) (w : World) (hV : Vars w) (hs : s.size ≤ 140737488355328) (hr : r.size ≤ 140737488355328) :
    Calls Tryz.prog 3 #[.string s, .string r] w fun e w' => e = .returned (.bool true) ∧ Below w.heap.size w w' := by
  have hA := awake_calls w hV
  have h8 := hV.size
  have HV := Lib.hid hV
  have z1 : (s ++ ⟨#[10]⟩ : ByteArray).size = s.size + 1 := by rw [ByteArray.size_append]; rfl
  have z2 : (s ++ ⟨#[10]⟩ ++ r : ByteArray).size = s.size + 1 + r.size := by rw [ByteArray.size_append, z1]
  have hR1 := fun W (hV : Vars W) => run_calls (s ++ ⟨#[10]⟩) W hV
  have hR2 := fun W (hV : Vars W) => run_calls (s ++ ⟨#[10]⟩ ++ r) W hV
  have d1 : (s ++ ⟨#[10]⟩ : ByteArray).data.toList = s.data.toList ++ [10] := by simp
  have d2 : (s ++ ⟨#[10]⟩ ++ r : ByteArray).data.toList = s.data.toList ++ 10 :: r.data.toList := by simp
  have HA := Lib.hid hA
  by_cases hl : 16384 < (s ++ ⟨#[10]⟩ ++ r : ByteArray).size
  · rw [runE_long _ hl] at hR2
    generalize runE (s ++ ⟨#[10]⟩) = o at *
    obtain ⟨x, c⟩ := o
    have hq : ((16384 : Int) < ((s ++ ⟨#[10]⟩ ++ r : ByteArray).size : Int)) = True := by simp only [eq_iff_iff, iff_true]; omega
    have hq2 : ((16384 : Int) < (s.size : Int) + 1 + (r.size : Int)) = True := by simp only [eq_iff_iff, iff_true]; omega
    have H1 := Lib.hid hR1
    have H2 := Lib.hid hR2
    have hu : (txt []).toList.isEmpty = true := by rw [Lib.toList_data, txt_data]; rfl
    clear hA hV hR1 hR2 d1 d2 hl z1 z2
    go_enter Tryz.func3, Tryz.ntmps3
    go_wp2_with fail
    refine HA.out.mono ?_
    rintro e w1 ⟨rfl, hb1⟩
    go_wp2_with fail
    refine (H1.out _ (HV.out.below hb1 h8)).mono ?_
    rintro e w2 ⟨rfl, hb2⟩
    have hb12 := hb1.trans (hb2.mono hb1.size)
    go_wp2_with fail
    refine (H2.out _ (HV.out.below hb12 h8)).mono ?_
    rintro e w3 ⟨rfl, hb3⟩
    have hb13 := hb12.trans (hb3.mono hb12.size)
    go_wp2_with (go_at_call 10; refine (num0_calls _ _).mono ?_; rintro e w2 ⟨rfl, rfl⟩)
    go_ret
    exact ⟨rfl, hb13⟩
  · rw [runE_short _ (by omega), d2, runL_append] at hR2
    rw [runE_short _ (by omega), d1, runL_line] at hR1
    generalize runL s.data.toList = x at *
    generalize runL r.data.toList = y at *
    have H1 := Lib.hid hR1
    have H2 := Lib.hid hR2
    have g1 : (txt x).size = x.length := txt_size x
    have g2 : (txt (x ++ y)).size = x.length + y.length := by rw [txt_size, List.length_append]
    have g3 : ((x.length : Int) ≤ (x.length : Int) + (y.length : Int)) = True := by simp only [eq_iff_iff, iff_true]; omega
    have g4 : (txt (x ++ y)).extract 0 x.length = txt x := by
      rw [← txt_of ((txt (x ++ y)).extract 0 x.length), Lib.extract_data, txt_data]
      simp
    clear hA hV hR1 hR2 d1 d2 hl z1 z2
    go_enter Tryz.func3, Tryz.ntmps3
    go_wp2_with fail
    refine HA.out.mono ?_
    rintro e w1 ⟨rfl, hb1⟩
    go_wp2_with fail
    refine (H1.out _ (HV.out.below hb1 h8)).mono ?_
    rintro e w2 ⟨rfl, hb2⟩
    have hb12 := hb1.trans (hb2.mono hb1.size)
    go_wp2_with fail
    refine (H2.out _ (HV.out.below hb12 h8)).mono ?_
    rintro e w3 ⟨rfl, hb3⟩
    have hb13 := hb12.trans (hb3.mono hb12.size)
    go_wp2_with (go_at_call 10; refine (num0_calls _ _).mono ?_; rintro e w2 ⟨rfl, rfl⟩)
    go_ret
    exact ⟨rfl, hb13⟩
end Go.Proofs.YtolbfeggceemfaaGreatDoor
