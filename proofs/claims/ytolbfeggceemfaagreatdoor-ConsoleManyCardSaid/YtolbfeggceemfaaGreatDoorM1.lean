/-
  The walk of ConsoleMany. Condition: the variables read as the program lays them; the slice's cells are there.
-/
import Derived.Test.YtolbfeggceemfaaGreatDoorE2
namespace Go.Proofs.YtolbfeggceemfaaGreatDoor
open Go.RowKit

/-- The eight lines. -/
def rows8 : List ByteArray := [⟨#[99, 111, 117, 110, 116, 32, 97, 46, 98, 46]⟩, ⟨#[102, 111, 108, 100, 32, 65, 46]⟩, ⟨#[97, 98, 111, 118, 101, 32, 46, 32, 97, 46]⟩, ⟨#[102, 114, 111, 98]⟩, ⟨#[35, 32, 99]⟩, ⟨#[115, 105, 122, 101, 32, 49, 32, 50, 32, 51, 32, 52]⟩, ⟨#[114, 111, 111, 109, 32, 53, 32, 49, 48]⟩, ⟨#[113, 117, 101, 114, 121, 32, 55, 32, 97, 46, 32, 49]⟩]
theorem rows8_all : (rows8.all fun x => decide (x.size ≤ 12) && !(x.data.toList.contains 10) && decide ((runL x.data.toList).length ≤ 300)) = true := by kernel_rfl
theorem rows8_ok (k : Nat) (x : ByteArray) (h : rows8[k]? = some x) : x.size ≤ 12 ∧ 10 ∉ x.data.toList ∧ (runL x.data.toList).length ≤ 300 := by
  have := List.all_eq_true.1 rows8_all x (List.mem_of_getElem? h)
  simpa [and_assoc] using this

theorem wrap8 (z : Int) : ∃ k : Nat, k < 8 ∧ (IntKind.u64.wrap z).tmod 8 = (k : Int) := by
  have h0 : 0 ≤ IntKind.u64.wrap z := by simp only [IntKind.wrap, IntKind.signed, IntKind.bits]; simp; omega
  rw [Int.tmod_eq_emod_of_nonneg h0]
  exact ⟨(IntKind.u64.wrap z % 8).toNat, by omega, by omega⟩

/-- What the lines so far are, and what they tell. -/
def Sofar (A : ByteArray) : Prop := ∀ y, runL (A.data.toList ++ y) = runL A.data.toList ++ runL y
theorem sofar_nil : Sofar ⟨#[]⟩ := fun y => by simp [runL_nil]
theorem sofar_step {A x : ByteArray} (h : Sofar A) : Sofar (A ++ x ++ ⟨#[10]⟩) ∧ txt (runL (A ++ x ++ ⟨#[10]⟩).data.toList) = txt (runL A.data.toList) ++ txt (runL x.data.toList) := by
  have d : (A ++ x ++ ⟨#[10]⟩ : ByteArray).data.toList = A.data.toList ++ (x.data.toList ++ [10]) := by simp
  have h1 : runL (A ++ x ++ ⟨#[10]⟩ : ByteArray).data.toList = runL A.data.toList ++ runL x.data.toList := by
    rw [d, h, runL_line]
  refine ⟨fun y => ?_, ?_⟩
  · rw [h1, d, List.append_assoc, h, List.append_assoc, show [10] ++ y = (10 : UInt8) :: y from rfl, runL_append, List.append_assoc]
  · rw [h1]
    exact (txt_append _ _).symm

set_option maxHeartbeats 2000000 in
set_option maxRecDepth 100000 in
theorem many_none (o : Option Addr) (cap : Nat) (w : World) (hV : Vars w) :
    Calls Tryz.prog 6 #[.slice o 0 cap] w fun e w' => e = .returned (.bool true) ∧ Below w.heap.size w w' := by
  have hA := awake_calls w hV
  have h8 := hV.size
  have HV := Lib.hid hV
  have hR := fun W (hV : Vars W) => run_calls ⟨#[]⟩ W hV
  rw [runE_short _ (by decide), show runL (⟨#[]⟩ : ByteArray).data.toList = [] from runL_nil] at hR
  have hu : txt [] = ⟨#[]⟩ := rfl
  rw [hu] at hR
  have HA := Lib.hid hA
  have HR := Lib.hid hR
  clear hA hV hR
  go_enter Tryz.func6, Tryz.ntmps6
  go_wp2_with fail
  refine HA.out.mono ?_
  rintro e w1 ⟨rfl, hb1⟩
  have hz1 := hb1.size
  have hb1' := hb1.trans (below_alloc8 w1 (by omega) (.cells (rows8.map Value.string).toArray 9 (0, 0)) |>.mono hz1)
  go_wp2_with fail
  refine wp_loop_rounds 1 ?_
  rw [rounds_succ]
  go_wp2_with fail
  refine (HR.out _ (HV.out.below hb1' h8)).mono ?_
  rintro e w2 ⟨rfl, hb2⟩
  go_wp2_with fail
  refine (num0_calls _ _).mono ?_
  rintro e w3 ⟨rfl, rfl⟩
  go_wp2_with fail
  go_ret
  exact ⟨rfl, hb1'.trans (hb2.mono hb1'.size)⟩

set_option maxHeartbeats 2000000 in
set_option maxRecDepth 100000 in
theorem many_calls (b off len cap : Nat) (zs : List Int) (w : World) (hV : Vars w) (hb : b < w.heap.size) (hlm : len ≤ 9223372036854775807) (hlen : len ≤ zs.length)
    (hcell : ∀ i, i < zs.length → w.cell? ⟨b, off + i, none⟩ = some (.int .i64 (zs.getD i 0))) :
    Calls Tryz.prog 6 #[.slice (some ⟨b, off, none⟩) len cap] w fun e w' => e = .returned (.bool true) ∧ Below w.heap.size w w' := by
  have hA := awake_calls w hV
  have h8 := hV.size
  have HV := Lib.hid hV
  have HA := Lib.hid hA
  have HC := Lib.hid hcell
  have HR : ∀ (s : ByteArray) W (hV : Vars W), s.size ≤ 16384 → Calls Tryz.prog 9 #[.string s] W fun e w' => e = .returned (.tuple #[.string (txt (runL s.data.toList)), .int .i64 0]) ∧ Below W.heap.size W w' := fun s W hV h => by
    have := run_calls s W hV
    rwa [runE_short s h] at this
  have HR := Lib.hid HR
  clear hA hV hcell
  go_enter Tryz.func6, Tryz.ntmps6
  go_wp2_with fail
  refine HA.out.mono ?_
  rintro e w1 ⟨rfl, hb1⟩
  have hz1 := hb1.size
  go_wp2_with fail
  obtain ⟨w2, hw2⟩ : ∃ w2, w1.alloc (.cells (rows8.map Value.string).toArray 9 (0, 0)) = w2 := ⟨_, rfl⟩
  have hb2 : Below w.heap.size w w2 := by rw [← hw2]; exact hb1.trans (below_alloc8 w1 (by omega) _ |>.mono hz1)
  have hrow : w2.heap[w1.heap.size]? = some (.cells (rows8.map Value.string).toArray 9 (0, 0)) := by rw [← hw2]; exact heap_alloc_new w1 _
  simp only [rows8, List.map_cons, List.map_nil] at hw2
  rw [hw2]
  have HROW := Lib.hid hrow
  clear hw2 hrow
  have hN : w1.heap.size < w2.heap.size := (Array.getElem?_eq_some_iff.1 HROW.out).1
  have hz2 := hb2.size
  go_loopg [4, 5, 6] 30 (fun gg v4 v5 v6 wx => ∃ (i : Nat) (A : ByteArray), v4 = .string A ∧ v5 = .string (txt (runL A.data.toList)) ∧ v6 = .int .i64 (i : Int) ∧ i + gg = 30 ∧ i ≤ len ∧ A.size ≤ 13 * i ∧ (runL A.data.toList).length ≤ 300 * i ∧ Below w2.heap.size w2 wx ∧ Aside (Sofar A))
  case atStart =>
    exact ⟨0, ⟨#[]⟩, rfl, rfl, rfl, by omega, by omega, by decide, by rw [show runL (⟨#[]⟩ : ByteArray).data.toList = [] from runL_nil]; simp, Below.refl _ _, sofar_nil⟩
  case round =>
    obtain ⟨i, A, rfl, rfl, rfl, hi, hil, hAs, hAl, hbx, hS⟩ := hrel
    have hbw := hb2.trans (hbx.mono hz2)
    by_cases hgo : i < len ∧ i < 30
    · have q1 : ((i : Int) < (len : Int)) = True := by simp; omega
      have q2 : ((i : Int) < 30) = True := by simp; omega
      have ci : wr.cell? ⟨b, off + i, none⟩ = some (.int .i64 (zs.getD i 0)) := by
        rw [hbw.cell (p := ⟨b, off + i, none⟩) hb]; exact HC.out i (by omega)
      generalize zs.getD i 0 = z at *
      obtain ⟨k, hk8, hk⟩ := wrap8 z
      have hq8 : ((k : Int) < 8) = True := by simp; omega
      have hkl : k < rows8.length := hk8
      obtain ⟨x, hx⟩ : ∃ x, rows8[k]? = some x := ⟨_, List.getElem?_eq_getElem hkl⟩
      have cr : wr.cell? ⟨w1.heap.size, k, none⟩ = some (.string x) := by
        rw [hbx.cell (p := ⟨w1.heap.size, k, none⟩) hN, Lib.cell_of_heap HROW.out]
        simp [hx]
      obtain ⟨x1, x2, x3⟩ := rows8_ok k x hx
      have hR1 := HR.out x wr (HV.out.below hbw h8) (by omega)
      have hst := sofar_step (A := A) (x := x) hS.out
      have hzA : (A ++ x ++ ⟨#[10]⟩ : ByteArray).size ≤ 13 * (i + 1) := by rw [ByteArray.size_append, ByteArray.size_append]; show _ + 1 ≤ _; omega
      have hlA : (runL (A ++ x ++ ⟨#[10]⟩ : ByteArray).data.toList).length ≤ 300 * (i + 1) := by
        have h := congrArg ByteArray.size hst.2
        rw [ByteArray.size_append, txt_size, txt_size, txt_size] at h
        omega
      have g1 : (txt (runL A.data.toList)).size = (runL A.data.toList).length := txt_size _
      have g2 : (txt (runL x.data.toList)).size = (runL x.data.toList).length := txt_size _
      have HST := Lib.hid hst
      have HZ := Lib.hid hzA
      have HL := Lib.hid hlA
      have HR1 := Lib.hid hR1
      obtain ⟨g, rfl⟩ : ∃ g, gk = g + 1 := ⟨gk - 1, by omega⟩
      have HI := Lib.hid (show i + 1 ≤ len by omega)
      clear hx hkl hst hR1 hgo hzA hlA
      go_wp2_with fail
      refine HR1.out.mono ?_
      rintro e w3 ⟨rfl, hb3⟩
      have hb3' := hbx.trans (hb3.mono hbx.size)
      go_wp2_with fail
      refine (num0_calls _ _).mono ?_
      rintro e w4 ⟨rfl, rfl⟩
      go_wp2_with fail
      go_roundg g
      case measure => omega
      case rel => exact ⟨i + 1, _, rfl, by rw [HST.out.2], by rw [Int.natCast_add]; rfl, by omega, HI.out, HZ.out, HL.out, hb3', HST.out.1⟩
    · have hR1 := HR.out A wr (HV.out.below hbw h8) (by omega)
      have HR1 := Lib.hid hR1
      clear hR1
      by_cases h1 : i < len
      · have q1 : ((i : Int) < (len : Int)) = True := by simp; omega
        have q2 : ((i : Int) < 30) = False := by simp; omega
        clear hgo h1
        go_wp2_with fail
        refine HR1.out.mono ?_
        rintro e w3 ⟨rfl, hb3⟩
        have hb3' := hbw.trans (hb3.mono hbw.size)
        go_wp2_with fail
        refine (num0_calls _ _).mono ?_
        rintro e w4 ⟨rfl, rfl⟩
        go_wp2_with fail
        go_ret
        exact ⟨rfl, hb3'⟩
      · have q1 : ((i : Int) < (len : Int)) = False := by simp; omega
        clear hgo h1
        go_wp2_with fail
        refine HR1.out.mono ?_
        rintro e w3 ⟨rfl, hb3⟩
        have hb3' := hbw.trans (hb3.mono hbw.size)
        go_wp2_with fail
        refine (num0_calls _ _).mono ?_
        rintro e w4 ⟨rfl, rfl⟩
        go_wp2_with fail
        go_ret
        exact ⟨rfl, hb3'⟩
end Go.Proofs.YtolbfeggceemfaaGreatDoor
