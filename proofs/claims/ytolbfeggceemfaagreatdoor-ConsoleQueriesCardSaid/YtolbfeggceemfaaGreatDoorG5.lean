/-
  The walk of comp.Data. Condition: the text is of at most 100000 bytes, place and size of at most 100000.
-/
import Derived.Test.YtolbfeggceemfaaGreatDoorG4
import Derived.Test.YtolbfeggceemfaaGreatDoorC3
namespace Go.Proofs.YtolbfeggceemfaaGreatDoor
open Go.RowKit
namespace Rd
/-- What a record's data comes to, its names whole. -/
def dataOf (s : List UInt8) (i size t : Nat) : Option (List UInt8) :=
  if (shape t).2.1 = 0 then some ((s.drop i).take size)
  else if size < (shape t).1 + (shape t).2.2 then none
  else match names s (shape t).2.1 (i + (shape t).1) [] with
    | none => none
    | some r => if r.2 + (shape t).2.2 = i + size then some ((s.drop i).take (shape t).1 ++ r.1 ++ (s.drop r.2).take (shape t).2.2) else none
def data (s : List UInt8) (i size t : Nat) : Option (List UInt8) :=
  if s.length < i + size then none else match dataOf s i size t with
    | none => none
    | some o => if may t o = true then some o else none
end Rd
def DataPost (o : Option (List UInt8)) (w : World) (e : Ending) (w' : World) : Prop :=
  Below w.heap.size w w' ∧ match o with
    | some l => e = .returned (.tuple #[.string (txt l), .int .i64 0])
    | none => e = .returned (.tuple #[.string (txt []), .int .i64 500])

set_option maxHeartbeats 2000000 in
set_option maxRecDepth 100000 in
theorem data_cut (s : ByteArray) (i size t : Nat) (w : World) (hs : s.size ≤ 100000) (hi : i ≤ 100000) (_hz : size ≤ 100000) (h : s.size < i + size) :
    Calls Tryz.prog 116 #[.string s, .int .i64 (i : Int), .int .i64 (size : Int), .int .i64 (t : Int)] w fun e w' => e = .returned (.tuple #[.string (txt []), .int .i64 500]) ∧ w = w' := by
  by_cases h1 : s.size < i
  · have q : ((s.size : Int) < (i : Int)) = True := by simp; omega
    clear h h1
    go_enter Tryz.func116, Tryz.ntmps116
    go_wp2
    go_ret2
    exact ⟨rfl, rfl⟩
  · have q : ((s.size : Int) < (i : Int)) = False := by simp; omega
    have q2 : ((s.size : Int) - (i : Int) < (size : Int)) = True := by simp; omega
    clear h
    go_enter Tryz.func116, Tryz.ntmps116
    go_wp2
    go_ret2
    exact ⟨rfl, rfl⟩

set_option maxHeartbeats 2000000 in
set_option maxRecDepth 100000 in
theorem data_plain (s : ByteArray) (i size t : Nat) (w : World) (hs : s.size ≤ 100000) (h : i + size ≤ s.size) (h0 : (Rd.shape t).2.1 = 0) :
    Calls Tryz.prog 116 #[.string s, .int .i64 (i : Int), .int .i64 (size : Int), .int .i64 (t : Int)] w (DataPost (if Rd.may t ((s.data.toList.drop i).take size) = true then some ((s.data.toList.drop i).take size) else none) w) := by
  have q : ((s.size : Int) < (i : Int)) = False := by simp; omega
  have q2 : ((s.size : Int) - (i : Int) < (size : Int)) = False := by simp; omega
  have qi : ((i : Int) < 0) = False := by simp
  have qz : ((size : Int) < 0) = False := by simp
  obtain ⟨j, hj⟩ : ∃ j, i + size = j := ⟨_, rfl⟩
  have e1 : (i : Int) + (size : Int) = (j : Int) := by omega
  have hij : (i : Int) ≤ (j : Int) := by omega
  have hjs : (j : Int) ≤ (s.size : Int) := by omega
  have hsh := fun W => shape_calls t W
  have e0 : ((Rd.shape t).2.1 : Int) = 0 := by omega
  rw [e0] at hsh
  have hex : (s.extract i j).data.toList = (s.data.toList.drop i).take size := by
    rw [Lib.extract_data]
    congr 1
    omega
  have hm := fun W => mayData_calls t (s.extract i j) W (by simp only [ByteArray.size_extract]; omega)
  rw [hex] at hm
  have htx : txt ((s.data.toList.drop i).take size) = s.extract i j := by rw [← hex, txt_of]
  generalize Rd.may t ((s.data.toList.drop i).take size) = r at *
  generalize (s.data.toList.drop i).take size = l at *
  obtain ⟨po, hpo⟩ : ∃ po, (if r = true then some l else none) = po := ⟨_, rfl⟩
  rw [hpo]
  have HPO := Lib.hid hpo
  have HTX := Lib.hid htx
  have HSH := Lib.hid hsh
  have HM := Lib.hid hm
  clear hsh hm hex htx hj h h0 e0 hpo
  go_enter Tryz.func116, Tryz.ntmps116
  go_wp2_with fail
  all_goals
    refine (HSH.out _).mono ?_
    rintro e w1 ⟨rfl, rfl⟩
    go_wp2_with fail
    refine (HM.out _).mono ?_
    rintro e w1 ⟨rfl, hb⟩
    cases r with
    | true =>
      go_wp2_with fail
      go_ret2
      rw [← HPO.out]
      refine ⟨hb, ?_⟩
      show _ = Ending.returned (.tuple #[.string (txt l), .int .i64 0])
      rw [HTX.out]
      rfl
    | false =>
      go_wp2_with fail
      go_ret2
      rw [← HPO.out]
      exact ⟨hb, rfl⟩
end Go.Proofs.YtolbfeggceemfaaGreatDoor
