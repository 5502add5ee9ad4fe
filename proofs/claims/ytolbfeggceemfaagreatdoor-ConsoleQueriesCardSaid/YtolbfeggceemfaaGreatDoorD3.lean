/-
  Lines, plain: what a script of lines tells is what its lines tell, one behind the other. Condition: none.
-/
import Derived.Test.YtolbfeggceemfaaGreatDoorD1
namespace Go.Proofs.YtolbfeggceemfaaGreatDoor
open Go.RowKit
namespace Ln
/-- A text cut at each LF. -/
def cut : List UInt8 → List (List UInt8)
  | [] => [[]]
  | c :: r => if c = 10 then [] :: cut r else match cut r with
    | [] => [[c]]
    | h :: t => (c :: h) :: t
theorem cut_ne : ∀ l : List UInt8, cut l ≠ []
  | [] => by simp [cut]
  | c :: r => by
    rw [cut]
    split
    · simp
    · split <;> simp
theorem cut_append (y : List UInt8) : ∀ x : List UInt8, cut (x ++ 10 :: y) = cut x ++ cut y
  | [] => by
    simp [cut]
  | c :: r => by
    show cut (c :: (r ++ 10 :: y)) = _
    rw [cut, cut, cut_append y r]
    split
    · rfl
    · cases h : cut r with
      | nil => exact absurd h (cut_ne r)
      | cons a t => rfl
theorem cut_none : ∀ l : List UInt8, 10 ∉ l → cut l = [l]
  | [], _ => rfl
  | c :: r, h => by
    have h1 : c ≠ 10 := fun e => h (by rw [e]; exact List.mem_cons_self ..)
    have h2 : 10 ∉ r := fun e => h (List.mem_cons_of_mem _ e)
    rw [cut, if_neg h1, cut_none r h2]

theorem index_none : ∀ l : List UInt8, Lib.index l [10] = -1 → 10 ∉ l
  | [], _ => by simp
  | c :: r, h => by
    rw [Lib.index] at h
    by_cases hc : c = 10
    · subst hc
      simp [List.isPrefixOf] at h
    · have hp : ([10] : List UInt8).isPrefixOf (c :: r) = false := by simp [List.isPrefixOf, Ne.symm hc]
      rw [hp] at h
      have hge := Lib.index_ge r [10]
      have hr : Lib.index r [10] = -1 := by
        by_cases hm : Lib.index r [10] = -1
        · exact hm
        · simp [hm] at h
          omega
      have := index_none r hr
      intro hmem
      rcases List.mem_cons.1 hmem with e | e
      · exact hc e.symm
      · exact this e
theorem index_some : ∀ (l : List UInt8) (i : Nat), Lib.index l [10] = (i : Int) → l = l.take i ++ 10 :: l.drop (i + 1) ∧ 10 ∉ l.take i
  | [], i, h => by
    simp [Lib.index] at h
  | c :: r, i, h => by
    rw [Lib.index] at h
    by_cases hc : c = 10
    · subst hc
      simp [List.isPrefixOf] at h
      have : i = 0 := by omega
      subst this
      simp
    · have hp : ([10] : List UInt8).isPrefixOf (c :: r) = false := by simp [List.isPrefixOf, Ne.symm hc]
      rw [hp] at h
      have hge := Lib.index_ge r [10]
      by_cases hm : Lib.index r [10] = -1
      · simp [hm] at h
      · simp [hm] at h
        obtain ⟨j, rfl⟩ : ∃ j, i = j + 1 := ⟨i - 1, by omega⟩
        obtain ⟨h1, h2⟩ := index_some r j (by omega)
        refine ⟨?_, ?_⟩
        · rw [List.take_succ_cons, List.drop_succ_cons, List.cons_append, ← h1]
        · rw [List.take_succ_cons]
          intro hmem
          rcases List.mem_cons.1 hmem with e | e
          · exact hc e.symm
          · exact h2 e
theorem split_cut : ∀ (k : Nat) (s : ByteArray), Lib.countB s ⟨#[10]⟩ = k → (Lib.splitB ⟨#[10]⟩ 0 k s).map (fun x => x.data.toList) = cut s.data.toList
  | k, s, hk => by
    rcases Lib.indexB_cases s ⟨#[10]⟩ with hix | ⟨i, hix, hroom⟩
    · rw [Lib.splitB_miss _ _ _ _ hix]
      have h1 : Lib.index s.data.toList [10] = -1 := by simpa [Lib.indexB, Lib.toList_data] using hix
      rw [cut_none _ (index_none _ h1)]
      rfl
    · have hc := Lib.countB_hit s ⟨#[10]⟩ i (by decide) hix
      have h1 : Lib.index s.data.toList [10] = (i : Int) := by simpa [Lib.indexB, Lib.toList_data] using hix
      obtain ⟨e1, e2⟩ := index_some _ i h1
      cases k with
      | zero => omega
      | succ k =>
        have hs1 : (⟨#[10]⟩ : ByteArray).size = 1 := rfl
        rw [hs1] at hc hroom
        rw [Lib.splitB_hit _ _ _ _ i hix, List.map_cons, Nat.add_zero, hs1, split_cut k _ (by omega), Lib.extract_to_end]
        have : (s.extract 0 i).data.toList = s.data.toList.take i := by rw [Lib.extract_data]; simp
        rw [this]
        conv => rhs; rw [e1]
        rw [cut_append, cut_none _ e2]
        rfl
end Ln
/-- What a script tells, on lists. -/
def runL (l : List UInt8) : List UInt8 := (Ln.cut l).flatMap fun x => Nu.lineOut tellT (txt x)
theorem runOut_eq (s : ByteArray) : Nu.runOut tellT s = runL s.data.toList := by
  unfold Nu.runOut runL
  rw [← Ln.split_cut _ s rfl, List.flatMap_map]
  simp only [txt_of]
theorem lineOut_nil : Nu.lineOut tellT (txt []) = [] := by kernel_rfl
theorem runL_nil : runL [] = [] := by
  unfold runL
  simp only [Ln.cut, List.flatMap_cons, List.flatMap_nil, lineOut_nil, List.append_nil]
theorem runL_append (x y : List UInt8) : runL (x ++ 10 :: y) = runL x ++ runL y := by
  unfold runL
  rw [Ln.cut_append, List.flatMap_append]
theorem runL_line (x : List UInt8) : runL (x ++ [10]) = runL x := by rw [runL_append, runL_nil, List.append_nil]
theorem runL_one (x : List UInt8) (h : 10 ∉ x) : runL x = Nu.lineOut tellT (txt x) := by
  unfold runL
  rw [Ln.cut_none x h, List.flatMap_cons, List.flatMap_nil, List.append_nil]
theorem runE_short (s : ByteArray) (h : s.size ≤ 16384) : runE s = (runL s.data.toList, 0) := by
  unfold runE
  rw [if_neg (by omega), runOut_eq]
theorem runE_long (s : ByteArray) (h : 16384 < s.size) : runE s = ([], 2801) := by
  unfold runE
  rw [if_pos h]
end Go.Proofs.YtolbfeggceemfaaGreatDoor
