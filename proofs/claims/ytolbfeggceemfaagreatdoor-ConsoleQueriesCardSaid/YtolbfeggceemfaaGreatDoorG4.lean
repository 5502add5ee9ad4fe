/-
  The walks of comp.shape, names, Data. Condition: the text is of at most 100000 bytes, the place within it.
-/
import Derived.Test.YtolbfeggceemfaaGreatDoorG1
import Derived.Test.YtolbfeggceemfaaGreatDoorG3
namespace Go.Proofs.YtolbfeggceemfaaGreatDoor
open Go.RowKit
namespace Rd
/-- Bytes ahead of names, names, bytes behind them, in a type's data. -/
def shape (t : Nat) : Nat × Nat × Nat := if t = 2 ∨ t = 5 ∨ t = 12 then (0, 1, 0) else if t = 15 then (2, 1, 0) else if t = 6 then (0, 2, 20) else (0, 0, 0)
/-- So many names one behind the other; the place behind. -/
def names (s : List UInt8) : Nat → Nat → List UInt8 → Option (List UInt8 × Nat)
  | 0, i, out => some (out, i)
  | m + 1, i, out => match name s i with
    | none => none
    | some (n, p) => names s m p.toNat (out ++ n)
theorem nm_range (s : List UInt8) : ∀ (f i began : Nat) (beh : Int) (out : List UInt8) (r : List UInt8 × Int), nm s f i began beh out = some r → beh ≤ s.length → 0 ≤ r.2 ∧ r.2 ≤ s.length ∧ r.1.length ≤ 320
  | 0, _, _, _, _, _, h, _ => by simp [nm] at h
  | f + 1, i, began, beh, out, r, h, hb => by
    rw [nm] at h
    split at h
    · rename_i hc
      split at h
      · cases h
        simp only [List.length_append, List.length_cons, List.length_nil]
        refine ⟨?_, ?_, by omega⟩ <;> (split <;> omega)
      · split at h
        · exact nm_range s f _ _ _ _ r h hb
        · split at h
          · rename_i hp
            split at h
            · cases h
            · exact nm_range s f _ _ _ _ r h (by split <;> omega)
          · cases h
    · cases h
theorem name_range {s : List UInt8} {i : Nat} {r : List UInt8 × Int} (h : name s i = some r) : 0 ≤ r.2 ∧ r.2 ≤ s.length ∧ r.1.length ≤ 320 :=
  nm_range s _ _ _ _ _ r h (by omega)
end Rd

set_option maxHeartbeats 2000000 in
set_option maxRecDepth 100000 in
theorem shape_calls (t : Nat) (w : World) :
    Calls Tryz.prog 140 #[.int .i64 (t : Int)] w fun e w' => e = .returned (.tuple #[.int .i64 ((Rd.shape t).1 : Int), .int .i64 ((Rd.shape t).2.1 : Int), .int .i64 ((Rd.shape t).2.2 : Int)]) ∧ w = w' := by
  unfold Rd.shape
  by_cases h3 : t = 2 ∨ t = 5 ∨ t = 12
  · rw [if_pos h3]
    rcases h3 with rfl | rfl | rfl
    all_goals
      go_enter Tryz.func140, Tryz.ntmps140
      go_wp2
      go_ret3
      exact ⟨rfl, rfl⟩
  · rw [if_neg h3]
    have q3 : ((t : Int) == 2) = false := by simp; omega
    have q4 : ((t : Int) == 5) = false := by simp; omega
    have q5 : ((t : Int) == 12) = false := by simp; omega
    by_cases h4 : t = 15
    · subst h4
      rw [if_pos rfl]
      clear h3 q3 q4 q5
      go_enter Tryz.func140, Tryz.ntmps140
      go_wp2
      go_ret3
      exact ⟨rfl, rfl⟩
    · rw [if_neg h4]
      have q6 : ((t : Int) == 15) = false := by simp; omega
      by_cases h5 : t = 6
      · subst h5
        rw [if_pos rfl]
        clear h3 h4 q3 q4 q5 q6
        go_enter Tryz.func140, Tryz.ntmps140
        go_wp2
        go_ret3
        exact ⟨rfl, rfl⟩
      · rw [if_neg h5]
        have q7 : ((t : Int) == 6) = false := by simp; omega
        clear h3 h4 h5
        go_enter Tryz.func140, Tryz.ntmps140
        go_wp2
        go_ret3
        exact ⟨rfl, rfl⟩

def NamesPost (o : Option (List UInt8 × Nat)) (w : World) (e : Ending) (w' : World) : Prop :=
  Below w.heap.size w w' ∧ match o with
    | some r => e = .returned (.tuple #[.string (txt r.1), .int .i64 (r.2 : Int), .int .i64 0])
    | none => e = .returned (.tuple #[.string (txt []), .int .i64 0, .int .i64 500])

set_option maxHeartbeats 2000000 in
set_option maxRecDepth 100000 in
theorem names_calls (s : ByteArray) (i m : Nat) (w : World) (hs : s.size ≤ 100000) (hi : i ≤ 100000) (hm : m ≤ 2) :
    Calls Tryz.prog 141 #[.string s, .int .i64 (i : Int), .int .i64 (m : Int)] w (NamesPost (Rd.names s.data.toList m i []) w) := by
  obtain ⟨o, ho⟩ : ∃ o, Rd.names s.data.toList m i [] = o := ⟨_, rfl⟩
  rw [ho]
  have HO := Lib.hid ho
  clear ho
  go_enter Tryz.func141, Tryz.ntmps141
  go_wp2
  go_loopg [1, 9, 14] m (fun gg v1 v9 v14 wx => ∃ (k j : Nat) (out : List UInt8), v1 = .int .i64 (j : Int) ∧ v9 = .string (txt out) ∧ v14 = .int .i64 (k : Int) ∧ k + gg = m ∧ j ≤ 100000 ∧ out.length ≤ 320 * k ∧ Below w.heap.size w wx ∧ Aside (Rd.names s.data.toList gg j out = o))
  case atStart => exact ⟨0, i, [], rfl, rfl, rfl, by omega, hi, by simp, Below.refl _ _, HO.out⟩
  case round =>
    obtain ⟨k, j, out, rfl, rfl, rfl, hk, hj, hol, hb, HA⟩ := hrel
    have hbs := hb.size
    cases gk with
    | zero =>
      have hq : ((k : Int) < (m : Int)) = False := by simp; omega
      have hz : o = some (out, j) := HA.out.symm
      have HZ := Lib.hid hz
      clear hz
      go_wp2
      go_ret3
      rw [HZ.out]
      exact ⟨hb, rfl⟩
    | succ g =>
      have hq : ((k : Int) < (m : Int)) = True := by simp; omega
      have hc := compName_calls s j wr hs hj
      have hst := HA.out
      rw [Rd.names] at hst
      cases hn : Rd.name s.data.toList j with
      | none =>
        rw [hn] at hst hc
        have HST := Lib.hid hst
        have HC := Lib.hid hc
        clear hst hc hn
        go_wp2_with fail
        refine HC.out.mono ?_
        rintro e w1 ⟨hb1, rfl⟩
        go_wp2_with fail
        go_ret3
        rw [← HST.out]
        exact ⟨hb.trans (hb1.mono hbs), rfl⟩
      | some r =>
        obtain ⟨hr0, hr1, hr2⟩ := Rd.name_range hn
        rw [← Lib.size_eq] at hr1
        rw [hn] at hst hc
        obtain ⟨n, p⟩ := r
        obtain ⟨p, rfl⟩ : ∃ p' : Nat, p = (p' : Int) := ⟨p.toNat, by simp only at hr0; omega⟩
        simp only [Int.toNat_natCast] at hst hr1 hr2
        have HST := Lib.hid hst
        have HC := Lib.hid hc
        have hcat : txt out ++ txt n = txt (out ++ n) := txt_append _ _
        have hsz : (txt out).size + (txt n).size ≤ 9223372036854775807 := by rw [txt_size, txt_size]; omega
        have h1 : (txt out).size ≤ 100000 := by rw [txt_size]; omega
        have h2 : (txt n).size ≤ 100000 := by rw [txt_size]; omega
        clear hst hc hn
        go_wp2_with fail
        refine HC.out.mono ?_
        rintro e w1 ⟨hb1, rfl⟩
        go_wp2_with fail
        go_roundg g
        case measure => omega
        case rel => exact ⟨k + 1, p, out ++ n, rfl, rfl, by simp, by omega, by omega, by rw [List.length_append]; omega, hb.trans (hb1.mono hbs), HST.out⟩
end Go.Proofs.YtolbfeggceemfaaGreatDoor
