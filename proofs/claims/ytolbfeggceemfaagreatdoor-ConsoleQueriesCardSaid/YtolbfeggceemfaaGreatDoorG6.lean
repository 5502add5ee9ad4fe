/-
  The walk of comp.Data where names stand in the data. Condition: the text is of at most 100000 bytes, the data lies within it.
-/
import Derived.Test.YtolbfeggceemfaaGreatDoorG5
namespace Go.Proofs.YtolbfeggceemfaaGreatDoor
open Go.RowKit
namespace Rd
theorem names_range (s : List UInt8) : ∀ (m i : Nat) (out : List UInt8) (r : List UInt8 × Nat), names s m i out = some r → i ≤ s.length → r.2 ≤ s.length ∧ r.1.length ≤ out.length + 320 * m
  | 0, i, out, r, h, hi => by
    simp only [names, Option.some.injEq] at h
    subst h
    exact ⟨hi, by simp⟩
  | m + 1, i, out, r, h, _ => by
    rw [names] at h
    split at h
    · cases h
    · rename_i n p hn
      have h1 := name_range hn
      have h2 := names_range s m p.toNat _ r h (by omega)
      rw [List.length_append] at h2
      simp only at h1
      omega
theorem shape_small (t : Nat) : (shape t).1 ≤ 2 ∧ (shape t).2.1 ≤ 2 ∧ (shape t).2.2 ≤ 20 := by
  unfold shape
  split
  · simp
  · split
    · simp
    · split <;> simp
end Rd

set_option maxHeartbeats 4000000 in
set_option maxRecDepth 100000 in
theorem data_names (s : ByteArray) (i size t : Nat) (w : World) (hs : s.size ≤ 100000) (h : i + size ≤ s.size) (h0 : (Rd.shape t).2.1 ≠ 0) :
    Calls Tryz.prog 116 #[.string s, .int .i64 (i : Int), .int .i64 (size : Int), .int .i64 (t : Int)] w (DataPost (Rd.data s.data.toList i size t) w) := by
  have hsm := Rd.shape_small t
  have hsh := fun W => shape_calls t W
  have hd : Rd.data s.data.toList i size t = match Rd.dataOf s.data.toList i size t with
      | none => none
      | some o => if Rd.may t o = true then some o else none := by
    rw [Rd.data, if_neg (by rw [← Lib.size_eq]; omega)]
    rfl
  rw [hd, Rd.dataOf, if_neg h0]
  clear hd
  generalize hsp : Rd.shape t = sp at *
  obtain ⟨a, m, b⟩ := sp
  simp only at hsm hsh h0 ⊢
  obtain ⟨ha, hm, hb⟩ := hsm
  have q : ((s.size : Int) < (i : Int)) = False := by simp; omega
  have q2 : ((s.size : Int) - (i : Int) < (size : Int)) = False := by simp; omega
  have qi : ((i : Int) < 0) = False := by simp
  have qz : ((size : Int) < 0) = False := by simp
  have qm : 0 < m := by omega
  obtain ⟨j, hj⟩ : ∃ j, i + size = j := ⟨_, rfl⟩
  have e1 : (i : Int) + (size : Int) = (j : Int) := by omega
  have hij : (i : Int) ≤ (j : Int) := by omega
  have hjs : (j : Int) ≤ (s.size : Int) := by omega
  have HSH := Lib.hid hsh
  clear hsh h0
  by_cases hc : size < a + b
  · rw [if_pos hc]
    have q3 : ((size : Int) < (a : Int) + (b : Int)) = True := by simp; omega
    clear hj h hc
    go_enter Tryz.func116, Tryz.ntmps116
    go_wp2_with fail
    refine (HSH.out _).mono ?_
    rintro e w1 ⟨rfl, rfl⟩
    go_wp2_with fail
    go_ret2
    exact ⟨Below.refl _ _, rfl⟩
  · rw [if_neg hc]
    have q3 : ((size : Int) < (a : Int) + (b : Int)) = False := by simp; omega
    obtain ⟨k, hk⟩ : ∃ k, i + a = k := ⟨_, rfl⟩
    have e2 : (i : Int) + (a : Int) = (k : Int) := by omega
    have hik : (i : Int) ≤ (k : Int) := by omega
    have hks : (k : Int) ≤ (s.size : Int) := by omega
    have hN := fun W => names_calls s k m W hs (by omega) (by omega)
    rw [hk]
    cases hn : Rd.names s.data.toList m k [] with
    | none =>
      rw [hn] at hN
      have HN := Lib.hid hN
      clear hj h hc hN hn hk
      go_enter Tryz.func116, Tryz.ntmps116
      go_wp2_with fail
      refine (HSH.out _).mono ?_
      rintro e w1 ⟨rfl, rfl⟩
      go_wp2_with fail
      refine (HN.out _).mono ?_
      rintro e w2 ⟨hb2, rfl⟩
      go_wp2_with fail
      go_ret2
      exact ⟨hb2, rfl⟩
    | some r =>
      obtain ⟨hr1, hr2⟩ := Rd.names_range _ _ _ _ _ hn (by rw [← Lib.size_eq]; omega)
      rw [← Lib.size_eq] at hr1
      rw [hn] at hN
      obtain ⟨n, p⟩ := r
      simp only at hr1 hr2 ⊢
      have HN := Lib.hid hN
      by_cases hp : p + b = i + size
      · rw [if_pos hp]
        have q4 : ((p : Int) != (j : Int) - (b : Int)) = false := by simp; omega
        have hpj : (p : Int) ≤ (j : Int) := by omega
        obtain ⟨la, hla⟩ : ∃ la, (s.data.toList.drop i).take a = la := ⟨_, rfl⟩
        obtain ⟨lb, hlb⟩ : ∃ lb, (s.data.toList.drop p).take b = lb := ⟨_, rfl⟩
        have eA : s.extract i k = txt la := by
          rw [← hla, ← txt_of (s.extract i k), Lib.extract_data]
          congr 2
          omega
        have eB : s.extract p j = txt lb := by
          rw [← hlb, ← txt_of (s.extract p j), Lib.extract_data]
          congr 2
          omega
        have hla2 : la.length ≤ 100 := by rw [← hla, List.length_take]; omega
        have hlb2 : lb.length ≤ 100 := by rw [← hlb, List.length_take]; omega
        have hn2 : n.length ≤ 1000 := by simp at hr2; omega
        rw [hla, hlb]
        dsimp only
        have s1 : (txt la).size ≤ 100 := by rw [txt_size]; exact hla2
        have s2 : (txt n).size ≤ 1000 := by rw [txt_size]; exact hn2
        have s3 : (txt lb).size ≤ 100 := by rw [txt_size]; exact hlb2
        have s4 : (txt (la ++ n)).size ≤ 2000 := by rw [txt_size, List.length_append]; omega
        have c1 : txt la ++ txt n = txt (la ++ n) := txt_append _ _
        have c2 : txt (la ++ n) ++ txt lb = txt (la ++ n ++ lb) := txt_append _ _
        have hM := fun W => mayData_calls t (txt (la ++ n ++ lb)) W (by rw [txt_size, List.length_append, List.length_append]; omega)
        rw [txt_data] at hM
        generalize la ++ n ++ lb = out at *
        generalize Rd.may t out = rm at *
        obtain ⟨po, hpo⟩ : ∃ po, (if rm = true then some out else none) = po := ⟨_, rfl⟩
        rw [hpo]
        have HPO := Lib.hid hpo
        have HM := Lib.hid hM
        clear hj h hc hN hn hk hM hp hla hlb hpo
        go_enter Tryz.func116, Tryz.ntmps116
        go_wp2_with fail
        refine (HSH.out _).mono ?_
        rintro e w1 ⟨rfl, rfl⟩
        go_wp2_with fail
        refine (HN.out _).mono ?_
        rintro e w2 ⟨hb2, rfl⟩
        go_wp2_with fail
        refine region_cls (fun w' => Below w.heap.size w w') (by kernel_rfl) (by kernel_rfl) hb2.drew (fun hne => ?_)
        repeat (go_big_quiet_step (fail))
        refine wpQuiet_nil ?_
        intro w3 hb3
        go_wp2_with fail
        refine (HM.out _).mono ?_
        rintro e w4 ⟨rfl, hb4⟩
        cases rm with
        | true =>
          go_wp2_with fail
          go_ret2
          rw [← HPO.out]
          exact ⟨hb3.trans (hb4.mono hb3.size), rfl⟩
        | false =>
          go_wp2_with fail
          go_ret2
          rw [← HPO.out]
          exact ⟨hb3.trans (hb4.mono hb3.size), rfl⟩
      · rw [if_neg hp]
        have q4 : ((p : Int) != (j : Int) - (b : Int)) = true := by simp; omega
        clear hj h hc hN hn hk hp
        go_enter Tryz.func116, Tryz.ntmps116
        go_wp2_with fail
        refine (HSH.out _).mono ?_
        rintro e w1 ⟨rfl, rfl⟩
        go_wp2_with fail
        refine (HN.out _).mono ?_
        rintro e w2 ⟨hb2, rfl⟩
        go_wp2_with fail
        go_ret2
        exact ⟨hb2, rfl⟩

/-- comp.Data. -/
theorem data_calls (s : ByteArray) (i size t : Nat) (w : World) (hs : s.size ≤ 100000) (hi : i ≤ 100000) (hz : size ≤ 100000) :
    Calls Tryz.prog 116 #[.string s, .int .i64 (i : Int), .int .i64 (size : Int), .int .i64 (t : Int)] w (DataPost (Rd.data s.data.toList i size t) w) := by
  by_cases h : s.size < i + size
  · refine (data_cut s i size t w hs hi hz h).mono ?_
    rintro e w' ⟨rfl, rfl⟩
    rw [Rd.data, if_pos (by rw [← Lib.size_eq]; exact h)]
    exact ⟨Below.refl _ _, rfl⟩
  · by_cases h0 : (Rd.shape t).2.1 = 0
    · have := data_plain s i size t w hs (by omega) h0
      rw [Rd.data, if_neg (by rw [← Lib.size_eq]; exact h), Rd.dataOf, if_pos h0]
      exact this
    · exact data_names s i size t w hs (by omega) h0
end Go.Proofs.YtolbfeggceemfaaGreatDoor
