/-
  The walk of console's query. Condition: the words are two numbers below 10^12 and a name; the variables read as the program lays them.
-/
import Derived.Test.YtolbfeggceemfaaGreatDoorW11
import Derived.Test.YtolbfeggceemfaaGreatDoorC5
namespace Go.Proofs.YtolbfeggceemfaaGreatDoor
open Go.RowKit
namespace Ms
/-- A question's bytes and an error. -/
def queryE (id : Nat) (n : List UInt8) (t : Nat) : List UInt8 × Int := if id ≤ 65535 ∧ 1 ≤ t ∧ t ≤ 65535 then (query id (Nm.fold n) t, 0) else ([], 1000)
theorem query_length (id : Nat) (n : List UInt8) (t : Nat) : (query id n t).length ≤ n.length + 300 := by
  have h := (pads_eq id n t).2
  unfold query
  rw [put_length]
  simp [padData, Oc.p16]
  omega
end Ms
theorem query_calls (id t : Nat) (n : List UInt8) (ls : List (List UInt8)) (w : World) (hn : Nm.labels n = some ls) :
    Calls Tryz.prog 63 #[.int .i64 (id : Int), stepVal n t] w fun e w' => e = .returned (.tuple #[.string (txt (Ms.queryE id n t).1), .int .i64 (Ms.queryE id n t).2]) ∧ Below w.heap.size w w' := by
  unfold Ms.queryE
  by_cases h : id ≤ 65535 ∧ 1 ≤ t ∧ t ≤ 65535
  · rw [if_pos h]
    exact query_ok id t n ls w hn h.1 h.2.1 h.2.2
  · rw [if_neg h]
    exact query_bad id t n ls w hn (by omega)

namespace Nu
/-- A byte's two digits. -/
def hexB (b : UInt8) : List UInt8 := [hexd[b.toNat / 16]'(by have := UInt8.toNat_lt b; show _ < 16; omega), hexd[b.toNat % 16]'(by show _ < 16; omega)]
end Nu

set_option maxHeartbeats 4000000 in
set_option maxRecDepth 100000 in
theorem tellQuery_calls (w : World) (b : Nat) (n0 n1 : Nat) (a : List UInt8) (ls : List (List UInt8)) (bs : List UInt8) (hW : WordsAt w b [n0, n1] [a] bs) (hV : Vars w) (hn : Nm.labels a = some ls) :
    Calls Tryz.prog 46 #[.pointer (some ⟨b, 0, none⟩)] w fun e w' => e = .returned (.string (txt (Nu.told ((Ms.queryE n0 a n1).1.flatMap Nu.hexB) (Ms.queryE n0 a n1).2))) ∧ Below w.heap.size w w' := by
  obtain ⟨g, cap, hs⟩ := see_ns hW (by simp)
  obtain ⟨g2, cap2, hs2⟩ := see_names hW (by simp)
  have c0 : ∀ W : Cls (fun w' => Below w.heap.size w w'), W.w.cell? ⟨b, 0, none⟩ = some (.slice (some ⟨g, 0, none⟩) 2 cap) := fun W => (hs W.w W.h).1
  have c1 : ∀ W : Cls (fun w' => Below w.heap.size w w'), W.w.cell? ⟨g, 0, none⟩ = some (.int .i64 (n0 : Int)) := fun W => (hs W.w W.h).2 0 n0 rfl
  have c2 : ∀ W : Cls (fun w' => Below w.heap.size w w'), W.w.cell? ⟨g, 1, none⟩ = some (.int .i64 (n1 : Int)) := fun W => (hs W.w W.h).2 1 n1 rfl
  have c3 : ∀ W : Cls (fun w' => Below w.heap.size w w'), W.w.cell? ⟨b, 1, none⟩ = some (.slice (some ⟨g2, 0, none⟩) 1 cap2) := fun W => (hs2 W.w W.h).1
  have c4 : ∀ W : Cls (fun w' => Below w.heap.size w w'), W.w.cell? ⟨g2, 0, none⟩ = some (.string (txt a)) := fun W => (hs2 W.w W.h).2 0 a rfl
  have hC := fun W => query_calls n0 n1 a ls W hn
  have hql : (Ms.queryE n0 a n1).1.length ≤ 2000 ∧ 0 ≤ (Ms.queryE n0 a n1).2 ∧ (Ms.queryE n0 a n1).2 ≤ 1000 := by
    unfold Ms.queryE
    split
    · have h1 := Ms.query_length n0 (Nm.fold a) n1
      have h2 := Nm.fold_le a
      have h3 := (Nm.labels_some hn).2.2
      simp only
      omega
    · simp
  unfold stepVal at hC
  generalize Ms.queryE n0 a n1 = qe at *
  obtain ⟨s, c⟩ := qe
  have HC := Lib.hid hC
  have HV := Lib.hid hV
  have h8 := hV.size
  clear hs hs2 hC hV
  go_enter Tryz.func46, Tryz.ntmps46
  go_wp2_with fail
  refine region_cls (fun w' => Below w.heap.size w w') (by kernel_rfl) (by kernel_rfl) (Below.refl _ _).drew (fun hne => ?_)
  repeat (go_big_quiet_step ((go_at_call 63; rename_i W; have hb := W.h; refine (HC.out _).mono ?_; rintro e wf ⟨rfl, hbf⟩; exact ⟨rfl, ⟨_, hb.trans (hbf.mono hb.size)⟩, rfl⟩)))
  refine wpQuiet_nil ?_
  intro w2 hb2
  clear c0 c1 c2 c3 c4
  go_wp2_with fail
  have hss : (txt s).size = s.length := txt_size s
  go_loopg [32] s.length (fun gg v32 wx => ∃ (k : Nat), v32 = .int .i64 (k : Int) ∧ k + gg = s.length ∧ Lib.IsBuilderF 49 5 w2.heap.size w2.heap.size (Lib.byteCells ((s.take k).flatMap Nu.hexB)) wx ∧ Below w2.heap.size w2 wx)
  case atStart => exact ⟨0, rfl, by omega, Lib.IsBuilderF.of (Lib.fresh_isBuilder 49 5 w2), (Below.refl _ w2).alloc (Nat.le_refl _) _⟩
  case round =>
    obtain ⟨k, rfl, hk, hI, hbx⟩ := hrel
    have hbs := hbx.size
    have hbw := hb2.trans (hbx.mono hb2.size)
    have hbl : (Lib.byteCells ((s.take k).flatMap Nu.hexB)).length ≤ 4000 := by
      rw [Lib.byteCells_length]
      have h : ∀ l : List UInt8, (l.flatMap Nu.hexB).length = 2 * l.length := by
        intro l
        induction l with
        | nil => rfl
        | cons x r ih => rw [List.flatMap_cons, List.length_append, ih]; simp [Nu.hexB]; omega
      rw [h, List.length_take]
      omega
    cases gk with
    | zero =>
      have hk0 : ((k : Int) < (s.length : Int)) = False := by simp; omega
      rw [List.take_of_length_le (by omega)] at hI hbl
      have HT := Lib.hid (fun W (hV : Vars W) => told_calls (s.flatMap Nu.hexB) c W hV (by omega) (by omega))
      clear hk
      go_wp2_with (first
        | (go_at_call 27; refine (Tryz.Builder_String_any_k w2.heap.size w2.heap.size _ _ hI (by omega)).mono ?_; rintro e w3 ⟨rfl, _, b2, _⟩; have hb3 := hb2.trans ((hbx.trans b2).mono hb2.size))
        | (go_at_call 50; refine (HT.out _ (HV.out.below hb3 h8)).mono ?_; rintro e w4 ⟨rfl, hb4⟩))
      go_ret
      exact ⟨rfl, hb3.trans (hb4.mono hb3.size)⟩
    | succ gg =>
      have hk' : k < s.length := by omega
      have hkz : k < (txt s).size := by rw [hss]; exact hk'
      have hx := UInt8.toNat_lt (txt s)[k]
      have hsk : (txt s)[k] = s[k] := by
        have h1 : (txt s).data.toList[k]? = s[k]? := by rw [txt_data]
        rw [List.getElem?_eq_getElem (by simpa using hkz), List.getElem?_eq_getElem hk'] at h1
        exact Option.some.inj h1
      obtain ⟨u, hu⟩ : ∃ u, (txt s)[k].toNat / 16 = u := ⟨_, rfl⟩
      obtain ⟨v, hv⟩ : ∃ v, (txt s)[k].toNat % 16 = v := ⟨_, rfl⟩
      have hu2 : ((txt s)[k].toNat : Int) / 16 = (u : Int) := by omega
      have hv2 : ((txt s)[k].toNat : Int) % 16 = (v : Int) := by omega
      have hu3 : u < 16 := by omega
      have hv3 : v < 16 := by omega
      have hu4 : (u : Int) < 16 := by omega
      have hv4 : (v : Int) < 16 := by omega
      have hB : Nu.hexB s[k] = [Nu.hexd[u]'hu3, Nu.hexd[v]'hv3] := by
        subst hu
        subst hv
        rw [← hsk]
        rfl
      have hnx : (s.take (k + 1)).flatMap Nu.hexB = (s.take k).flatMap Nu.hexB ++ [Nu.hexd[u]'hu3, Nu.hexd[v]'hv3] := by
        rw [List.take_succ_eq_append_getElem hk', List.flatMap_append, List.flatMap_cons, List.flatMap_nil, List.append_nil]; exact congrArg (fun z => List.flatMap Nu.hexB (List.take k s) ++ z) hB
      have HNX := Lib.hid hnx
      clear hB hnx hsk hu hv
      go_wp2_with fail
      refine (bld_byte w2.heap.size w2.heap.size _ _ _ hI (by omega) (by omega)).mono ?_
      rintro e wA ⟨rfl, hA, hbA, _⟩
      have hIA : Lib.IsBuilderF 49 5 w2.heap.size w2.heap.size _ wA := .inr hA
      have hbsA := hbA.size
      go_wp2_with fail
      have hbl2 := hbl
      clear hbl
      refine (bld_byte w2.heap.size w2.heap.size _ _ _ hIA (by rw [List.length_append]; show _ + 1 + 1 ≤ _; omega) (by omega)).mono ?_
      rintro e wB ⟨rfl, hB2, hbB, _⟩
      go_wp2_with fail
      go_roundg gg
      case measure => omega
      case rel =>
        refine ⟨k + 1, by simp, by omega, .inr ?_, (hbx.trans hbA).trans hbB⟩
        rw [HNX.out, Lib.byteCells_append]
        simp only [List.append_assoc] at hB2
        exact hB2
end Go.Proofs.YtolbfeggceemfaaGreatDoor
