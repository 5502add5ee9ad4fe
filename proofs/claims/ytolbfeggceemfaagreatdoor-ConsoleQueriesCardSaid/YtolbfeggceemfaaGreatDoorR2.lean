/-
  The walks of package rel, the second part: Above, Compare. Condition: the texts are of at most 2^47 bytes.
-/
import Derived.Test.YtolbfeggceemfaaGreatDoorR1
namespace Go.Proofs.YtolbfeggceemfaaGreatDoor
open Go.RowKit

namespace Nm
/-- Is a name above another one: its labels, folded, are the last ones of the other's. -/
def aboveL (la lb : List (List UInt8)) : Bool := (List.range (lb.length + 1)).any fun k => (foldLs lb).drop k == foldLs la
def above (a b : List UInt8) : Bool := match labels a, labels b with
  | some la, some lb => aboveL la lb
  | _, _ => false

theorem enc_inj : ∀ (a b : List (List UInt8)), Fit a → Fit b → wire a = wire b → a = b := by
  intro a b ha hb h
  have h1 := labs_wire (a.length + b.length + 1) a ha (by omega)
  have h2 := labs_wire (a.length + b.length + 1) b hb (by omega)
  rw [h, h2] at h1
  exact (Option.some.inj h1).symm

theorem enc_drop (ls : List (List UInt8)) (k : Nat) : (wire ls).drop (enc (ls.take k)).length = wire (ls.drop k) := by
  unfold wire
  conv => lhs; rw [← List.take_append_drop k ls, enc_append, List.append_assoc]
  simp only [List.take_append_drop]
  rw [List.drop_left]

theorem offs_range : ∀ (ls : List (List UInt8)) (p : Nat), offs p ls = (List.range (ls.length + 1)).map fun k => p + (enc (ls.take k)).length := by
  intro ls p
  refine List.ext_getElem? fun k => ?_
  by_cases hk : k ≤ ls.length
  · rw [offs_get ls p k hk]
    simp [show k < ls.length + 1 from by omega]
  · rw [List.getElem?_eq_none (by rw [offs_length]; omega), List.getElem?_eq_none (by simp; omega)]

/-- What the program asks: is one of the rests the other name? -/
def aboveT (x y : List UInt8) (ps : List Nat) : Bool := ps.any fun p => !x.isEmpty && (y.drop p == x)

theorem above_eq (a b : List UInt8) (ps : List Nat) (h1 : ∀ ls, labels (fold b) = some ls → ps = offs 0 ls) (h0 : fold b = [] → ps = []) : aboveT (fold a) (fold b) ps = above a b := by
  unfold above
  cases hb : labels b with
  | none =>
    have : fold b = [] := by simp [fold, hb]
    rw [h0 this]
    cases labels a <;> rfl
  | some lb =>
    have fb : fold b = wire (foldLs lb) := by simp [fold, hb]
    have hps := h1 (foldLs lb) (by rw [fb]; exact labels_fold hb)
    cases ha : labels a with
    | none =>
      have : fold a = [] := by simp [fold, ha]
      simp [aboveT, this]
    | some la =>
      have fa : fold a = wire (foldLs la) := by simp [fold, ha]
      rw [hps, offs_range, fa, fb]
      unfold aboveT aboveL
      rw [List.any_map, show (foldLs lb).length = lb.length from by simp [foldLs]]
      congr 1
      funext k
      have hne : (wire (foldLs la)).isEmpty = false := by simp [wire]
      simp only [Function.comp, hne, Bool.not_false, Bool.true_and, Nat.zero_add]
      rw [enc_drop]
      have hfa := foldLs_fit (labels_some ha).2.1
      have hfb := foldLs_fit (labels_some hb).2.1
      have hfd : Fit ((foldLs lb).drop k) := fun x hx => hfb x (List.mem_of_mem_drop hx)
      by_cases e : (foldLs lb).drop k = foldLs la
      · rw [e]; simp
      · have : ¬ wire ((foldLs lb).drop k) = wire (foldLs la) := fun h => e (enc_inj _ _ hfd hfa h)
        rw [beq_eq_false_iff_ne.2 this, beq_eq_false_iff_ne.2 e]
end Nm

theorem relfold_calls (s : ByteArray) (w : World) (hm : s.size ≤ 140737488355328) :
    Calls Tryz.prog 59 #[.string s] w fun e w' => e = .returned (.string (txt (Nm.fold s.data.toList))) ∧ Below w.heap.size w w' := by
  cases h : Nm.labels s.data.toList with
  | none => rw [show Nm.fold s.data.toList = [] from by simp [Nm.fold, h]]; exact fold_not s h w hm
  | some ls => rw [show Nm.fold s.data.toList = Nm.wire (Nm.foldLs ls) from by simp [Nm.fold, h]]; exact fold_yes s ls h w hm

theorem Nm.fold_le (l : List UInt8) : (Nm.fold l).length ≤ 255 := by
  unfold Nm.fold
  cases h : Nm.labels l with
  | none => simp
  | some ls =>
    have := Nm.labels_some h
    simp only
    rw [Nm.wire_fold_length, ← this.1]
    exact this.2.2

/-- The places of a text of at most 255 bytes. -/
def PlacesAny (y : ByteArray) (w : World) (e : Ending) (w' : World) : Prop :=
  ∃ ao cap ps x, e = .returned (.tuple #[.slice ao ps.length cap, .bool x]) ∧ Below w.heap.size w w' ∧ (∀ ls, Nm.labels y.data.toList = some ls → ps = Nm.offs 0 ls) ∧ (y.data.toList = [] → ps = []) ∧
    (∀ p ∈ ps, p ≤ y.size) ∧ ps.length ≤ 256 ∧ (0 < ps.length → ∃ g, ao = some ⟨g, 0, none⟩ ∧ ∀ (j p : Nat), ps[j]? = some p → w'.cell? ⟨g, j, none⟩ = some (.int .i64 (p : Int)))

theorem Nm.offs_le (ls : List (List UInt8)) : ∀ p ∈ Nm.offs 0 ls, p ≤ (Nm.enc ls).length := by
  intro p hp
  rw [Nm.offs_range] at hp
  obtain ⟨k, _, rfl⟩ := List.mem_map.1 hp
  have := Nm.enc_take_le ls k
  omega

theorem places_fold (b : List UInt8) (y : ByteArray) (hy : y.data.toList = Nm.fold b) (w : World) : Calls Tryz.prog 57 #[.string y] w (PlacesAny y w) := by
  have hys : y.size ≤ 255 := by rw [Lib.size_eq, hy]; exact Nm.fold_le b
  refine (places_calls y w (by omega)).mono ?_
  rintro e w' ⟨v, ps, he, hown, hb, hps, h0⟩
  have hz : y.data.toList = [] → ps = [] := fun h => h0 (by rw [Lib.size_eq, h]; rfl)
  have key : (∀ p ∈ ps, p ≤ y.size) ∧ ps.length ≤ 256 := by
    cases hb : Nm.labels b with
    | none =>
      rw [hz (by rw [hy]; simp [Nm.fold, hb])]
      simp
    | some lb =>
      have fb : y.data.toList = Nm.wire (Nm.foldLs lb) := by rw [hy]; simp [Nm.fold, hb]
      have hl := Nm.labels_fold hb
      rw [← fb] at hl
      rw [hps _ hl]
      have hsz : y.size = (Nm.enc (Nm.foldLs lb)).length + 1 := by rw [Lib.size_eq, fb]; simp [Nm.wire]
      refine ⟨fun p hp => by have := Nm.offs_le _ p hp; omega, ?_⟩
      rw [Nm.offs_length]
      have := Nm.enc_length_pos (Nm.foldLs lb)
      omega
  obtain ⟨ao, cap, rfl⟩ := own_form hown
  refine ⟨ao, cap, ps, _, he, hb, hps, hz, key.1, key.2, fun h => ?_⟩
  obtain ⟨g, cap', e1, _, _, hc⟩ := own_at hown h
  cases e1
  exact ⟨g, rfl, fun j p hj => hc j _ (by simp [i64s, hj])⟩

theorem drop_extract (Y : ByteArray) (p : Nat) (x : List UInt8) (X : ByteArray) (hX : X.data.toList = x) : ((Y.extract p Y.size).toList == X.toList) = (Y.data.toList.drop p == x) := by
  rw [Lib.toList_data, Lib.toList_data, Lib.extract_to_end, hX]

set_option maxHeartbeats 1000000 in
set_option maxRecDepth 100000 in
theorem above_calls (a b : ByteArray) (w : World) (ha : a.size ≤ 140737488355328) (hb : b.size ≤ 140737488355328) :
    Calls Tryz.prog 60 #[.string a, .string b] w fun e w' => e = .returned (.bool (Nm.above a.data.toList b.data.toList)) ∧ Below w.heap.size w w' := by
  have hfl := Nm.fold_le b.data.toList
  obtain ⟨X, hX⟩ : ∃ X, txt (Nm.fold a.data.toList) = X := ⟨_, rfl⟩
  obtain ⟨Y, hY⟩ : ∃ Y, txt (Nm.fold b.data.toList) = Y := ⟨_, rfl⟩
  have hXd : X.data.toList = Nm.fold a.data.toList := by rw [← hX, txt_data]
  have hYd : Y.data.toList = Nm.fold b.data.toList := by rw [← hY, txt_data]
  have hYs : Y.size ≤ 255 := by rw [Lib.size_eq, hYd]; exact hfl
  have c1 := fun W => relfold_calls a W ha
  have c2 := fun W => relfold_calls b W hb
  rw [hX] at c1
  rw [hY] at c2
  have C1 := Lib.hid c1
  have C2 := Lib.hid c2
  have HX := Lib.hid hXd
  have HY := Lib.hid hYd
  clear c1 c2 hX hY hXd hYd hfl
  go_enter Tryz.func60, Tryz.ntmps60
  go_wp2_with fail
  refine (C1.out _).mono ?_
  rintro e w1 ⟨rfl, b1⟩
  go_wp2_with fail
  refine (C2.out _).mono ?_
  rintro e w2 ⟨rfl, b2⟩
  go_wp2_with fail
  refine (places_fold b.data.toList Y HY.out _).mono ?_
  rintro e w3 ⟨ao, cap, ps, x, rfl, b3, hps, h0, hle, hpl, hcell⟩
  have B3 := (b1.trans (b2.mono b1.size)).trans (b3.mono (by have := b1.size; have := b2.size; omega))
  have HR : Hid (Nm.aboveT X.data.toList Y.data.toList ps = Nm.above a.data.toList b.data.toList) := by
    show _ = _
    rw [HX.out, HY.out]
    exact Nm.above_eq _ _ ps (fun ls hl => hps ls (by rw [HY.out]; exact hl)) (fun h => h0 (by rw [HY.out]; exact h))
  have HLE := Lib.hid hle
  have HC := Lib.hid hcell
  clear hps h0 hle hcell b1 b2 b3
  go_wp2_with fail
  go_loopg [22] ps.length (fun gg v22 wx => ∃ (k : Nat), v22 = .int .i64 (k : Int) ∧ k + gg = ps.length ∧ Aside (Nm.aboveT X.data.toList Y.data.toList (ps.drop k) = Nm.above a.data.toList b.data.toList) ∧ w3 = wx)
  case atStart => exact ⟨0, rfl, by omega, HR.out, rfl⟩
  case round =>
    obtain ⟨k, rfl, hk, HA, rfl⟩ := hrel
    cases gk with
    | zero =>
      go_wp2
      go_ret
      refine ⟨?_, B3⟩
      rw [← HA.out, List.drop_eq_nil_of_le (by omega)]
      rfl
    | succ g =>
      have hk' : k < ps.length := by omega
      obtain ⟨g0, rfl, hc⟩ := HC.out (by omega)
      have hcell := hc k ps[k] (by simp)
      have hp := HLE.out ps[k] (List.getElem_mem hk')
      have hA2 : Aside (Nm.above a.data.toList b.data.toList = ((!X.data.toList.isEmpty && (Y.data.toList.drop ps[k] == X.data.toList)) || Nm.aboveT X.data.toList Y.data.toList (ps.drop (k + 1)))) := by
        show _ = _
        rw [← HA.out, List.drop_eq_getElem_cons hk']
        simp only [Nm.aboveT, List.any_cons]
      have hde := drop_extract Y ps[k] _ X rfl
      clear hc
      generalize ps[k] = p at *
      by_cases hx : X.data.toList = []
      · have hx1 : X.toList.isEmpty = true := by rw [Lib.toList_data, hx]; rfl
        have hx2 : (!X.toList.isEmpty) = false := by rw [hx1]; rfl
        have HX2 := Lib.hid hx
        clear hx hde
        go_wp2
        go_roundg g
        case measure => omega
        case rel =>
          refine ⟨k + 1, by simp, by omega, ?_, rfl⟩
          show _ = _
          rw [hA2.out, HX2.out]
          rfl
      · have hx1 : X.toList.isEmpty = false := by rw [Lib.toList_data]; simpa using hx
        by_cases ht : Y.data.toList.drop p = X.data.toList
        · have hde1 : ((Y.extract p Y.size).toList == X.toList) = true := by rw [hde, ht]; simp
          have HX2 := Lib.hid hx
          have HT := Lib.hid ht
          clear hx hde ht
          go_wp2
          go_ret
          refine ⟨?_, B3⟩
          rw [hA2.out, HT.out, show X.data.toList.isEmpty = false from by simpa using HX2.out]
          simp
        · have hde1 : ((Y.extract p Y.size).toList == X.toList) = false := by rw [hde]; simpa using ht
          have HX2 := Lib.hid hx
          have HT := Lib.hid ht
          clear hx hde ht
          go_wp2
          go_roundg g
          case measure => omega
          case rel =>
            refine ⟨k + 1, by simp, by omega, ?_, rfl⟩
            show _ = _
            rw [hA2.out, show (Y.data.toList.drop p == X.data.toList) = false from by simpa using HT.out, Bool.and_false, Bool.false_or]
end Go.Proofs.YtolbfeggceemfaaGreatDoor
