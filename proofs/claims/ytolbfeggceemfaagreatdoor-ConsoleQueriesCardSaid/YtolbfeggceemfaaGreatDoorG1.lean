/-
  The walk of comp.Name: names in a message, with pointers. Condition: the text is of at most 100000 bytes, the place within it.
-/
import Derived.Test.YtolbfeggceemfaaGreatDoorW2
import Derived.Test.YtolbfeggceemfaaGreatDoorN3
namespace Go.Proofs.YtolbfeggceemfaaGreatDoor
open Go.RowKit
namespace Rd
/-- A name from a place on; the place behind it. -/
def nm (s : List UInt8) : Nat → Nat → Nat → Int → List UInt8 → Option (List UInt8 × Int)
  | 0, _, _, _, _ => none
  | f + 1, i, began, beh, out =>
    if i < s.length ∧ out.length < 255 then
      (if (s.getD i 0).toNat = 0 then some (out ++ [0], if beh < 0 then (i : Int) + 1 else beh)
       else if (s.getD i 0).toNat ≤ 63 ∧ (s.getD i 0).toNat < s.length - i then nm s f (i + 1 + (s.getD i 0).toNat) began beh (out ++ (s.drop i).take ((s.getD i 0).toNat + 1))
       else if 192 ≤ (s.getD i 0).toNat ∧ i + 1 < s.length then
         (if began ≤ (s.getD i 0).toNat % 64 * 256 + (s.getD (i + 1) 0).toNat then none
          else nm s f ((s.getD i 0).toNat % 64 * 256 + (s.getD (i + 1) 0).toNat) ((s.getD i 0).toNat % 64 * 256 + (s.getD (i + 1) 0).toNat) (if beh < 0 then (i : Int) + 2 else beh) out)
       else none)
    else none
def name (s : List UInt8) (i : Nat) : Option (List UInt8 × Int) := nm s (400 + i) i i (-1) []
end Rd

def NamePost (o : Option (List UInt8 × Int)) (w : World) (e : Ending) (w' : World) : Prop :=
  Below w.heap.size w w' ∧ match o with
    | some r => e = .returned (.tuple #[.string (txt r.1), .int .i64 r.2, .int .i64 0])
    | none => e = .returned (.tuple #[.string (txt []), .int .i64 0, .int .i64 500])

theorem and63 (k : Nat) (h : k < 256) : bits BinOp.and IntKind.i64 (k : Int) 63 = ((k % 64 : Nat) : Int) := by
  have h1 : (BitVec.ofInt 64 (k : Int)).toNat = k := by
    rw [BitVec.toNat_ofInt]
    omega
  have h2 : (BitVec.ofInt 64 (63 : Int)).toNat = 63 := by decide
  show IntKind.i64.wrap ((BitVec.ofInt 64 (k : Int) &&& BitVec.ofInt 64 63).toNat : Int) = _
  rw [BitVec.toNat_and, h1, h2, show (63 : Nat) = 2 ^ 6 - 1 from rfl, Nat.and_two_pow_sub_one_eq_mod]
  exact IntWalk.i64_in _ (by omega)

set_option maxHeartbeats 4000000 in
set_option maxRecDepth 100000 in
theorem compName_calls (s : ByteArray) (i0 : Nat) (w : World) (hs : s.size ≤ 100000) (hi0 : i0 ≤ 100000) :
    Calls Tryz.prog 113 #[.string s, .int .i64 (i0 : Int)] w (NamePost (Rd.name s.data.toList i0) w) := by
  obtain ⟨ii, hi, hz0, hz1, hz2⟩ := info_parts Tryz.info5
  obtain ⟨o, ho⟩ : ∃ o, Rd.name s.data.toList i0 = o := ⟨_, rfl⟩
  rw [ho]
  rw [Rd.name] at ho
  have HO := Lib.hid ho
  clear ho
  go_enter Tryz.func113, Tryz.ntmps113
  go_wp2
  go_loopg [1, 7, 8, 9] (400 + i0) (fun gg v1 v7 v8 v9 wx => ∃ (i began f : Nat) (beh : Int) (out : List UInt8), v1 = .int .i64 (i : Int) ∧ v8 = .int .i64 (began : Int) ∧ v9 = .int .i64 beh ∧ i ≤ 100000 ∧ began ≤ 100000 ∧ -1 ≤ beh ∧ beh ≤ 200000 ∧ out.length ≤ 318 ∧
    320 - out.length + began < gg ∧ 320 - out.length + began < f ∧ wx.ownsRow w.heap.size 5 1 v7 out.length (Lib.byteCells out) ∧ Below w.heap.size w wx ∧ Aside (Rd.nm s.data.toList f i began beh out = o))
  case atStart => exact ⟨i0, i0, 400 + i0, -1, [], rfl, rfl, rfl, hi0, hi0, by omega, by omega, by simp, by simp, by simp, World.ownsRow_nil _ _ _ _, Below.refl _ _, HO.out⟩
  case round =>
    obtain ⟨i, began, f, beh, out, rfl, rfl, rfl, hi1, hbg, hbh, hbh2, hol, hgg, hff, hown, hb, HA⟩ := hrel
    obtain ⟨f, rfl⟩ : ∃ f', f = f' + 1 := ⟨f - 1, by omega⟩
    obtain ⟨vo, vc, rfl⟩ := own_form hown
    have hbs := hb.size
    by_cases hc : i < s.size ∧ out.length < 255
    · obtain ⟨hlt, hol2⟩ := hc
      have hk256 := UInt8.toNat_lt s[i]
      have hgd : s.data.toList.getD i 0 = s[i] := by
        rw [List.getD_eq_getElem?_getD, List.getElem?_eq_getElem (by simpa using hlt)]; rfl
      have hst := HA.out
      rw [Rd.nm, if_pos ⟨by rw [← Lib.size_eq]; exact hlt, hol2⟩, hgd] at hst
      have q1 : ((i : Int) < (s.size : Int)) = True := by simp; omega
      have q2 : ((out.length : Int) < 255) = True := by simp; omega
      by_cases hk0 : s[i].toNat = 0
      · rw [if_pos hk0] at hst
        have qk : ((s[i].toNat : Int) == 0) = true := by simp; omega
        obtain ⟨beh', hbe⟩ : ∃ x, (if beh < 0 then (i : Int) + 1 else beh) = x := ⟨_, rfl⟩
        rw [hbe] at hst
        have HST := Lib.hid hst
        clear hst hk0 hgd
        by_cases hbn : beh < 0
        · have qb : (beh < 0) = True := by simp [hbn]
          rw [if_pos hbn] at hbe
          subst hbe
          clear hbn
          go_wp2_with (at_builtin; refine wpList_append_own _ rfl _ _ 47 rfl (w.heap.size) 5 ii (.int .u8 0) 1 1 Tryz.underlying47 hi hz0 hz1 hz2 rfl (by decide) _ _ _ rfl (hown.alloc _) ⟨wr.heap.size, 0, none⟩ 1 1 [.int .u8 0] rfl rfl (one_new _ _ _ rfl) (one_cell rfl) (by unfold maxLen; omega) (by omega) (by simp; omega) ?_)
          intro v' w1 hown1 hgrow _
          have hcv := own_conv (l := out ++ [0]) (own_byte hown1)
          have hb1 := below_app hb (Nat.le_refl _) hbs hown hgrow
          have HG := Lib.hid hgrow
          clear hgrow
          go_wp2_with fail
          go_ret3
          rw [← HST.out]
          exact ⟨hb1, rfl⟩
        · have qb : (beh < 0) = False := by simp; omega
          rw [if_neg hbn] at hbe
          subst hbe
          clear hbn
          go_wp2_with (at_builtin; refine wpList_append_own _ rfl _ _ 47 rfl (w.heap.size) 5 ii (.int .u8 0) 1 1 Tryz.underlying47 hi hz0 hz1 hz2 rfl (by decide) _ _ _ rfl (hown.alloc _) ⟨wr.heap.size, 0, none⟩ 1 1 [.int .u8 0] rfl rfl (one_new _ _ _ rfl) (one_cell rfl) (by unfold maxLen; omega) (by omega) (by simp; omega) ?_)
          intro v' w1 hown1 hgrow _
          have hcv := own_conv (l := out ++ [0]) (own_byte hown1)
          have hb1 := below_app hb (Nat.le_refl _) hbs hown hgrow
          have HG := Lib.hid hgrow
          clear hgrow
          go_wp2_with fail
          go_ret3
          rw [← HST.out]
          exact ⟨hb1, rfl⟩
      · rw [if_neg hk0] at hst
        have qk : ((s[i].toNat : Int) == 0) = false := by simp; omega
        by_cases hlab : s[i].toNat ≤ 63 ∧ s[i].toNat < s.data.toList.length - i
        · rw [if_pos hlab] at hst
          rw [← Lib.size_eq] at hlab
          obtain ⟨k, hk⟩ : ∃ k, s[i].toNat = k := ⟨_, rfl⟩
          obtain ⟨j, hj⟩ : ∃ j, i + 1 + k = j := ⟨_, rfl⟩
          have e1 : (i : Int) + 1 + (s[i].toNat : Int) = (j : Int) := by omega
          have e2 : (i : Int) + (1 + (s[i].toNat : Int)) = (j : Int) := by omega
          have ql : ((s[i].toNat : Int) ≤ 63) = True := by simp; omega
          have ql2 : ((s[i].toNat : Int) < (s.size : Int) - (i : Int)) = True := by simp; omega
          have hjs : (j : Int) ≤ (s.size : Int) := by omega
          have hij : (i : Int) ≤ (j : Int) := by omega
          rw [hk, hj] at hst
          have hex : (s.extract i j).data.toList = (s.data.toList.drop i).take (k + 1) := by
            rw [Lib.extract_data]
            congr 1
            omega
          have hexs : (s.extract i j).size = k + 1 := by simp only [ByteArray.size_extract]; omega
          have hk63 : k ≤ 63 := by omega
          have hk1 : 1 ≤ k := by omega
          have HST := Lib.hid hst
          have HEX := Lib.hid hex
          have HXS := Lib.hid hexs
          clear hst hk0 hgd hlab hk hex hexs
          go_wp2_with (at_builtin; refine Lib.wpList_append_own_string _ rfl _ _ 47 9 rfl w.heap.size 5 ii Tryz.underlying47 Tryz.underlying9 hi hz0 hz1 hz2 _ _ _ rfl hown (s.extract i j) rfl ?c3 ?c4 ?c5 ?_)
          case c3 => rw [HXS.out]; unfold maxLen; omega
          case c4 => rw [HXS.out]; omega
          case c5 => exact hbs
          intro v' w1 hown1 hgrow _
          have hown1' : w1.ownsRow w.heap.size 5 1 v' (out.length + (s.extract i j).size) (Lib.byteCells out ++ Lib.strCells (s.extract i j)) := by rw [ByteArray.size_extract]; exact hown1
          have hown2 := own_bytes hown1'
          rw [HEX.out] at hown2
          have hb1 := below_app0 hb (Nat.le_refl _) hbs hown hgrow
          have HG := Lib.hid hgrow
          have hlen : (out ++ (s.data.toList.drop i).take (k + 1)).length = out.length + (k + 1) := by rw [List.length_append, ← HEX.out, ← Lib.size_eq, HXS.out]
          have HL := Lib.hid hlen
          clear hgrow hown1 hown1' hlen
          go_wp2_with fail
          have hlen := HL.out
          go_roundg (gk - 1)
          case measure => omega
          case rel => exact ⟨j, began, f, beh, out ++ (s.data.toList.drop i).take (k + 1), rfl, rfl, rfl, by omega, hbg, hbh, hbh2, by omega, by omega, by omega, hown2, hb1, HST.out⟩
        · rw [if_neg hlab] at hst
          rw [← Lib.size_eq] at hlab
          by_cases hp : 192 ≤ s[i].toNat ∧ i + 1 < s.data.toList.length
          · rw [if_pos hp] at hst
            rw [← Lib.size_eq] at hp
            obtain ⟨hp1, hp2⟩ := hp
            have hb256 := UInt8.toNat_lt s[i + 1]
            have hgd2 : s.data.toList.getD (i + 1) 0 = s[i + 1] := by
              rw [List.getD_eq_getElem?_getD, List.getElem?_eq_getElem (by simpa using hp2)]; rfl
            rw [hgd2] at hst
            obtain ⟨j, hj⟩ : ∃ j, j = i + 1 := ⟨_, rfl⟩
            have e1 : (i : Int) + 1 = (j : Int) := by omega
            have hjs : (j : Int) < (s.size : Int) := by omega
            have hjn : j < s.size := by omega
            have hsj : s[j]'hjn = s[i + 1] := by simp only [hj]
            rw [← hsj] at hst hb256
            have ha := and63 s[i].toNat hk256
            have ho := or_byte (s[i].toNat % 64) (s[j]'hjn).toNat (by omega) hb256
            obtain ⟨tp, hto⟩ : ∃ tp, s[i].toNat % 64 * 256 + (s[j]'hjn).toNat = tp := ⟨_, rfl⟩
            rw [hto] at hst ho
            have hto2 : tp ≤ 20000 := by omega
            have ql : ((s[i].toNat : Int) ≤ 63) = False := by simp; omega
            have q3 : ((192 : Int) ≤ (s[i].toNat : Int)) = True := by simp; omega
            have ha2 : bits BinOp.and IntKind.i64 (s[i].toNat : Int) 63 = (s[i].toNat : Int) % 64 := by rw [ha]; omega
            have ho2 : bits BinOp.or IntKind.i64 ((s[i].toNat : Int) % 64 * 256) ((s[j]'hjn).toNat : Int) = (tp : Int) := by rw [← ho]; congr 1
            clear ha ho
            by_cases hbt : began ≤ tp
            · rw [if_pos hbt] at hst
              have q4 : ((began : Int) ≤ (tp : Int)) = True := by simp; omega
              have HST := Lib.hid hst
              clear hst hk0 hgd hlab hp1 hgd2 hj hsj hto hbt
              go_wp2_with fail
              go_ret3
              rw [← HST.out]
              exact ⟨hb, rfl⟩
            · rw [if_neg hbt] at hst
              have q4 : ((began : Int) ≤ (tp : Int)) = False := by simp; omega
              obtain ⟨beh', hbe⟩ : ∃ x, (if beh < 0 then (i : Int) + 2 else beh) = x := ⟨_, rfl⟩
              rw [hbe] at hst
              have HST := Lib.hid hst
              have hbt' : tp < began := by omega
              clear hst hk0 hgd hlab hp1 hgd2 hj hsj hto hbt
              by_cases hbn : beh < 0
              · have qb : (beh < 0) = True := by simp [hbn]
                rw [if_pos hbn] at hbe
                subst hbe
                clear hbn
                go_wp2_with fail
                go_roundg (gk - 1)
                case measure => omega
                case rel => exact ⟨tp, tp, f, (i : Int) + 2, out, rfl, rfl, rfl, by omega, by omega, by omega, by omega, hol, by omega, by omega, hown, hb, HST.out⟩
              · have qb : (beh < 0) = False := by simp; omega
                rw [if_neg hbn] at hbe
                subst hbe
                clear hbn
                go_wp2_with fail
                go_roundg (gk - 1)
                case measure => omega
                case rel => exact ⟨tp, tp, f, beh, out, rfl, rfl, rfl, by omega, by omega, by omega, by omega, hol, by omega, by omega, hown, hb, HST.out⟩
          · rw [if_neg hp] at hst
            rw [← Lib.size_eq] at hp
            have HST := Lib.hid hst
            by_cases h63 : s[i].toNat ≤ 63
            · have ql : ((s[i].toNat : Int) ≤ 63) = True := by simp; omega
              have ql2 : ((s[i].toNat : Int) < (s.size : Int) - (i : Int)) = False := by simp; omega
              have q3 : ((192 : Int) ≤ (s[i].toNat : Int)) = False := by simp; omega
              clear hst hk0 hgd hlab hp h63
              go_wp2_with fail
              go_ret3
              rw [← HST.out]
              exact ⟨hb, rfl⟩
            · have ql : ((s[i].toNat : Int) ≤ 63) = False := by simp; omega
              by_cases h192 : 192 ≤ s[i].toNat
              · have q3 : ((192 : Int) ≤ (s[i].toNat : Int)) = True := by simp; omega
                have q4 : ((i : Int) + 1 < (s.size : Int)) = False := by simp; omega
                clear hst hk0 hgd hlab hp h63 h192
                go_wp2_with fail
                go_ret3
                rw [← HST.out]
                exact ⟨hb, rfl⟩
              · have q3 : ((192 : Int) ≤ (s[i].toNat : Int)) = False := by simp; omega
                clear hst hk0 hgd hlab hp h63 h192
                go_wp2_with fail
                go_ret3
                rw [← HST.out]
                exact ⟨hb, rfl⟩
    · have hno : o = none := by
        have h := HA.out
        rw [Rd.nm, if_neg (by rw [← Lib.size_eq]; exact hc)] at h
        exact h.symm
      have HNO := Lib.hid hno
      clear hno
      by_cases h1 : i < s.size
      · have q1 : ((i : Int) < (s.size : Int)) = True := by simp; omega
        have q2 : ((out.length : Int) < 255) = False := by simp; omega
        clear hc
        go_wp2_with fail
        go_ret3
        rw [HNO.out]
        exact ⟨hb, rfl⟩
      · have q1 : ((i : Int) < (s.size : Int)) = False := by simp; omega
        clear hc
        go_wp2_with fail
        go_ret3
        rw [HNO.out]
        exact ⟨hb, rfl⟩
end Go.Proofs.YtolbfeggceemfaaGreatDoor
