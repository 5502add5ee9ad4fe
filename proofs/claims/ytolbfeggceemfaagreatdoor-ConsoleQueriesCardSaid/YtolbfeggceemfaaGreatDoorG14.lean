/-
  The walk of console's get. Condition: the block of the words is laid; the variables read as the program lays them.
-/
import Derived.Test.YtolbfeggceemfaaGreatDoorG13
import Derived.Lib.Join
namespace Go.Proofs.YtolbfeggceemfaaGreatDoor
open Go.RowKit

theorem Rd.get_err {l : List UInt8} {x : Int} (h : Rd.get l = .error x) : x = 700 ∨ x = 701 := by
  unfold Rd.get at h
  split at h
  · cases h; exact .inr rfl
  · split at h
    · cases h; exact .inl rfl
    · split at h
      · cases h; exact .inl rfl
      · cases h
theorem wireGet_calls (s : ByteArray) (w : World) : Calls Tryz.prog 65 #[.string s] w (GetP (Rd.get s.data.toList) w) := by
  unfold Rd.get
  rw [← Lib.size_eq]
  by_cases h1 : 4096 < s.size
  · rw [if_pos h1]
    refine (wireGet_long s w h1).mono ?_
    rintro e w' ⟨rfl, hb⟩
    exact ⟨hb, 0, 0, 0, 0, false, false, false, false, false, none, 0, 0, none, 0, 0, none, 0, 0, none, 0, 0, 701, rfl, by decide, by decide, by decide, by decide, rfl⟩
  · rw [if_neg h1]
    by_cases h2 : s.size < 12
    · rw [if_pos h2]
      refine (wireGet_short s w h2).mono ?_
      rintro e w' ⟨rfl, hb⟩
      exact ⟨hb, 0, 0, 0, 0, false, false, false, false, false, none, 0, 0, none, 0, 0, none, 0, 0, none, 0, 0, 700, rfl, by decide, by decide, by decide, by decide, rfl⟩
    · rw [if_neg h2]
      have := wireGet_full s w (by omega) (by omega)
      rw [← Lib.size_eq] at this
      exact this

theorem own_cap' {w : World} {B n m : Nat} {e : TypeId} {g : Option Addr} {cap : Nat} {xs : List Value} (h : w.ownsRow B e m (.slice g n cap) n xs) : n ≤ cap := by
  rcases h.2 with ⟨hv, h0⟩ | ⟨g', cap', cur, hv, _, _, hc, _⟩
  · omega
  · cases hv
    exact hc

namespace Nu
/-- What get tells of bytes. -/
def getText (l : List UInt8) : List UInt8 := match Rd.get l with
  | .error c => told [] c
  | .ok k => Lib.itoa (k.1 : Int) ++ ([32] ++ (Lib.itoa (k.2.1 : Int) ++ ([32] ++ (Lib.itoa (k.2.2.1 : Int) ++ ([32] ++ Lib.itoa (k.2.2.2 : Int))))))
end Nu

set_option maxHeartbeats 4000000 in
set_option maxRecDepth 100000 in
theorem tellGet_calls (w : World) (b : Nat) (ns : List Nat) (names : List (List UInt8)) (bs : List UInt8) (hW : WordsAt w b ns names bs) (hV : Vars w) :
    Calls Tryz.prog 47 #[.pointer (some ⟨b, 0, none⟩)] w fun e w' => e = .returned (.string (txt (Nu.getText bs))) ∧ Below w.heap.size w w' := by
  obtain ⟨ii, hii, hz0, hz1, hz2⟩ := info_parts Tryz.info9
  obtain ⟨v1, v2, hk, _, _, _⟩ := hW
  have c2 : w.cell? ⟨b, 2, none⟩ = some (.string (txt bs)) := by rw [Lib.cell_of_heap hk]; rfl
  have hG := fun W => wireGet_calls (txt bs) W
  rw [txt_data] at hG
  unfold Nu.getText
  have hx := fun x => @Rd.get_err bs x
  generalize Rd.get bs = gv at *
  have HG := Lib.hid hG
  have HV := Lib.hid hV
  have h8 := hV.size
  have HX := Lib.hid hx
  have i0 := Tryz.idx99_0
  have i1 := Tryz.idx99_1
  have i2 := Tryz.idx99_2
  have i3 := Tryz.idx99_3
  clear hG hV hk hx
  obtain ⟨out, hout⟩ : ∃ out, (match gv with | .error c => Nu.told [] c | .ok k => Lib.itoa (k.1 : Int) ++ ([32] ++ (Lib.itoa (k.2.1 : Int) ++ ([32] ++ (Lib.itoa (k.2.2.1 : Int) ++ ([32] ++ Lib.itoa (k.2.2.2 : Int)))))) : List UInt8) = out := ⟨_, rfl⟩
  rw [hout]
  have HOUT := Lib.hid hout
  clear hout
  go_enter Tryz.func47, Tryz.ntmps47
  go_wp2_with fail
  refine (HG.out _).mono ?_
  rintro e w1 ⟨hb1, a, o, z, r, q, aa, tc, rd, ra, p1, n1, cc1, p2, n2, cc2, p3, n3, cc3, p4, n4, cc4, code, rfl, m1, m2, m3, m4, hg⟩
  unfold msgOf
  have hcode : 0 ≤ code ∧ code ≤ 1000000 := by
    cases gv with
    | error x =>
      have h1 : code = x := hg
      have h2 := HX.out x rfl
      omega
    | ok k =>
      have h1 := hg.1
      omega
  have HGG := Lib.hid hg
  have l1 := itoa_len (n1 : Int) (by omega) (by omega)
  have I1 := fun W (hV : Vars W) => itoa_calls (n1 : Int) (by omega) (by omega) W hV
  have l2 := itoa_len (n2 : Int) (by omega) (by omega)
  have I2 := fun W (hV : Vars W) => itoa_calls (n2 : Int) (by omega) (by omega) W hV
  have l3 := itoa_len (n3 : Int) (by omega) (by omega)
  have I3 := fun W (hV : Vars W) => itoa_calls (n3 : Int) (by omega) (by omega) W hV
  have l4 := itoa_len (n4 : Int) (by omega) (by omega)
  have I4 := fun W (hV : Vars W) => itoa_calls (n4 : Int) (by omega) (by omega) W hV
  have hfin : Nu.told (Lib.join [Lib.itoa (n1 : Int), Lib.itoa (n2 : Int), Lib.itoa (n3 : Int), Lib.itoa (n4 : Int)] [32]) code = out := by
    rw [← HOUT.out]
    cases gv with
    | error x =>
      have h1 : code = x := HGG.out
      have h2 := HX.out x rfl
      show Nu.told _ code = Nu.told [] x
      rw [h1]
      unfold Nu.told
      rw [if_neg (by omega), if_neg (by omega)]
    | ok k =>
      obtain ⟨h1, e1, e2, e3, e4⟩ := HGG.out
      show Nu.told _ code = _
      rw [h1]
      unfold Nu.told
      rw [if_pos rfl, e1, e2, e3, e4]
      simp [Lib.join, List.intercalate, List.intersperse]
  have HFIN := Lib.hid hfin
  generalize Lib.itoa (n1 : Int) = t1 at *
  generalize Lib.itoa (n2 : Int) = t2 at *
  generalize Lib.itoa (n3 : Int) = t3 at *
  generalize Lib.itoa (n4 : Int) = t4 at *
  have HI1 := Lib.hid I1
  have HI2 := Lib.hid I2
  have HI3 := Lib.hid I3
  have HI4 := Lib.hid I4
  clear hg c2 I1 I2 I3 I4 hfin
  go_wp2_with fail
  have hba : Below w.heap.size w (w1.alloc (.cells #[.int .i64 a, .bool q, .int .i64 o, .bool aa, .bool tc, .bool rd, .bool ra, .int .i64 z, .int .i64 r, .slice p1 n1 cc1, .slice p2 n2 cc2, .slice p3 n3 cc3, .slice p4 n4 cc4] 96)) := hb1.alloc hb1.size _
  generalize w1.alloc (.cells #[.int .i64 a, .bool q, .int .i64 o, .bool aa, .bool tc, .bool rd, .bool ra, .int .i64 z, .int .i64 r, .slice p1 n1 cc1, .slice p2 n2 cc2, .slice p3 n3 cc3, .slice p4 n4 cc4] 96) = wa at *
  have hown0 := World.ownsRow_nil wa w.heap.size 9 1
  have hb0 := hba
  clear hb1
  refine wp_loop_rounds 5 ?_
  rw [rounds_succ]
  go_wp2_with fail
  refine (HI1.out _ (HV.out.below hb0 h8)).mono ?_
  rintro e wc1 ⟨rfl, hc1⟩
  have ho1 := own_below hown0 hc1 (Nat.le_refl _)
  have hbc1 := hb0.trans (hc1.mono hb0.size)
  have hsz1 := hbc1.size
  clear hown0 hb0 hc1
  go_wp2_with (at_builtin; refine wpList_append_own _ rfl _ _ 31 rfl w.heap.size 9 ii (.string ByteArray.empty) 1 16 Tryz.underlying31 hii hz0 hz1 hz2 rfl (by decide) _ _ _ rfl (ho1.alloc _) ⟨wc1.heap.size, 0, none⟩ 1 1 [.string (txt t1)] rfl rfl (one_new _ _ _ rfl) (one_cell rfl) (by unfold maxLen; omega) (by omega) (by simp; omega) ?_)
  intro v' wd1 hown1 hgrow _
  have hb1 := below_app hbc1 (Nat.le_refl _) hsz1 ho1 hgrow
  obtain ⟨ao1, cp1, rfl⟩ := own_form hown1
  have HG1 := Lib.hid hgrow
  clear hgrow ho1 hbc1
  go_wp2_with fail
  rw [rounds_succ]
  go_wp2_with fail
  refine (HI2.out _ (HV.out.below hb1 h8)).mono ?_
  rintro e wc2 ⟨rfl, hc2⟩
  have ho2 := own_below hown1 hc2 (Nat.le_refl _)
  have hbc2 := hb1.trans (hc2.mono hb1.size)
  have hsz2 := hbc2.size
  clear hown1 hb1 hc2
  go_wp2_with (at_builtin; refine wpList_append_own _ rfl _ _ 31 rfl w.heap.size 9 ii (.string ByteArray.empty) 1 16 Tryz.underlying31 hii hz0 hz1 hz2 rfl (by decide) _ _ _ rfl (ho2.alloc _) ⟨wc2.heap.size, 0, none⟩ 1 1 [.string (txt t2)] rfl rfl (one_new _ _ _ rfl) (one_cell rfl) (by unfold maxLen; omega) (by omega) (by simp; omega) ?_)
  intro v' wd2 hown2 hgrow _
  have hb2 := below_app hbc2 (Nat.le_refl _) hsz2 ho2 hgrow
  obtain ⟨ao2, cp2, rfl⟩ := own_form hown2
  have HG2 := Lib.hid hgrow
  clear hgrow ho2 hbc2
  go_wp2_with fail
  rw [rounds_succ]
  go_wp2_with fail
  refine (HI3.out _ (HV.out.below hb2 h8)).mono ?_
  rintro e wc3 ⟨rfl, hc3⟩
  have ho3 := own_below hown2 hc3 (Nat.le_refl _)
  have hbc3 := hb2.trans (hc3.mono hb2.size)
  have hsz3 := hbc3.size
  clear hown2 hb2 hc3
  go_wp2_with (at_builtin; refine wpList_append_own _ rfl _ _ 31 rfl w.heap.size 9 ii (.string ByteArray.empty) 1 16 Tryz.underlying31 hii hz0 hz1 hz2 rfl (by decide) _ _ _ rfl (ho3.alloc _) ⟨wc3.heap.size, 0, none⟩ 1 1 [.string (txt t3)] rfl rfl (one_new _ _ _ rfl) (one_cell rfl) (by unfold maxLen; omega) (by omega) (by simp; omega) ?_)
  intro v' wd3 hown3 hgrow _
  have hb3 := below_app hbc3 (Nat.le_refl _) hsz3 ho3 hgrow
  obtain ⟨ao3, cp3, rfl⟩ := own_form hown3
  have HG3 := Lib.hid hgrow
  clear hgrow ho3 hbc3
  go_wp2_with fail
  rw [rounds_succ]
  go_wp2_with fail
  refine (HI4.out _ (HV.out.below hb3 h8)).mono ?_
  rintro e wc4 ⟨rfl, hc4⟩
  have ho4 := own_below hown3 hc4 (Nat.le_refl _)
  have hbc4 := hb3.trans (hc4.mono hb3.size)
  have hsz4 := hbc4.size
  clear hown3 hb3 hc4
  go_wp2_with (at_builtin; refine wpList_append_own _ rfl _ _ 31 rfl w.heap.size 9 ii (.string ByteArray.empty) 1 16 Tryz.underlying31 hii hz0 hz1 hz2 rfl (by decide) _ _ _ rfl (ho4.alloc _) ⟨wc4.heap.size, 0, none⟩ 1 1 [.string (txt t4)] rfl rfl (one_new _ _ _ rfl) (one_cell rfl) (by unfold maxLen; omega) (by omega) (by simp; omega) ?_)
  intro v' wd4 hown4 hgrow _
  have hb4 := below_app hbc4 (Nat.le_refl _) hsz4 ho4 hgrow
  obtain ⟨ao4, cp4, rfl⟩ := own_form hown4
  have HG4 := Lib.hid hgrow
  clear hgrow ho4 hbc4
  go_wp2_with fail
  rw [rounds_succ]
  obtain ⟨gg, cap, hv, hgl, hgs, hcell⟩ := own_at hown4 (by simp)
  have hcap := own_cap' hown4
  obtain ⟨J, hJ⟩ : ∃ J, Lib.join [t1, t2, t3, t4] [32] = J := ⟨_, rfl⟩
  have hJl : J.length ≤ 1000 := by
    rw [← hJ]
    simp only [Lib.join, List.intercalate, List.intersperse, List.flatten_cons, List.flatten_nil, List.length_append, List.length_cons, List.length_nil]
    omega
  have hjoin := Tryz.strings_Join gg 0 cap [txt t1, txt t2, txt t3, txt t4] ⟨#[32]⟩ wd4 (fun j x hj => by
    rw [Nat.zero_add]
    refine hcell j _ ?_
    match j, hj with
    | 0, hj => simpa using hj
    | 1, hj => simpa using hj
    | 2, hj => simpa using hj
    | 3, hj => simpa using hj) hgs (by simp) (by cases hv; exact hcap) (by simp only [List.map_cons, List.map_nil, txt_data]; show (Lib.join [t1, t2, t3, t4] [32]).length ≤ _; rw [hJ]; omega)
  have he : (⟨(Lib.join ([txt t1, txt t2, txt t3, txt t4].map (·.data.toList)) (⟨#[32]⟩ : ByteArray).data.toList).toArray⟩ : ByteArray) = txt J := by
    simp only [List.map_cons, List.map_nil, txt_data]
    show txt (Lib.join [t1, t2, t3, t4] [32]) = _
    rw [hJ]
  rw [he] at hjoin
  have HJ := Lib.hid hjoin
  rw [hJ] at HFIN
  have hT := fun W (hV : Vars W) => told_calls J code W hV hcode.1 hcode.2
  have HT := Lib.hid hT
  have HB4 := Lib.hid hb4
  cases hv
  clear hjoin he hJ hT hcell hown4 hb4 hcap
  go_wp2_with fail
  refine HJ.out.mono ?_
  rintro e we ⟨rfl, hbe⟩
  have hbE := HB4.out.trans (hbe.mono HB4.out.size)
  go_wp2_with fail
  refine (HT.out _ (HV.out.below hbE h8)).mono ?_
  rintro e wz ⟨rfl, hbz⟩
  go_wp2_with fail
  go_ret
  rw [HFIN.out]
  exact ⟨rfl, hbE.trans (hbz.mono hbE.size)⟩
end Go.Proofs.YtolbfeggceemfaaGreatDoor
