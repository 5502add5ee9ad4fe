/-
  The walks of package name, the third part: escaped, loose, Parse. Condition: the signs are a million at most.
-/
import Derived.Test.YtolbfeggceemfaaGreatDoorN2
import Derived.Laws.IdiomStrings
namespace Go.Proofs.YtolbfeggceemfaaGreatDoor
open Go.RowKit

theorem ret_ub {a b : Int} {x y : Bool} (h : a = b) (k : x = y) : Ending.returned (.tuple #[.int .u8 a, .bool x]) = .returned (.tuple #[.int .u8 b, .bool y]) := by rw [h, k]

def EscPost (o : Option UInt8) (w : World) (e : Ending) (w' : World) : Prop :=
  w = w' ∧ match o with
    | some b => e = .returned (.tuple #[.int .u8 b.toNat, .bool true])
    | none => ∃ v, e = .returned (.tuple #[v, .bool false])

set_option maxHeartbeats 1000000 in
set_option maxRecDepth 100000 in
theorem escaped_calls (s : ByteArray) (w : World) (hm : s.size ≤ 140737488355328) :
    Calls Tryz.prog 100 #[.string s] w (EscPost (Nm.escd s.data.toList) w) := by
  by_cases hs : s.size < 3
  · go_enter Tryz.func100, Tryz.ntmps100
    go_wp2
    go_ret2
    have hn : Nm.escd s.data.toList = none := by
      match hh : s.data.toList with
      | [] => rfl
      | [_] => rfl
      | [_, _] => rfl
      | a :: b :: c :: r => exfalso; have := Lib.size_eq s; rw [hh] at this; simp at this; omega
    rw [hn]
    exact ⟨rfl, .int .u8 0, rfl⟩
  · obtain ⟨a, b, c, r, hl⟩ : ∃ a b c r, s.data.toList = a :: b :: c :: r := by
      have : 3 ≤ s.data.toList.length := by rw [← Lib.size_eq]; omega
      match hh : s.data.toList, this with
      | a :: b :: c :: r, _ => exact ⟨a, b, c, r, rfl⟩
    have h0 : 0 < s.size := by omega
    have h1 : 1 < s.size := by omega
    have h2 : 2 < s.size := by omega
    have e0 : Aside (s[0] = a) := by show s.data.toList[0] = a; simp [hl]
    have e1 : Aside (s[1] = b) := by show s.data.toList[1] = b; simp [hl]
    have e2 : Aside (s[2] = c) := by show s.data.toList[2] = c; simp [hl]
    have HL := Lib.hid hl
    clear hl
    have c0 : s[0].toNat < 256 := UInt8.toNat_lt _
    have c1 : s[1].toNat < 256 := UInt8.toNat_lt _
    have c2 : s[2].toNat < 256 := UInt8.toNat_lt _
    have no : ¬ (48 ≤ s[0].toNat ∧ s[0].toNat ≤ 57 ∧ 48 ≤ s[1].toNat ∧ s[1].toNat ≤ 57 ∧ 48 ≤ s[2].toNat ∧ s[2].toNat ≤ 57) → Nm.escd s.data.toList = none := fun h => by
      rw [HL.out, Nm.escd, if_neg]
      rw [← e0.out, ← e1.out, ← e2.out]
      omega
    have NO := Lib.hid no
    clear no
    go_enter Tryz.func100, Tryz.ntmps100
    go_wp2
    refine wp_loop_rounds 4 ?_
    rw [rounds_succ]
    go_wp2
    all_goals (try (rw [rounds_succ]; go_wp2))
    all_goals (try (rw [rounds_succ]; go_wp2))
    all_goals (try (rw [rounds_succ]; go_wp2))
    all_goals go_ret2
    iterate 3
      · rw [NO.out (by omega)]
        exact ⟨rfl, .int .u8 0, rfl⟩
    · by_cases hv : 100 * (s[0].toNat - 48) + 10 * (s[1].toNat - 48) + (s[2].toNat - 48) < 256
      · have hy : Nm.escd s.data.toList = some (UInt8.ofNat (100 * (s[0].toNat - 48) + 10 * (s[1].toNat - 48) + (s[2].toNat - 48))) := by
          rw [HL.out, Nm.escd, if_pos]
          · rw [e0.out, e1.out, e2.out]
          · rw [← e0.out, ← e1.out, ← e2.out]
            omega
        rw [hy]
        refine ⟨rfl, ?_⟩
        exact ret_ub (by simp; omega) (by simp; omega)
      · rw [show Nm.escd s.data.toList = none from by
          rw [HL.out, Nm.escd, if_neg]
          rw [← e0.out, ← e1.out, ← e2.out]
          omega]
        exact ⟨rfl, _, ret_ub rfl (by simp; omega)⟩
    all_goals
      rw [NO.out (by omega)]
      exact ⟨rfl, .int .u8 0, rfl⟩

theorem esc_none (s : ByteArray) (w : World) (h : Nm.escd s.data.toList = none) (hm : s.size ≤ 140737488355328) : Calls Tryz.prog 100 #[.string s] w fun e w' => ∃ v, e = .returned (.tuple #[v, .bool false]) ∧ w = w' := by
  refine (escaped_calls s w hm).mono ?_
  rintro e w' ⟨hw, he⟩
  rw [h] at he
  exact he.imp fun v hv => ⟨hv, hw⟩

theorem esc_some (s : ByteArray) (w : World) (b : UInt8) (h : Nm.escd s.data.toList = some b) (hm : s.size ≤ 140737488355328) : Calls Tryz.prog 100 #[.string s] w fun e w' => e = .returned (.tuple #[.int .u8 b.toNat, .bool true]) ∧ w = w' := by
  refine (escaped_calls s w hm).mono ?_
  rintro e w' ⟨hw, he⟩
  rw [h] at he
  exact ⟨he, hw⟩

theorem escd_long {l : List UInt8} {b : UInt8} (h : Nm.escd l = some b) : 3 ≤ l.length := by
  match l, h with
  | [], h => simp [Nm.escd] at h
  | [_], h => simp [Nm.escd] at h
  | [_, _], h => simp [Nm.escd] at h
  | _ :: _ :: _ :: r, _ => simp

theorem txt_append (a b : List UInt8) : txt a ++ txt b = txt (a ++ b) := by
  apply ByteArray.ext
  simp [txt]
theorem ret_sb {a b : ByteArray} {x : Bool} (h : a = b) : Ending.returned (.tuple #[.string a, .bool x]) = .returned (.tuple #[.string b, .bool x]) := by rw [h]

/-- The text of an owned row of bytes. -/
theorem own_conv {w : World} {B : Nat} {v : Value} {l : List UInt8} (h : w.ownsRow B 5 1 v l.length (Lib.byteCells l)) : (convert 47 9 v).run Tryz.prog w = .ok (.string (txt l)) w := by
  rcases h.2 with ⟨rfl, h0⟩ | ⟨g, cap, cur, rfl, hb, hg, _⟩
  · have : l = [] := List.eq_nil_of_length_eq_zero h0
    subst this
    exact run_convert_bytes_nil w 47 5 Tryz.underlying47 Tryz.underlying5 0 0 9 Tryz.underlying9
  · refine run_convert_bytes_back w 47 9 5 ⟨g, 0, none⟩ cap l Tryz.underlying47 Tryz.underlying5 Tryz.underlying9 fun j hj => ?_
    exact h.cells (g := g) rfl j _ (by simp [Lib.byteCells, hj])

/-- Two owned rows lie apart. -/
def Apart (u v : Value) : Prop := u.ownBlock = none ∨ u.ownBlock ≠ v.ownBlock

theorem own_byte {w : World} {B : Nat} {v : Value} {l : List UInt8} {c : UInt8} (h : w.ownsRow B 5 1 v (l.length + 1) (Lib.byteCells l ++ [.int .u8 (c.toNat : Int)])) : w.ownsRow B 5 1 v (l ++ [c]).length (Lib.byteCells (l ++ [c])) := by
  rw [Lib.byteCells_append, List.length_append]; exact h

theorem apart_grown {w : World} {B n H g m cap : Nat} {e : TypeId} {u v : Value} {xs : List Value} (hA : Apart u v) (hu : w.ownsRow B e 1 u n xs) (hat : v.ownBlock = some g ∨ g = w.heap.size + H) : Apart u (.slice (some ⟨g, 0, none⟩) m cap) := by
  rcases hA with h | h
  · exact .inl h
  · rcases hat with h1 | h1
    · exact .inr (by rw [show (Value.slice (some ⟨g, 0, none⟩) m cap).ownBlock = some g from rfl, ← h1]; exact h)
    · refine .inr fun e => ?_
      have := (hu.lt g (by rw [e]; rfl)).2
      omega

def LoosePost (o : Option (List UInt8)) (w : World) (e : Ending) (w' : World) : Prop :=
  Below w.heap.size w w' ∧ match o with
    | some l => e = .returned (.tuple #[.string (txt l), .bool true])
    | none => e = .returned (.tuple #[.string (txt []), .bool false])

set_option maxHeartbeats 2000000 in
set_option maxRecDepth 100000 in
theorem loose_calls (s : ByteArray) (w : World) (hm : s.size ≤ 1000000) :
    Calls Tryz.prog 74 #[.string s] w (LoosePost (Nm.loose (s.size + 1) s.data.toList [] []) w) := by
  obtain ⟨i0, hi0, hz0, hz1, hz2⟩ := info_parts Tryz.info5
  obtain ⟨o, ho⟩ : ∃ o, Nm.loose (s.size + 1) s.data.toList [] [] = o := ⟨_, rfl⟩
  rw [ho]
  have HO := Lib.hid ho
  clear ho
  go_enter Tryz.func74, Tryz.ntmps74
  go_wp2
  go_loopg [4, 5, 6] (s.size + 1) (fun gg v4 v5 v6 wx => ∃ (i f : Nat) (out label : List UInt8), v6 = .int .i64 (i : Int) ∧ i ≤ s.size ∧ s.size - i < gg ∧ s.size - i < f ∧ out.length + label.length ≤ i ∧
    wx.ownsRow w.heap.size 5 1 v4 out.length (Lib.byteCells out) ∧ wx.ownsRow w.heap.size 5 1 v5 label.length (Lib.byteCells label) ∧ Apart v4 v5 ∧ Below w.heap.size w wx ∧
    Aside (Nm.loose f (s.data.toList.drop i) out label = o))
  case atStart => exact ⟨0, s.size + 1, [], [], rfl, by omega, by omega, by omega, by simp, World.ownsRow_nil _ _ _ _, World.ownsRow_nil _ _ _ _, .inl rfl, Below.refl _ _, HO.out⟩
  case round =>
    obtain ⟨i, f, out, label, rfl, hi, hig, hif, hlen, hO, hL, hA, hb, HA⟩ := hrel
    have hbs := hb.size
    by_cases hlt : i < s.size
    · have hc : s[i].toNat < 256 := UInt8.toNat_lt _
      have hdrop : Aside (s.data.toList.drop i = s[i] :: s.data.toList.drop (i + 1)) := by
        show _ = _
        rw [List.drop_eq_getElem_cons (by simpa using hlt)]; rfl
      obtain ⟨f, rfl⟩ : ∃ f', f = f' + 1 := ⟨f - 1, by omega⟩
      obtain ⟨lo, lc, rfl⟩ := own_form hL
      by_cases hdot : s[i].toNat = 46
      · have hdb : ((s[i].toNat : Int) == 46) = true := by simp; omega
        by_cases hbad : label.length = 0 ∨ 63 < label.length
        · have hO2 : Aside (o = none) := by
            have := HA.out
            rw [hdrop.out, Nm.loose, if_pos hdot, if_pos hbad] at this
            exact this.symm
          clear hdot
          rcases hbad with h0 | h6
          · have q : ((label.length : Int) == 0) = true := beq_iff_eq.2 (by omega)
            have HL0 := Lib.hid h0
            clear h0
            go_wp2_with fail
            go_ret2
            rw [hO2.out]
            exact ⟨hb, rfl⟩
          · have q : ((label.length : Int) == 0) = false := beq_eq_false_iff_ne.2 (by omega)
            go_wp2_with fail
            go_ret2
            rw [hO2.out]
            exact ⟨hb, rfl⟩
        · have q : ((label.length : Int) == 0) = false := beq_eq_false_iff_ne.2 (by omega)
          have q6 : label.length ≤ 63 := by omega
          have HB := Lib.hid hbad
          have HD := Lib.hid hdot
          have hL0 : 0 < label.length := by omega
          obtain ⟨gl, cl, e, _, hgl, hlc⟩ := own_at hL hL0
          cases e
          have hob := hO.lt
          have HC := Lib.hid hlc
          have HOB := Lib.hid hob
          clear hbad hdot hlc hob
          go_wp2_with (first | (at_builtin; refine wpList_append_lies _ rfl (.tmp 34) (.tmp 38) 47 rfl (w.heap.size) 5 i0 (.int .u8 0) 1 1 Tryz.underlying47 hi0 hz0 hz1 hz2 rfl (by decide) _ _ _ rfl (hO.alloc _) ⟨wr.heap.size, 0, none⟩ 1 1 [.int .u8 (label.length : Int)] rfl rfl (one_new _ _ _ rfl) (one_cell rfl) (by omega) (by unfold maxLen; omega) (by omega) (by simp; omega) _ rfl ?_; intro g' cap' w1 hown1 hgrow hat hlt1; have HG := Lib.hid hgrow; have HA2 := Lib.hid hat; clear hgrow hat) | (at_builtin; refine wpList_append_lies _ rfl (.tmp 39) (.tmp 40) 47 rfl (w.heap.size) 5 i0 (.int .u8 0) 1 1 Tryz.underlying47 hi0 hz0 hz1 hz2 rfl (by decide) _ _ _ rfl hown1 ⟨gl, 0, none⟩ label.length _ (Lib.byteCells label) rfl ?c0 ?c1 (by intro u hu; simp [Lib.byteCells] at hu; obtain ⟨x, _, rfl⟩ := hu; rfl) (by omega) (by unfold maxLen; omega) (by omega) ?c2 _ rfl ?_))
          case c0 => simp [Lib.byteCells_length]
          case c1 =>
            intro j u hj
            have h1 := HC.out j u hj
            rw [Addr.add_lit, Nat.zero_add]
            refine HG.out.cell ?_ ?_
            · rw [World.cell?_alloc_past _ _ _ (World.block_lt_of_cell? wr _ h1)]
              exact h1
            · show some gl ≠ u4.ownBlock
              rcases hA with h | h
              · rw [h]; simp
              · exact fun e => h (by rw [← e]; rfl)
          case c2 => have := HG.out.size; simp at this; omega
          intro g2 cap2 w2 hown2 hgrow2 hat2 hlt2
          have hb1 := below_app hb (Nat.le_refl _) hbs hO HG.out
          have hb2 := below_app0 hb1 (Nat.le_refl _) hb1.size hown1 hgrow2
          clear hgrow2 hat2
          go_wp2
          go_roundg (gk - 1)
          case measure => omega
          case rel =>
            refine ⟨i + 1, f, out ++ UInt8.ofNat label.length :: label, [], by simp, by omega, by omega, by omega, by simp; omega, ?_, World.ownsRow_nil _ _ _ _, .inr (by simp [Value.ownBlock]), hb2, ?_⟩
            · have e1 : (out ++ UInt8.ofNat label.length :: label).length = out.length + 1 + label.length := by simp; omega
              rw [e1, Lib.byteCells_append, show Lib.byteCells (UInt8.ofNat label.length :: label) = Value.int .u8 (label.length : Int) :: Lib.byteCells label from by simp [Lib.byteCells]; omega]
              simpa using hown2
            · have H := HA.out
              rw [hdrop.out, Nm.loose, if_pos HD.out, if_neg HB.out] at H
              exact H
      · have hdb : ((s[i].toNat : Int) == 46) = false := by simp; omega
        by_cases hmark : s[i].toNat = 92
        · have hmb : ((s[i].toNat : Int) == 92) = true := by simp; omega
          have HD := Lib.hid hdot
          have HM := Lib.hid hmark
          clear hdot hmark
          have q1 : i + 1 ≤ s.size := by omega
          have hxd : Aside ((s.extract (i + 1) s.size).data.toList = s.data.toList.drop (i + 1)) := Lib.extract_to_end s (i + 1)
          have hxs : (s.extract (i + 1) s.size).size ≤ 140737488355328 := by rw [Lib.size_eq, hxd.out, List.length_drop, ← Lib.size_eq]; omega
          cases hesc : Nm.escd (s.data.toList.drop (i + 1)) with
          | none =>
            have hcall := fun W => esc_none (s.extract (i + 1) s.size) W (by rw [hxd.out]; exact hesc) hxs
            have HCALL := Lib.hid hcall
            have HE := Lib.hid hesc
            clear hcall hesc
            go_wp2_with (go_at_call 100; refine (HCALL.out _).mono ?_; rintro e w1 ⟨v, rfl, rfl⟩)
            go_ret2
            have H := HA.out
            rw [hdrop.out, Nm.loose, if_neg HD.out, if_pos HM.out, HE.out] at H
            rw [← H]
            exact ⟨hb, rfl⟩
          | some b =>
            have hl3 := escd_long hesc
            rw [List.length_drop, ← Lib.size_eq] at hl3
            have hcall := fun W => esc_some (s.extract (i + 1) s.size) W b (by rw [hxd.out]; exact hesc) hxs
            have HCALL := Lib.hid hcall
            have HE := Lib.hid hesc
            clear hcall hesc
            go_wp2_with (first | (go_at_call 100; refine (HCALL.out _).mono ?_; rintro e w1 ⟨rfl, rfl⟩) | (at_builtin; refine wpList_append_lies _ rfl _ _ 47 rfl (w.heap.size) 5 i0 (.int .u8 0) 1 1 Tryz.underlying47 hi0 hz0 hz1 hz2 rfl (by decide) _ _ _ rfl (hL.alloc _) ⟨wr.heap.size, 0, none⟩ 1 1 [.int .u8 (b.toNat : Int)] rfl rfl (one_new _ _ _ rfl) (one_cell rfl) (by omega) (by unfold maxLen; omega) (by omega) (by simp; omega) _ rfl ?_; intro g' cap' w1 hown1 hgrow hat hlt1; have HG := Lib.hid hgrow; have HA2 := Lib.hid hat; clear hgrow hat))
            go_roundg (gk - 1)
            case measure => omega
            case rel =>
              have H := HA.out
              rw [hdrop.out, Nm.loose, if_neg HD.out, if_pos HM.out, HE.out, List.drop_drop] at H
              exact ⟨i + 4, f, out, label ++ [b], by first | rfl | (simp; omega), by omega, by omega, by omega, by simp; omega, (hO.alloc _).kept HG.out (hA.imp_right fun h e => h e), own_byte hown1, apart_grown (H := 1) hA hO (HA2.out.imp (fun h => h) (fun h => by rw [h]; simp)), below_app hb (Nat.le_refl _) hbs hL HG.out, by rw [show i + 4 = i + 1 + 3 from by omega]; exact H⟩
        · have hmb : ((s[i].toNat : Int) == 92) = false := by simp; omega
          have HD := Lib.hid hdot
          have HM := Lib.hid hmark
          clear hdot hmark
          go_wp2_with (at_builtin; refine wpList_append_lies _ rfl _ _ 47 rfl (w.heap.size) 5 i0 (.int .u8 0) 1 1 Tryz.underlying47 hi0 hz0 hz1 hz2 rfl (by decide) _ _ _ rfl (hL.alloc _) ⟨wr.heap.size, 0, none⟩ 1 1 [.int .u8 (s[i].toNat : Int)] rfl rfl (one_new _ _ _ rfl) (one_cell rfl) (by omega) (by unfold maxLen; omega) (by omega) (by simp; omega) _ rfl ?_; intro g' cap' w1 hown1 hgrow hat hlt1)
          go_roundg (gk - 1)
          case measure => omega
          case rel =>
            have H := HA.out
            rw [hdrop.out, Nm.loose, if_neg HD.out, if_neg HM.out] at H
            exact ⟨i + 1, f, out, label ++ [s[i]], by simp, by omega, by omega, by omega, by simp; omega, (hO.alloc _).kept hgrow (hA.imp_right fun h e => h e), own_byte hown1, apart_grown (H := 1) hA hO (hat.imp (fun h => h) (fun h => by rw [h]; simp)), below_app hb (Nat.le_refl _) hbs hL hgrow, H⟩
    · have hi2 : i = s.size := by omega
      have HZ : Aside (o = some (out ++ [0])) := by
        have H := HA.out
        rw [List.drop_eq_nil_of_le (by rw [← Lib.size_eq]; omega)] at H
        cases f with
        | zero => omega
        | succ f => exact H.symm
      have hcv := own_conv hO
      clear hi2
      have hsz : (txt out).size + 1 ≤ 9223372036854775807 := by rw [txt_size]; omega
      go_wp2
      go_ret2
      rw [HZ.out]
      exact ⟨hb, ret_sb (txt_append out [0])⟩
def ParsePost (o : Option (List UInt8)) (w : World) (e : Ending) (w' : World) : Prop :=
  Below w.heap.size w w' ∧ match o with
    | some l => e = .returned (.tuple #[.string (txt l), .int .i64 0])
    | none => e = .returned (.tuple #[.string (txt []), .int .i64 100])

theorem loose_some (s : ByteArray) (w : World) (hm : s.size ≤ 1000000) (n : List UInt8) (h : Nm.loose (s.size + 1) s.data.toList [] [] = some n) :
    Calls Tryz.prog 74 #[.string s] w fun e w' => e = .returned (.tuple #[.string (txt n), .bool true]) ∧ Below w.heap.size w w' := by
  refine (loose_calls s w hm).mono ?_
  rintro e w' ⟨hb, he⟩
  rw [h] at he
  exact ⟨he, hb⟩
theorem loose_none (s : ByteArray) (w : World) (hm : s.size ≤ 1000000) (h : Nm.loose (s.size + 1) s.data.toList [] [] = none) :
    Calls Tryz.prog 74 #[.string s] w fun e w' => e = .returned (.tuple #[.string (txt []), .bool false]) ∧ Below w.heap.size w w' := by
  refine (loose_calls s w hm).mono ?_
  rintro e w' ⟨hb, he⟩
  rw [h] at he
  exact ⟨he, hb⟩

theorem loose_len : ∀ (f : Nat) (l out label n : List UInt8), Nm.loose f l out label = some n → n.length ≤ out.length + label.length + l.length + 1
  | 0, _, _, _, _, h => by simp [Nm.loose] at h
  | _ + 1, [], out, label, n, h => by
    simp only [Nm.loose, Option.some.injEq] at h
    subst h
    simp
  | f + 1, c :: r, out, label, n, h => by
    simp only [Nm.loose] at h
    split at h
    · split at h
      · cases h
      · have := loose_len f _ _ _ _ h
        simp at this ⊢
        omega
    · split at h
      · split at h
        · cases h
        · have := loose_len f _ _ _ _ h
          simp at this ⊢
          omega
      · have := loose_len f _ _ _ _ h
        simp at this ⊢
        omega

set_option maxHeartbeats 1000000 in
set_option maxRecDepth 100000 in
theorem parse_calls (s : ByteArray) (w : World) (hm : s.size ≤ 1000000) :
    Calls Tryz.prog 54 #[.string s] w (ParsePost (Nm.parse s.data.toList) w) := by
  by_cases hdot : s.data.toList = [46]
  · obtain rfl : s = txt [46] := by rw [← txt_of s, hdot]
    have hq : ((txt [46]).toList == [46]) = true := by rw [Lib.toList_data]; rfl
    go_enter Tryz.func54, Tryz.ntmps54
    go_wp2
    go_ret2
    exact ⟨Below.refl _ _, rfl⟩
  · have hne : (s.toList == [46]) = false := by rw [Lib.toList_data]; simpa using hdot
    have hls : s.data.toList.length = s.size := (Lib.size_eq s).symm
    obtain ⟨o, ho⟩ : ∃ o, Nm.parse s.data.toList = o := ⟨_, rfl⟩
    rw [ho]
    rw [Nm.parse, if_neg hdot, hls] at ho
    clear hdot hls
    cases hl : Nm.loose (s.size + 1) s.data.toList [] [] with
    | none =>
      rw [hl] at ho
      have HL := Lib.hid hl
      have HO := Lib.hid ho
      clear hl ho
      go_enter Tryz.func54, Tryz.ntmps54
      go_wp2_with (first | (go_at_call 74; refine (loose_none s _ hm HL.out).mono ?_; rintro e w1 ⟨rfl, hb⟩) | (go_at_call 58; refine (text_not (txt []) rfl _ (by simp [txt_size])).mono ?_; rintro e w2 ⟨rfl, hb2⟩))
      go_ret2
      rw [← HO.out]
      exact ⟨hb.trans (hb2.mono hb.size), rfl⟩
    | some n =>
      have hnl := loose_len _ _ _ _ _ hl
      have hns : (txt n).size ≤ 140737488355328 := by rw [txt_size]; simp at hnl; omega
      rw [hl] at ho
      have HL := Lib.hid hl
      clear hl
      cases hn : Nm.labels n with
      | none =>
        simp only [hn] at ho
        have HO := Lib.hid ho
        have HN := Lib.hid hn
        clear hn ho
        go_enter Tryz.func54, Tryz.ntmps54
        go_wp2_with (first | (go_at_call 74; refine (loose_some s _ hm n HL.out).mono ?_; rintro e w1 ⟨rfl, hb⟩) | (go_at_call 58; refine (text_not (txt n) (by rw [txt_data]; exact HN.out) _ hns).mono ?_; rintro e w2 ⟨rfl, hb2⟩))
        go_ret2
        rw [← HO.out]
        exact ⟨hb.trans (hb2.mono hb.size), rfl⟩
      | some ls =>
        simp only [hn] at ho
        have HN := Lib.hid hn
        clear hn
        by_cases ht : Nm.text ls = s.data.toList
        · have hq : ((txt (Nm.text ls)).toList == s.toList) = true := by rw [Lib.toList_data, Lib.toList_data, txt_data, ht]; simp
          rw [if_pos ht] at ho
          have HO := Lib.hid ho
          clear ht ho
          go_enter Tryz.func54, Tryz.ntmps54
          go_wp2_with (first | (go_at_call 74; refine (loose_some s _ hm n HL.out).mono ?_; rintro e w1 ⟨rfl, hb⟩) | (go_at_call 58; refine (text_yes (txt n) ls (by rw [txt_data]; exact HN.out) _ hns).mono ?_; rintro e w2 ⟨rfl, hb2⟩))
          go_ret2
          rw [← HO.out]
          exact ⟨hb.trans (hb2.mono hb.size), rfl⟩
        · have hq : ((txt (Nm.text ls)).toList == s.toList) = false := by rw [Lib.toList_data, Lib.toList_data, txt_data]; simpa using ht
          rw [if_neg ht] at ho
          have HO := Lib.hid ho
          clear ht ho
          go_enter Tryz.func54, Tryz.ntmps54
          go_wp2_with (first | (go_at_call 74; refine (loose_some s _ hm n HL.out).mono ?_; rintro e w1 ⟨rfl, hb⟩) | (go_at_call 58; refine (text_yes (txt n) ls (by rw [txt_data]; exact HN.out) _ hns).mono ?_; rintro e w2 ⟨rfl, hb2⟩))
          go_ret2
          rw [← HO.out]
          exact ⟨hb.trans (hb2.mono hb.size), rfl⟩

end Go.Proofs.YtolbfeggceemfaaGreatDoor
