/-
  Numbers in lines: the reference's Decimal, Size, Room, the law's 'one', a line of words, digits read again, and the walk of ConsoleSteps. Condition: told at each.
-/
import Derived.Test.YtolbfeggceemfaaGreatDoorN3
import Derived.Test.YtolbfeggceemfaaGreatDoorQ1
import Derived.Laws.AppendOwnNone
import Derived.Lib.ItoaMem
import Derived.Test.YtolbfeggceemfaaGreatDoorC3
import Derived.Test.YtolbfeggceemfaaGreatDoorE2
import Derived.Test.YtolbfeggceemfaaGreatDoorD3
import Derived.Laws.RangeString
namespace Go.Proofs.YtolbfeggceemfaaGreatDoor
open Go.RowKit

/-! ### S1: The walk of the reference's Decimal: the decimal digits. Condition: a number from 0 to 1000000. -/
def digb (m : Nat) : UInt8 := UInt8.ofNat (48 + m % 10)
theorem dec_small {m : Nat} (h : m < 10) : Lib.decDigits m = [digb m] := by
  rw [Lib.decDigits, dif_pos h, digb, Nat.mod_eq_of_lt h]
theorem dec_big {m : Nat} (h : ¬ m < 10) : Lib.decDigits m = Lib.decDigits (m / 10) ++ [digb m] := by
  rw [Lib.decDigits, dif_neg h, digb]
/-- What the loop keeps. -/
def DecAt (n m : Nat) (ds : List UInt8) : Prop := (m = 0 ∧ ds ≠ [] ∧ ds = Lib.decDigits n) ∨ ((0 < m ∨ ds = []) ∧ Lib.decDigits m ++ ds = Lib.decDigits n)
theorem dec_next {n m : Nat} {ds : List UInt8} (h : DecAt n m ds) (hc : 0 < m ∨ ds = []) : DecAt n (m / 10) (digb m :: ds) := by
  rcases h with ⟨h1, h2, _⟩ | ⟨_, h⟩
  · rcases hc with hc | hc
    · omega
    · exact absurd hc h2
  · by_cases hm : m < 10
    · refine .inl ⟨by omega, by simp, ?_⟩
      rw [← h, dec_small hm]; rfl
    · refine .inr ⟨.inl (by omega), ?_⟩
      rw [← h, dec_big hm]; simp
theorem dec_done {n : Nat} {ds : List UInt8} (h : DecAt n 0 ds) (hd : ds ≠ []) : ds = Lib.itoa (n : Int) := by
  rw [Lib.itoa_nonneg]
  rcases h with ⟨_, _, h⟩ | ⟨h | h, _⟩
  · exact h
  · omega
  · exact absurd h hd

theorem dig_more {w : World} {B : Nat} {v : Value} {c : UInt8} {l : List UInt8} (h : w.ownsRow B 5 1 v (1 + l.length) (Lib.byteCells [c] ++ Lib.byteCells l)) : w.ownsRow B 5 1 v (c :: l).length (Lib.byteCells (c :: l)) := by
  rw [List.length_cons, Nat.add_comm]; exact h
theorem dig_val (m : Nat) : (48 : Int) + (m : Int) % 10 = ((digb m).toNat : Int) := by
  have : (digb m).toNat = 48 + m % 10 := by
    rw [digb, UInt8.toNat_ofNat']
    omega
  omega
theorem dig_one {w : World} {B : Nat} (h : B ≤ w.heap.size) (m : Nat) : (w.alloc (.cells #[.int .u8 (48 + (m : Int) % 10)] 5)).ownsRow B 5 1 (.slice (some ⟨w.heap.size, 0, none⟩) 1 1) 1 (Lib.byteCells [digb m]) := by
  have h1 := World.ownsRow_lit (e := 5) (size := 1) w #[.int .u8 (48 + (m : Int) % 10)] 1 h (by decide) rfl
  rw [dig_val] at h1 ⊢
  exact h1
set_option maxHeartbeats 2000000 in
set_option maxRecDepth 100000 in
theorem decimal_calls (n : Nat) (hn : n ≤ 1000000) (w : World) :
    Calls Tryz.prog 15 #[.int .i64 (n : Int)] w fun e w' => e = .returned (.string (txt (Lib.itoa (n : Int)))) ∧ Below w.heap.size w w' := by
  obtain ⟨ii, hi, hz0, hz1, hz2⟩ := info_parts Tryz.info5
  have q1 : ((n : Int) < 0) = False := by simp
  go_enter Tryz.func15, Tryz.ntmps15
  go_wp2_with fail
  go_loopg [3, 4] 7 (fun gg v3 v4 wx => ∃ (m : Nat) (ds : List UInt8), v3 = .int .u64 (m : Int) ∧ m < 10 ^ gg ∧ (ds = [] → 0 < gg ∧ v4 = .slice none 0 0) ∧ ds.length + gg ≤ 7 ∧ wx.ownsRow w.heap.size 5 1 v4 ds.length (Lib.byteCells ds) ∧ Below w.heap.size w wx ∧ Aside (DecAt n m ds))
  case atStart => exact ⟨n, [], rfl, by omega, fun _ => ⟨by decide, rfl⟩, by simp, World.ownsRow_nil _ _ _ _, Below.refl _ _, .inr ⟨.inr rfl, by simp⟩⟩
  case round =>
    obtain ⟨m, ds, rfl, hm, hnil, hlen, hown, hb, hA⟩ := hrel
    have hbs := hb.size
    by_cases hx : m = 0 ∧ ds ≠ []
    · obtain ⟨rfl, hd⟩ := hx
      have hr := dec_done hA hd
      have hcv := own_conv hown
      obtain ⟨g, cap, rfl, _, _⟩ := hown.form (by have := List.length_pos_iff.2 hd; omega)
      have hl : ((ds.length : Int) == 0) = false := by have := List.length_pos_iff.2 hd; simp; omega
      have HR := Lib.hid hr
      clear hr hnil hA hd hm
      go_wp2_with fail
      go_ret
      rw [← HR.out]
      exact ⟨rfl, hb⟩
    · have hc : 0 < m ∨ ds = [] := by
        by_cases h0 : ds = []
        · exact .inr h0
        · left
          rcases Nat.eq_zero_or_pos m with h | h
          · exact absurd ⟨h, h0⟩ hx
          · exact h
      have hN := dec_next hA hc
      cases gk with
      | zero =>
        exfalso
        rcases hc with h | h
        · rw [Nat.pow_zero] at hm; omega
        · have := (hnil h).1; omega
      | succ g1 =>
        have hm7 : m < 10000000 := Nat.lt_of_lt_of_le hm (Nat.le_trans (Nat.pow_le_pow_right (by decide) (show g1 + 1 ≤ 7 by omega)) (by decide))
        have hm' : m / 10 < 10 ^ g1 := by rw [Nat.pow_succ] at hm; omega
        have HM := Lib.hid hm'
        clear hx hm hm'
        cases ds with
        | nil =>
          obtain ⟨_, rfl⟩ := hnil rfl
          clear hnil
          by_cases h0 : m = 0
          · subst h0
            go_wp2_with fail
            go_roundg g1
            case measure => omega
            case rel => exact ⟨0, [digb 0], rfl, HM.out, (fun h => nomatch h), by simp at hlen ⊢; omega, World.ownsRow_lit (size := 1) wr #[Value.int .u8 48] 1 hbs (by decide) rfl, hb.alloc hbs _, hN⟩
          · have hm0 : (0 < m) = True := by simp; omega
            clear h0 hc
            go_wp2_with fail
            go_roundg g1
            case measure => omega
            case rel => exact ⟨m / 10, [digb m], by rw [show ((m / 10 : Nat) : Int) = (m : Int) / 10 from by omega], HM.out, (fun h => nomatch h), by simp at hlen ⊢; omega, dig_one hbs m, hb.alloc hbs _, hN⟩
        | cons d r =>
          have hm0 : 0 < m := by
            rcases hc with h | h
            · exact h
            · cases h
          have hm0 : (0 < m) = True := by simp [hm0]
          clear hc
          obtain ⟨g, cap, rfl, _, _⟩ := hown.form (by simp)
          have hlt := (hown.lt g rfl)
          have hd1 := dig_one hbs m
          have HO := Lib.hid hown
          go_wp2_with (at_builtin; refine wpList_append_own _ rfl _ _ 47 rfl w.heap.size 5 ii (.int .u8 0) 1 1 Tryz.underlying47 hi hz0 hz1 hz2 rfl (by decide) _ _ _ rfl hd1 ⟨g, 0, none⟩ (r.length + 1) cap (Lib.byteCells (d :: r)) rfl ?c0 ?c1 ?c2 ?c3 ?c4 ?c5 ?_)
          case c0 => simp [Lib.byteCells]
          case c1 => exact fun j u hu => (HO.out.alloc _).cells (g := g) rfl j u hu
          case c2 =>
            intro u hu
            obtain ⟨c, _, rfl⟩ := List.mem_map.1 hu
            rfl
          case c3 => unfold maxLen; simp at hlen; omega
          case c4 => simp at hlen; omega
          case c5 => simp; omega
          intro v' w1 hown1 hgrow hiff
          have hb1 : Below w.heap.size w w1 := (hb.alloc hbs _).grown hgrow (by simp; omega) (fun j hj => by have : wr.heap.size = j := by simpa [Value.ownBlock] using hj
                                                                                                             omega)
          have HG := Lib.hid hgrow
          clear hgrow
          go_wp2_with fail
          go_roundg g1
          case measure => omega
          case rel => exact ⟨m / 10, digb m :: d :: r, by rw [show ((m / 10 : Nat) : Int) = (m : Int) / 10 from by omega], HM.out, (fun h => nomatch h), by simp at hlen ⊢; omega, dig_more hown1, hb1, hN⟩

/-! ### S2: The walks of the reference's Size and Room. Condition: small numbers. -/
set_option maxHeartbeats 1000000 in
set_option maxRecDepth 100000 in
theorem refSize_calls (a b c d : Int) (w : World) (ha : 0 ≤ a) (ha1 : a ≤ 1000) (hb : 1 ≤ b) (hb1 : b ≤ 1000) (hc : 0 ≤ c) (hc1 : c ≤ 1000) (hd : 0 ≤ d) (hd1 : d ≤ 1000) :
    Calls Tryz.prog 19 #[.int .i64 a, .int .i64 b, .int .i64 c, .int .i64 d] w fun e w' => e = .returned (.tuple #[.int .i64 (Nu.size a b c d).1, .int .i64 0]) ∧ w = w' := by
  have hbad : ¬ (a < 0 ∨ 1000 < a ∨ b < 0 ∨ 1000 < b ∨ c < 0 ∨ 1000 < c ∨ d < 0 ∨ 1000 < d ∨ b = 0) := by omega
  have HB := Lib.hid hbad
  clear hbad
  have q0 : (a < 0) = False := by simp; omega
  have q1 : (b < 1) = False := by simp; omega
  have q2 : (c < 0) = False := by simp; omega
  have q3 : (d < 0) = False := by simp; omega
  have q4 : (1000 < a) = False := by simp; omega
  have q5 : (1000 < b) = False := by simp; omega
  have q6 : (1000 < c) = False := by simp; omega
  have q7 : (1000 < d) = False := by simp; omega
  by_cases h1 : a < d ∨ b ≤ c - a
  · have hr := Nu.size_one HB.out h1
    have HR := Lib.hid hr
    clear hr
    by_cases h2 : a < d
    · have q8 : (a < d) = True := by simp [h2]
      clear h1 h2
      go_enter Tryz.func19, Tryz.ntmps19
      go_wp2_with fail
      go_ret2
      rw [HR.out]
      exact ⟨rfl, rfl⟩
    · have q8 : (a < d) = False := by simp; omega
      have q9 : (b ≤ c - a) = True := by simp; omega
      clear h1 h2
      go_enter Tryz.func19, Tryz.ntmps19
      go_wp2_with fail
      go_ret2
      rw [HR.out]
      exact ⟨rfl, rfl⟩
  · have q8 : (a < d) = False := by simp; omega
    have q9 : (b ≤ c - a) = False := by simp; omega
    by_cases h3 : c ≤ a
    · have hr := Nu.size_left HB.out h1 h3
      have HR := Lib.hid hr
      have q10 : (c ≤ a) = True := by simp [h3]
      clear h1 h3 hr
      go_enter Tryz.func19, Tryz.ntmps19
      go_wp2_with fail
      go_ret2
      rw [HR.out]
      exact ⟨rfl, rfl⟩
    · have hr := Nu.size_div HB.out h1 h3
      have q10 : (c ≤ a) = False := by simp; omega
      have hp : 0 < c - a := by omega
      have hn : (c - a == 0) = false := by simp; omega
      have hdv : (b + c - a - 1).tdiv (c - a) = (b + c - a - 1) / (c - a) := Int.tdiv_eq_ediv_of_nonneg (by omega)
      have h0 : 0 ≤ (b + c - a - 1) / (c - a) := Int.ediv_nonneg (by omega) (by omega)
      have h9 : (b + c - a - 1) / (c - a) ≤ b + c - a - 1 := Int.ediv_le_self _ (by omega)
      have HR := Lib.hid hr
      clear h1 h3 hr
      go_enter Tryz.func19, Tryz.ntmps19
      go_wp2_with fail
      go_ret2
      rw [HR.out]
      exact ⟨rfl, rfl⟩

set_option maxHeartbeats 1000000 in
set_option maxRecDepth 100000 in
theorem refRoom_calls (a b : Int) (w : World) (ha : 0 ≤ a) (ha1 : a ≤ 1000) (hb : 1 ≤ b) (hb1 : b ≤ 1000) :
    Calls Tryz.prog 20 #[.int .i64 a, .int .i64 b] w fun e w' => e = .returned (.int .i64 (Nu.room a b)) ∧ Below w.heap.size w w' := by
  have hr : Nu.room a b = (b - (a + 4) % b) % b := by unfold Nu.room; rw [if_neg (by omega)]
  have x0 := Int.emod_nonneg a (show b ≠ 0 by omega)
  have x1 := Int.emod_lt_of_pos a (show 0 < b by omega)
  have y0 := Int.emod_nonneg 4 (show b ≠ 0 by omega)
  have y1 := Int.emod_lt_of_pos 4 (show 0 < b by omega)
  have e1 : a.tmod b = a % b := Int.tmod_eq_emod_of_nonneg ha
  have e2 : (4 : Int).tmod b = 4 % b := Int.tmod_eq_emod_of_nonneg (by decide)
  have hx : (a + 4) % b = (a % b + 4 % b) % b := Int.add_emod a 4 b
  have q0 : (a < 0) = False := by simp; omega
  have q1 : (b < 1) = False := by simp; omega
  have q2 : (b == 0) = false := by simp; omega
  rw [hx] at hr
  generalize a % b = x at *
  generalize (4 : Int) % b = y at *
  by_cases h : b - y ≤ x
  · have hz : (x + y) % b = x - (b - y) := by
      rw [← Int.sub_emod_right, Int.emod_eq_of_lt (by omega) (by omega)]
      omega
    have q3 : (b - y ≤ x) = True := by simp [h]
    rw [hz] at hr
    have HR := Lib.hid hr
    clear hr hz hx h
    go_enter Tryz.func20, Tryz.ntmps20
    go_wp2_with fail
    refine region_cls (fun w' => Below w.heap.size w w') (by kernel_rfl) (by kernel_rfl) (Below.refl _ _).drew (fun hne => ?_)
    repeat (go_big_quiet_step (fail))
    refine wpQuiet_nil ?_
    intro w2 hb2
    go_wp2_with fail
    go_ret
    rw [HR.out]
    exact ⟨rfl, hb2⟩
  · have hz : (x + y) % b = x + y := Int.emod_eq_of_lt (by omega) (by omega)
    have q3 : (b - y ≤ x) = False := by simp; omega
    have hxy : x + y < b := by omega
    rw [hz] at hr
    have HR := Lib.hid hr
    clear hr hz hx h
    go_enter Tryz.func20, Tryz.ntmps20
    go_wp2_with fail
    refine region_cls (fun w' => Below w.heap.size w w') (by kernel_rfl) (by kernel_rfl) (Below.refl _ _).drew (fun hne => ?_)
    repeat (go_big_quiet_step (fail))
    refine wpQuiet_nil ?_
    intro w2 hb2
    go_wp2_with fail
    go_ret
    rw [HR.out]
    exact ⟨rfl, hb2⟩

/-! ### S3: The walk of the law's 'one': one line's text without its LF. Condition: the variables read as the program lays them; the line tells something, and ends with LF. -/
set_option maxHeartbeats 2000000 in
set_option maxRecDepth 100000 in
theorem one_calls (s : ByteArray) (t : List UInt8) (h : runE s = (t ++ [10], 0)) (ht : t.length ≤ 1000000) (w : World) (hV : Vars w) :
    Calls Tryz.prog 14 #[.string s] w fun e w' => e = .returned (.string (txt t)) ∧ Below w.heap.size w w' := by
  have hR := run_calls s w hV
  rw [h] at hR
  have hsz : (txt (t ++ [10])).size = t.length + 1 := by rw [txt_size]; simp
  have hne : (txt (t ++ [10])).toList.isEmpty = false := by
    rw [Lib.toList_data, txt_data]
    cases t <;> rfl
  have hlast : (txt (t ++ [10])).data.toList[t.length]? = some 10 := by rw [txt_data]; simp
  have hlt : t.length < (txt (t ++ [10])).size := by omega
  have h10 : (txt (t ++ [10]))[t.length] = 10 := by
    rw [List.getElem?_eq_getElem (by rw [← Lib.size_eq]; exact hlt)] at hlast
    exact Option.some.inj hlast
  clear hlast
  have hex : (txt (t ++ [10])).extract 0 t.length = txt t := by
    rw [← txt_of ((txt (t ++ [10])).extract 0 t.length), Lib.extract_data, txt_data]
    simp
  generalize txt (t ++ [10]) = X at *
  have HR := Lib.hid hR
  have HX := Lib.hid hex
  clear h hR hV hex
  go_enter Tryz.func14, Tryz.ntmps14
  go_wp2_with fail
  refine HR.out.mono ?_
  rintro e w1 ⟨rfl, hb1⟩
  go_wp2_with fail
  refine (num0_calls _ _).mono ?_
  rintro e w2 ⟨rfl, rfl⟩
  go_wp2_with fail
  go_ret
  rw [HX.out]
  exact ⟨rfl, hb1⟩

/-! ### S4: A line of words, plain: its fields are its words. Condition: every byte is ASCII; no word is empty or holds a gap. -/
namespace Ln

/-- The words of a text, from a word that has begun on. -/
def words (cur : List UInt8) : List UInt8 → List (List UInt8)
  | [] => if cur = [] then [] else [cur]
  | c :: r => if isGap c.toNat = true then (if cur = [] then words [] r else cur :: words [] r) else words (cur ++ [c]) r
/-- The open word. -/
def began (s : ByteArray) (pos : Nat) : Option Nat → List UInt8
  | none => []
  | some a => (s.extract a pos).data.toList
theorem began_next {s : ByteArray} {pos a : Nat} (h : pos < s.size) (ha : a ≤ pos) : (s.extract a (pos + 1)).data.toList = (s.extract a pos).data.toList ++ [s[pos]] := by
  rw [Lib.extract_data, Lib.extract_data]
  have hl : pos < s.data.toList.length := by rw [← Lib.size_eq]; exact h
  have e : s[pos] = s.data.toList[pos] := rfl
  rw [e, show pos + 1 - a = (pos - a) + 1 from by omega, List.take_succ_eq_append_getElem (by rw [List.length_drop]; omega), List.getElem_drop]
  simp only [show a + (pos - a) = pos from by omega]
theorem words_spans (s : ByteArray) (hA : ∀ c ∈ s.data.toList, c.toNat < 128) : ∀ (f pos : Nat) (st : Option Nat) (acc : List (Nat × Nat)), pos ≤ s.size → s.size - pos ≤ f → (∀ a, st = some a → a < pos) →
    (Lib.closeSpans s (Lib.spansFromP isGap s f pos st acc)).map (fun x => (s.extract x.1 x.2).data.toList) = acc.map (fun x => (s.extract x.1 x.2).data.toList) ++ words (began s pos st) (s.data.toList.drop pos) := by
  intro f
  induction f with
  | zero =>
    intro pos st acc h1 h2 h3
    have hp : pos = s.size := by omega
    subst hp
    rw [List.drop_eq_nil_of_le (by rw [← Lib.size_eq]; exact Nat.le_refl _)]
    cases st with
    | none => simp [Lib.spansFromP, Lib.closeSpans, words, began]
    | some a =>
      have := h3 a rfl
      simp [Lib.spansFromP, Lib.closeSpans, words, began]
      omega
  | succ f ih =>
    intro pos st acc h1 h2 h3
    by_cases hp : pos < s.size
    · have hl : pos < s.data.toList.length := by rw [← Lib.size_eq]; exact hp
      have hc : s[pos].toNat < 128 := hA _ (List.getElem_mem hl)
      unfold Lib.spansFromP
      rw [if_pos hp, decode_ascii s pos hp hc, List.drop_eq_getElem_cons hl]
      show _ = _ ++ words _ (s[pos] :: _)
      rw [words]
      by_cases hg : isGap s[pos].toNat = true
      · rw [if_pos hg, if_pos hg]
        cases st with
        | none =>
          rw [ih _ _ _ (by omega) (by omega) (fun a h => by cases h)]
          simp [began]
        | some a =>
          have := h3 a rfl
          show (Lib.closeSpans s (Lib.spansFromP isGap s f (pos + 1) none (acc ++ [(a, pos)]))).map _ = _
          rw [ih _ _ _ (by omega) (by omega) (fun a h => by cases h)]
          simp [began]
          omega
      · rw [if_neg hg, if_neg hg]
        cases st with
        | none =>
          show (Lib.closeSpans s (Lib.spansFromP isGap s f (pos + 1) (some pos) acc)).map _ = _
          rw [ih _ _ _ (by omega) (by omega) (fun a h => by cases h; omega)]
          simp only [began]
          rw [began_next hp (Nat.le_refl _)]
          simp
        | some a =>
          have := h3 a rfl
          show (Lib.closeSpans s (Lib.spansFromP isGap s f (pos + 1) (some a) acc)).map _ = _
          rw [ih _ _ _ (by omega) (by omega) (fun b h => by cases h; omega)]
          simp only [began]
          rw [began_next hp (by omega)]
    · have he : pos = s.size := by omega
      have := ih pos st acc h1 (by omega) h3
      rw [Lib.spansFromP_end _ _ _ _ _ _ hp] at this ⊢
      exact this
theorem fields_words (l : List UInt8) (hA : ∀ c ∈ l, c.toNat < 128) : (Lib.goFieldsP isGap (txt l)).map (fun x => x.data.toList) = words [] l := by
  have h := words_spans (txt l) (by rw [txt_data]; exact hA) (txt l).size 0 none [] (Nat.zero_le _) (Nat.le_refl _) (fun a h => by cases h)
  rw [txt_data] at h
  rw [List.drop_zero] at h
  unfold Lib.goFieldsP Lib.spansOfP
  rw [List.map_map]
  exact h

/-- Words with one gap between two. -/
def joinW : List (List UInt8) → List UInt8
  | [] => []
  | [w] => w
  | w :: v :: r => w ++ 32 :: joinW (v :: r)
/-- A word: not empty, no gap in it, ASCII. -/
def Word (w : List UInt8) : Prop := w ≠ [] ∧ ∀ c ∈ w, isGap c.toNat = false ∧ c.toNat < 128
theorem words_word (r : List UInt8) : ∀ (w cur : List UInt8), (∀ c ∈ w, isGap c.toNat = false) → words cur (w ++ r) = words (cur ++ w) r
  | [], cur, _ => by simp
  | c :: t, cur, h => by
    rw [List.cons_append, words, if_neg (by rw [h c (by simp)]; simp), words_word r t _ fun d hd => h d (by simp [hd])]
    simp
theorem words_join : ∀ ws : List (List UInt8), (∀ w ∈ ws, Word w) → words [] (joinW ws) = ws
  | [], _ => rfl
  | [w], h => by
    have hw := h w (by simp)
    have := words_word [] w [] fun c hc => (hw.2 c hc).1
    simp only [List.append_nil, List.nil_append] at this
    rw [joinW, this, words, if_neg hw.1]
  | w :: v :: r, h => by
    have hw := h w (by simp)
    rw [joinW, words_word _ w [] fun c hc => (hw.2 c hc).1, List.nil_append, words, if_pos (by decide), if_neg hw.1, words_join (v :: r) fun x hx => h x (by simp [hx])]
theorem join_ascii : ∀ ws : List (List UInt8), (∀ w ∈ ws, Word w) → ∀ c ∈ joinW ws, c.toNat < 128
  | [], _ => by simp [joinW]
  | [w], h => fun c hc => ((h w (by simp)).2 c hc).2
  | w :: v :: r, h => fun c hc => by
    rw [joinW] at hc
    rcases List.mem_append.1 hc with h1 | h1
    · exact ((h w (by simp)).2 c h1).2
    · rcases List.mem_cons.1 h1 with rfl | h2
      · decide
      · exact join_ascii (v :: r) (fun x hx => h x (by simp [hx])) c h2
theorem join_noLF : ∀ ws : List (List UInt8), (∀ w ∈ ws, Word w ∧ 10 ∉ w) → 10 ∉ joinW ws
  | [], _ => by simp [joinW]
  | [w], h => (h w (by simp)).2
  | w :: v :: r, h => fun hc => by
    rw [joinW] at hc
    rcases List.mem_append.1 hc with h1 | h1
    · exact (h w (by simp)).2 h1
    · rcases List.mem_cons.1 h1 with h2 | h2
      · exact absurd h2 (by decide)
      · exact join_noLF (v :: r) (fun x hx => h x (by simp [hx])) h2
end Ln
/-- What a line of words tells. -/
theorem run_words (w : List UInt8) (ws : List (List UInt8)) (h : ∀ x ∈ w :: ws, Ln.Word x ∧ 10 ∉ x) (h35 : w.head? ≠ some 35) (hl : (Ln.joinW (w :: ws)).length ≤ 16384) :
    runE (txt (Ln.joinW (w :: ws))) = (Nu.tells tellT (w :: ws) ++ [10], 0) := by
  have hW : ∀ x ∈ w :: ws, Ln.Word x := fun x hx => (h x hx).1
  have hf := (Ln.fields_words _ (Ln.join_ascii _ hW)).trans (Ln.words_join _ hW)
  rw [runE_short _ (by rw [txt_size]; omega), txt_data, runL_one _ (Ln.join_noLF _ h)]
  unfold Nu.lineOut
  rw [hf]
  have hh : ((Lib.goFieldsP isGap (txt (Ln.joinW (w :: ws)))).head?.bind fun x => x.data.toList.head?) = w.head? := by
    generalize Lib.goFieldsP isGap (txt (Ln.joinW (w :: ws))) = F at hf
    cases F with
    | nil => simp at hf
    | cons a t =>
      simp only [List.map_cons, List.cons.injEq] at hf
      simp [← hf.1]
  rw [hh, if_neg]
  obtain ⟨c, r, rfl⟩ : ∃ c r, w = c :: r := by
    cases w with
    | nil => exact absurd rfl (hW [] (by simp)).1
    | cons c r => exact ⟨c, r, rfl⟩
  simpa using h35

/-! ### S5: Decimal digits, plain: read again they are the number. Condition: none. -/
theorem val_snoc (c : UInt8) : ∀ (l : List UInt8) (a : Nat), Nu.val a (l ++ [c]) = Nu.val a l * 10 + (c.toNat - 48)
  | [], a => rfl
  | d :: r, a => by
    show Nu.val (a * 10 + (d.toNat - 48)) (r ++ [c]) = Nu.val (a * 10 + (d.toNat - 48)) r * 10 + (c.toNat - 48)
    exact val_snoc c r _
theorem digb_toNat (m : Nat) : (digb m).toNat = 48 + m % 10 := by
  rw [digb, UInt8.toNat_ofNat']
  omega
theorem digits_facts : ∀ (k n : Nat), n < 10 ^ (k + 1) → Nu.val 0 (Lib.decDigits n) = n ∧ (Lib.decDigits n).length ≤ k + 1 ∧ Lib.decDigits n ≠ [] ∧ ∀ c ∈ Lib.decDigits n, 48 ≤ c.toNat ∧ c.toNat ≤ 57
  | k, n, h => by
    by_cases hn : n < 10
    · rw [dec_small hn]
      refine ⟨?_, by simp, by simp, ?_⟩
      · show 0 * 10 + ((digb n).toNat - 48) = n
        rw [digb_toNat]; omega
      · intro c hc
        rw [List.mem_singleton] at hc
        subst hc
        rw [digb_toNat]; omega
    · cases k with
      | zero => rw [Nat.zero_add, Nat.pow_one] at h; omega
      | succ k =>
        have h10 : n / 10 < 10 ^ (k + 1) := by rw [Nat.pow_succ] at h; omega
        obtain ⟨h1, h2, h3, h4⟩ := digits_facts k (n / 10) h10
        rw [dec_big hn]
        refine ⟨?_, by simp; omega, by simp, ?_⟩
        · rw [val_snoc, h1, digb_toNat]; omega
        · intro c hc
          rcases List.mem_append.1 hc with h' | h'
          · exact h4 c h'
          · rw [List.mem_singleton] at h'
            subst h'
            rw [digb_toNat]; omega
theorem itoa_facts (n : Nat) (h : n ≤ 1000000) : Nu.number (Lib.itoa (n : Int)) = some n ∧ (Lib.itoa (n : Int)).length ≤ 7 ∧ Ln.Word (Lib.itoa (n : Int)) ∧ 10 ∉ Lib.itoa (n : Int) := by
  obtain ⟨h1, h2, h3, h4⟩ := digits_facts 6 n (by omega)
  rw [Lib.itoa_nonneg]
  refine ⟨?_, h2, ⟨h3, fun c hc => ⟨?_, ?_⟩⟩, fun hc => ?_⟩
  · unfold Nu.number
    rw [if_pos, h1]
    refine ⟨List.length_pos_iff.2 h3, by omega, List.all_eq_true.2 fun c hc => ?_⟩
    have := h4 c hc
    simp [isDig]
    omega
  · have := h4 c hc
    simp [isGap]
    omega
  · have := h4 c hc
    omega
  · have := h4 10 hc
    exact absurd this.1 (by decide)

/-! ### S6: Lines of sizes and rooms, plain, and the walk of ConsoleSteps. Condition: the variables read as the program lays them. -/
theorem readOne_num {n : Nat} (h : n ≤ 1000000) (st : St) : Nu.readOne 34 (Lib.itoa (n : Int)) st = .ok { st with ns := st.ns ++ [n] } := by
  unfold Nu.readOne
  rw [if_pos rfl, (itoa_facts n h).1]
theorem cmd_size : cmdOf (txt [115, 105, 122, 101]) cmds = some ⟨⟨#[115, 105, 122, 101]⟩, [34, 34, 34, 34], 43⟩ := by kernel_rfl
theorem cmd_room : cmdOf (txt [114, 111, 111, 109]) cmds = some ⟨⟨#[114, 111, 111, 109]⟩, [34, 34], 44⟩ := by kernel_rfl
def sizeW (p q r s : Nat) : List (List UInt8) := [[115, 105, 122, 101], Lib.itoa (p : Int), Lib.itoa (q : Int), Lib.itoa (r : Int), Lib.itoa (s : Int)]
def roomW (p q : Nat) : List (List UInt8) := [[114, 111, 111, 109], Lib.itoa (p : Int), Lib.itoa (q : Int)]
theorem word_of {l : List UInt8} (h : (l != [] && l.all fun c => !isGap c.toNat && decide (c.toNat < 128) && c != 10) = true) : Ln.Word l ∧ 10 ∉ l := by
  simp only [Bool.and_eq_true, bne_iff_ne, ne_eq, List.all_eq_true, Bool.not_eq_true', decide_eq_true_eq] at h
  exact ⟨⟨h.1, fun c hc => (h.2 c hc).1⟩, fun hc => (h.2 10 hc).2 rfl⟩
theorem tells_line {key : List UInt8} {args : List (List UInt8)} {c : Cmd} {st : St} (hc : cmdOf (txt key) cmds = some c) (hl : args.length = c.reads.length) (hr : Nu.readAll c.reads args ⟨[], [], []⟩ = .ok st) :
    Nu.tells tellT (key :: args) = tellT c.tell st := by
  simp only [Nu.tells, hc, hl, hr, ne_eq, not_true_eq_false, if_false]
theorem size_run (p q r s : Nat) (hp : p ≤ 1000000) (hq : q ≤ 1000000) (hr : r ≤ 1000000) (hs : s ≤ 1000000) (h0 : (Nu.size p q r s).2 = 0) :
    runE (txt (Ln.joinW (sizeW p q r s))) = (Lib.itoa (Nu.size p q r s).1 ++ [10], 0) := by
  obtain ⟨p1, p2, p3, p4⟩ := itoa_facts p hp
  obtain ⟨q1, q2, q3, q4⟩ := itoa_facts q hq
  obtain ⟨r1, r2, r3, r4⟩ := itoa_facts r hr
  obtain ⟨s1, s2, s3, s4⟩ := itoa_facts s hs
  unfold sizeW
  rw [run_words]
  · congr 1
    congr 1
    rw [tells_line (st := ⟨[p, q, r, s], [], []⟩) cmd_size rfl (by simp only [Nu.readAll, readOne_num hp, readOne_num hq, readOne_num hr, readOne_num hs, List.nil_append, List.cons_append])]
    show Nu.told (Lib.itoa (Nu.size p q r s).1) (Nu.size p q r s).2 = _
    rw [h0]; rfl
  · intro x hx
    simp only [List.mem_cons, List.mem_nil_iff, or_false] at hx
    rcases hx with rfl | rfl | rfl | rfl | rfl
    · exact word_of (by decide)
    · exact ⟨p3, p4⟩
    · exact ⟨q3, q4⟩
    · exact ⟨r3, r4⟩
    · exact ⟨s3, s4⟩
  · simp
  · simp [Ln.joinW]; omega
theorem room_run (p q : Nat) (hp : p ≤ 1000000) (hq : q ≤ 1000000) :
    runE (txt (Ln.joinW (roomW p q))) = (Lib.itoa (Nu.room p q) ++ [10], 0) := by
  obtain ⟨p1, p2, p3, p4⟩ := itoa_facts p hp
  obtain ⟨q1, q2, q3, q4⟩ := itoa_facts q hq
  unfold roomW
  rw [run_words]
  · congr 1
    congr 1
    rw [tells_line (st := ⟨[p, q], [], []⟩) cmd_room rfl (by simp only [Nu.readAll, readOne_num hp, readOne_num hq, List.nil_append, List.cons_append])]
    rfl
  · intro x hx
    simp only [List.mem_cons, List.mem_nil_iff, or_false] at hx
    rcases hx with rfl | rfl | rfl
    · exact word_of (by decide)
    · exact ⟨p3, p4⟩
    · exact ⟨q3, q4⟩
  · simp
  · simp [Ln.joinW]; omega
theorem size_line (p q r s : Nat) : (⟨#[115, 105, 122, 101, 32]⟩ : ByteArray) ++ txt (Lib.itoa (p : Int)) ++ ⟨#[32]⟩ ++ txt (Lib.itoa (q : Int)) ++ ⟨#[32]⟩ ++ txt (Lib.itoa (r : Int)) ++ ⟨#[32]⟩ ++ txt (Lib.itoa (s : Int)) = txt (Ln.joinW (sizeW p q r s)) := by
  rw [show (⟨#[115, 105, 122, 101, 32]⟩ : ByteArray) = txt [115, 105, 122, 101, 32] from rfl, show (⟨#[32]⟩ : ByteArray) = txt [32] from rfl]
  simp only [txt_append, sizeW, Ln.joinW, List.append_assoc, List.cons_append, List.nil_append]
theorem room_line (p q : Nat) : (⟨#[114, 111, 111, 109, 32]⟩ : ByteArray) ++ txt (Lib.itoa (p : Int)) ++ ⟨#[32]⟩ ++ txt (Lib.itoa (q : Int)) = txt (Ln.joinW (roomW p q)) := by
  rw [show (⟨#[114, 111, 111, 109, 32]⟩ : ByteArray) = txt [114, 111, 111, 109, 32] from rfl, show (⟨#[32]⟩ : ByteArray) = txt [32] from rfl]
  simp only [txt_append, roomW, Ln.joinW, List.append_assoc, List.cons_append, List.nil_append]

/-! ### S7: The walk of ConsoleSteps. Condition: the variables read as the program lays them. -/
theorem and_mask (x : Int) (m : Nat) (hm : m < 2147483648) : ∃ n : Nat, n ≤ m ∧ bits .and .i64 x (m : Int) = (n : Int) := by
  refine ⟨(BitVec.ofInt 64 x).toNat &&& m, Nat.and_le_right, ?_⟩
  have hm' : m % 2 ^ 64 = m := Nat.mod_eq_of_lt (by omega)
  have hl : (BitVec.ofInt 64 x).toNat &&& m ≤ m := Nat.and_le_right
  show IntKind.i64.wrap ((((BitVec.ofInt 64 x) &&& (BitVec.ofInt 64 (m : Int))).toNat : Nat) : Int) = _
  rw [BitVec.toNat_and, BitVec.ofInt_natCast, BitVec.toNat_ofNat, hm']
  exact IntWalk.i64_in _ (by omega)

set_option maxHeartbeats 2000000 in
set_option maxRecDepth 100000 in
theorem steps_calls (a b c d : Int) (w : World) (hV : Vars w) :
    Calls Tryz.prog 5 #[.int .i64 a, .int .i64 b, .int .i64 c, .int .i64 d] w fun e w' => e = .returned (.bool true) ∧ Below w.heap.size w w' := by
  have hA := awake_calls w hV
  obtain ⟨p, hp, ep⟩ := and_mask a 31 (by decide)
  obtain ⟨q0, hq, eq⟩ := and_mask b 63 (by decide)
  obtain ⟨r, hr, er⟩ := and_mask c 31 (by decide)
  obtain ⟨s, hs, es⟩ := and_mask d 31 (by decide)
  obtain ⟨q, hqq⟩ : ∃ q : Nat, q = 1 + q0 := ⟨_, rfl⟩
  have eq1 : wrap64 (1 + (q0 : Int)) = (q : Int) := by unfold wrap64; omega
  have hq1 : 1 ≤ q := by omega
  have hq2 : q ≤ 64 := by omega
  have hS : (Nu.size p q r s).2 = 0 := by
    unfold Nu.size
    rw [if_neg (by omega)]
    split
    · rfl
    · split <;> rfl
  have hz0 := Nu.size_range p q r s
  have hz2 : (Nu.size p q r s).1 ≤ 1000000 := hz0.2.1
  have hz3 := hz0.1
  have hm0 : 0 ≤ Nu.room p q ∧ Nu.room p q ≤ 1000 := by
    unfold Nu.room
    rw [if_neg (by omega)]
    have g1 := Int.emod_nonneg ((q : Int) - ((p : Int) + 4) % (q : Int)) (show (q : Int) ≠ 0 by omega)
    have g2 := Int.emod_lt_of_pos ((q : Int) - ((p : Int) + 4) % (q : Int)) (show 0 < (q : Int) by omega)
    omega
  clear hz0
  have h19 := fun W => refSize_calls (p : Int) (q : Int) (r : Int) (s : Int) W (by omega) (by omega) (by omega) (by omega) (by omega) (by omega) (by omega) (by omega)
  have h20 := fun W => refRoom_calls (p : Int) (q : Int) W (by omega) (by omega) (by omega) (by omega)
  have h1 := fun W hV => one_calls (txt (Ln.joinW (sizeW p q r s))) (Lib.itoa (Nu.size p q r s).1) (size_run p q r s (by omega) (by omega) (by omega) (by omega) hS) (by have := itoa_len (Nu.size p q r s).1 (by omega) (by omega); omega) W hV
  have h2 := fun W hV => one_calls (txt (Ln.joinW (roomW p q))) (Lib.itoa (Nu.room p q)) (room_run p q (by omega) (by omega)) (by have := itoa_len (Nu.room p q) (by omega) (by omega); omega) W hV
  obtain ⟨k, hk⟩ : ∃ k : Nat, (Nu.size p q r s).1 = (k : Int) := ⟨(Nu.size p q r s).1.toNat, by omega⟩
  obtain ⟨m, hm⟩ : ∃ m : Nat, Nu.room p q = (m : Int) := ⟨(Nu.room p q).toNat, by omega⟩
  rw [hk] at h1 h19 hz2
  rw [hm] at h2 h20 hm0
  rw [← size_line] at h1
  rw [← room_line] at h2
  have hdp := fun W => decimal_calls p (by omega) W
  have hdq := fun W => decimal_calls q (by omega) W
  have hdr := fun W => decimal_calls r (by omega) W
  have hds := fun W => decimal_calls s (by omega) W
  have hdk := fun W => decimal_calls k (by omega) W
  have hdm := fun W => decimal_calls m (by omega) W
  have zp : (txt (Lib.itoa (p : Int))).size ≤ 7 := by rw [txt_size]; exact (itoa_facts p (by omega)).2.1
  have zq : (txt (Lib.itoa (q : Int))).size ≤ 7 := by rw [txt_size]; exact (itoa_facts q (by omega)).2.1
  have zr : (txt (Lib.itoa (r : Int))).size ≤ 7 := by rw [txt_size]; exact (itoa_facts r (by omega)).2.1
  have zs : (txt (Lib.itoa (s : Int))).size ≤ 7 := by rw [txt_size]; exact (itoa_facts s (by omega)).2.1
  have h8 := hV.size
  clear hz2 hz3 hm0 hk hm hS
  generalize txt (Lib.itoa (p : Int)) = P at *
  generalize txt (Lib.itoa (q : Int)) = Q at *
  generalize txt (Lib.itoa (r : Int)) = R at *
  generalize txt (Lib.itoa (s : Int)) = S at *
  generalize txt (Lib.itoa (k : Int)) = K at *
  generalize txt (Lib.itoa (m : Int)) = M at *
  have ep : bits .and .i64 a 31 = (p : Int) := ep
  have eq : bits .and .i64 b 63 = (q0 : Int) := eq
  have er : bits .and .i64 c 31 = (r : Int) := er
  have es : bits .and .i64 d 31 = (s : Int) := es
  have HV := Lib.hid hV
  have HA := Lib.hid hA
  have H19 := Lib.hid h19
  have H20 := Lib.hid h20
  have H1 := Lib.hid h1
  have H2 := Lib.hid h2
  have HP := Lib.hid hdp
  have HQ := Lib.hid hdq
  have HR := Lib.hid hdr
  have HS := Lib.hid hds
  have HK := Lib.hid hdk
  have HM := Lib.hid hdm
  clear hA hV h19 h20 h1 h2 hdp hdq hdr hds hdk hdm
  clear hp hq hr hs hqq hq1 hq2
  go_enter Tryz.func5, Tryz.ntmps5
  go_wp2_with fail
  refine HA.out.mono ?_
  rintro e w1 ⟨rfl, hb1⟩
  go_wp2_with fail
  refine (H19.out _).mono ?_
  rintro e wx ⟨rfl, rfl⟩
  go_wp2_with fail
  refine (HP.out _).mono ?_
  rintro e w2 ⟨rfl, hb⟩
  have hb2 := hb1.trans (hb.mono hb1.size)
  clear hb hb1
  go_wp2_with fail
  refine (HQ.out _).mono ?_
  rintro e w3 ⟨rfl, hb⟩
  have hb3 := hb2.trans (hb.mono hb2.size)
  clear hb hb2
  go_wp2_with fail
  refine (HR.out _).mono ?_
  rintro e w4 ⟨rfl, hb⟩
  have hb4 := hb3.trans (hb.mono hb3.size)
  clear hb hb3
  go_wp2_with fail
  refine (HS.out _).mono ?_
  rintro e w5 ⟨rfl, hb⟩
  have hb5 := hb4.trans (hb.mono hb4.size)
  clear hb hb4
  go_wp2_with fail
  refine (H1.out _ (HV.out.below hb5 h8)).mono ?_
  rintro e w6 ⟨rfl, hb⟩
  have hb6 := hb5.trans (hb.mono hb5.size)
  clear hb hb5
  go_wp2_with fail
  refine (HK.out _).mono ?_
  rintro e w7 ⟨rfl, hb⟩
  have hb7 := hb6.trans (hb.mono hb6.size)
  clear hb hb6
  go_wp2_with fail
  refine (HP.out _).mono ?_
  rintro e w8 ⟨rfl, hb⟩
  have hb8 := hb7.trans (hb.mono hb7.size)
  clear hb hb7
  go_wp2_with fail
  refine (HQ.out _).mono ?_
  rintro e w9 ⟨rfl, hb⟩
  have hb9 := hb8.trans (hb.mono hb8.size)
  clear hb hb8
  go_wp2_with fail
  refine (H2.out _ (HV.out.below hb9 h8)).mono ?_
  rintro e w10 ⟨rfl, hb⟩
  have hb10 := hb9.trans (hb.mono hb9.size)
  clear hb hb9
  go_wp2_with fail
  refine (H20.out _).mono ?_
  rintro e w11 ⟨rfl, hb⟩
  have hb11 := hb10.trans (hb.mono hb10.size)
  clear hb hb10
  go_wp2_with fail
  refine (HM.out _).mono ?_
  rintro e w12 ⟨rfl, hb⟩
  have hb12 := hb11.trans (hb.mono hb11.size)
  clear hb hb11
  go_wp2_with fail
  go_ret
  exact ⟨rfl, hb12⟩
end Go.Proofs.YtolbfeggceemfaaGreatDoor
