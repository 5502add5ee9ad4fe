/-
  The walks of wire's lists: questions, records. Condition: the text is of at most 100000 bytes, the place within it, the count at most 65535.
-/
import Derived.Test.YtolbfeggceemfaaGreatDoorG10
namespace Go.Proofs.YtolbfeggceemfaaGreatDoor
open Go.RowKit
namespace Rd
/-- So many parts. -/
def run (step : R → R) : Nat → R → R
  | 0, r => r
  | m + 1, r => if r.bad = true then r else run step m (step r)
def list (step : R → R) (m : Nat) (r : R) : R := run step m ⟨r.i, r.bad || decide (64 < m)⟩
theorem run_le (step : R → R) (L : Nat) (h : ∀ r, r.i ≤ L → (step r).i ≤ L) : ∀ m r, r.i ≤ L → (run step m r).i ≤ L
  | 0, _, hr => hr
  | m + 1, r, hr => by
    rw [run]
    split
    · exact hr
    · exact run_le step L h m _ (h r hr)
theorem list_le (step : R → R) (L : Nat) (h : ∀ r, r.i ≤ L → (step r).i ≤ L) (m : Nat) (r : R) (hr : r.i ≤ L) : (list step m r).i ≤ L := run_le step L h m _ hr
theorem run_bad (step : R → R) (m : Nat) (r : R) (h : r.bad = true) : run step m r = r := by
  cases m with
  | zero => rfl
  | succ m => rw [run, if_pos h]
end Rd

theorem Tryz.info114 : (Tryz.prog.info? 114).map (fun i => (i.zero, i.size, i.bytes)) = some (some (.agg #[.string ByteArray.empty, .int .i64 0, .int .i64 0]), 3, 32) := by kernel_rfl
theorem Tryz.info128b : (Tryz.prog.info? 128).map (fun i => (i.zero, i.size, i.bytes)) = some (some (.agg #[.string ByteArray.empty, .int .i64 0, .int .i64 0, .int .i64 0, .string ByteArray.empty]), 5, 56) := by kernel_rfl

/-- What a list of parts hands back. -/
def ListP (m : Nat) (o : Rd.R) (b : Nat) (s : ByteArray) (w : World) (e : Ending) (w' : World) : Prop :=
  (∃ a l c, e = .returned (.slice a l c) ∧ (o.bad = false → l = m)) ∧ RdAt w' b s o ∧ Bar b w w'

theorem own_bar {w w' : World} {B b n m : Nat} {e : TypeId} {v : Value} {xs : List Value} (h : w.ownsRow B e m v n xs) (hb : Bar b w w') (hB : b < B) : w'.ownsRow B e m v n xs := by
  refine ⟨h.1, ?_⟩
  rcases h.2 with hn | ⟨g, cap, cur, rfl, hg, hgg, rest⟩
  · exact .inl hn
  · have hlt := (Array.getElem?_eq_some_iff.1 hgg).1
    exact .inr ⟨g, cap, cur, rfl, hg, by rw [hb.2 g hlt (by omega)]; exact hgg, rest⟩
theorem Bar.grown {b : Nat} {w w1 w2 : World} {row : Option Nat} (h : Bar b w w1) (hg : w1.grownBy w2 row) (hr : ∀ k, row = some k → w.heap.size ≤ k) (hb : b < w.heap.size) : Bar b w w2 := by
  have hs := h.size
  refine ⟨h.1.grown hg (by omega) (fun k e => by have := hr k e; omega), fun g hg' hn => ?_⟩
  rw [hg.block g (by omega) (fun e => by have := hr g e.symm; omega)]
  exact h.2 g hg' hn
theorem three_new (w : World) (x y z : Value) (t : TypeId) : ∀ (j : Nat) (u : Value), [x, y, z][j]? = some u → (w.alloc (.cells #[x, y, z] t)).cell? ((⟨w.heap.size, 0, none⟩ : Addr).add j) = some u := by
  intro j u hj
  rw [Addr.add_lit, Nat.zero_add]
  exact (Lib.cell_of_heap (heap_alloc_new w (.cells #[x, y, z] t)) j).trans (by simpa using hj)
theorem five_new (w : World) (x y z p q : Value) (t : TypeId) : ∀ (j : Nat) (u : Value), [x, y, z, p, q][j]? = some u → (w.alloc (.cells #[x, y, z, p, q] t)).cell? ((⟨w.heap.size, 0, none⟩ : Addr).add j) = some u := by
  intro j u hj
  rw [Addr.add_lit, Nat.zero_add]
  exact (Lib.cell_of_heap (heap_alloc_new w (.cells #[x, y, z, p, q] t)) j).trans (by simpa using hj)
theorem three_cell {x y z : Value} (h : x.oneCell' = true ∧ y.oneCell' = true ∧ z.oneCell' = true) : ∀ u ∈ [x, y, z], u.oneCell' = true := by
  intro u hu
  simp at hu
  rcases hu with rfl | rfl | rfl
  · exact h.1
  · exact h.2.1
  · exact h.2.2
theorem five_cell {x y z p q : Value} (h : x.oneCell' = true ∧ y.oneCell' = true ∧ z.oneCell' = true ∧ p.oneCell' = true ∧ q.oneCell' = true) : ∀ u ∈ [x, y, z, p, q], u.oneCell' = true := by
  intro u hu
  simp at hu
  rcases hu with rfl | rfl | rfl | rfl | rfl
  · exact h.1
  · exact h.2.1
  · exact h.2.2.1
  · exact h.2.2.2.1
  · exact h.2.2.2.2

theorem enter_part {f : Nat} (h : f = 86 ∨ f = 88) (args : Array Value) (w : World) : (callFunc f args).run Tryz.prog w = .ok (.enter f args) w := by
  rcases h with rfl | rfl
  · exact enter_of Tryz.func86 (by kernel_rfl) (by kernel_rfl) args w
  · exact enter_of Tryz.func88 (by kernel_rfl) (by kernel_rfl) args w

set_option maxHeartbeats 4000000 in
set_option maxRecDepth 100000 in
theorem listQ_calls (s : ByteArray) (b m : Nat) (w : World) (r : Rd.R) (hs : s.size ≤ 100000) (hi : r.i ≤ s.size) (hm : m ≤ 65535) (hR : RdAt w b s r) :
    Calls Tryz.prog 85 #[.pointer (some ⟨b, 0, none⟩), .int .i64 (m : Int), .func (.func 86) #[] #[]] w (ListP m (Rd.list (fun r => (Rd.question s.data.toList r).2) m r) b s w) := by
  obtain ⟨ii, hii, hz0, hz1, hz2⟩ := info_parts Tryz.info114
  have hL : s.data.toList.length = s.size := by rw [← Lib.size_eq]
  obtain ⟨o, ho⟩ : ∃ o, Rd.list (fun r => (Rd.question s.data.toList r).2) m r = o := ⟨_, rfl⟩
  rw [ho]
  rw [Rd.list] at ho
  have HQ := Lib.hid (fun W r (hi : r.i ≤ s.size) (hR : RdAt W b s r) => question_calls s b W r hs hi hR)
  have HLE := Lib.hid (fun r (hi : r.i ≤ s.size) => Rd.question_le s.data.toList r (by omega))
  have hent := fun args w => enter_part (.inl rfl : (86 : Nat) = 86 ∨ (86 : Nat) = 88) args w
  have hlt := hR.lt
  have d2 := hR.c2
  have f2 := hR.fz 2
  obtain ⟨i, bad⟩ := r
  simp only at *
  obtain ⟨y, hy⟩ : ∃ y, (bad || decide (64 < m)) = y := ⟨_, rfl⟩
  rw [hy] at ho
  have HO := Lib.hid ho
  have HR := Lib.hid (hR.setBad y)
  simp only at HR
  have hb0 : Bar b w (w.setCell ⟨b, 2, none⟩ (.bool y)) := (Bar.refl b w).setAt 2 _
  have HB0 := Lib.hid hb0
  have HI := Lib.hid hi
  clear ho hR hb0 hi
  cases bad
  case' false => have hq : decide ((64 : Int) < (m : Int)) = y := by rw [← hy, Bool.false_or]; exact decide_eq_decide.2 (by omega)
  case' true =>
    have hyt : y = true := by rw [← hy]; rfl
    subst hyt
    have hq := True.intro
  all_goals
    clear hy
    go_enter Tryz.func85, Tryz.ntmps85
    go_wp2_with fail
    clear d2 f2 hq
    generalize w.setCell ⟨b, 2, none⟩ _ = w0 at *
    go_loopg [1, 7] m (fun gg v1 v7 wx => ∃ (k l : Nat) (r' : Rd.R) (xs : List Value), v1 = .int .i64 (k : Int) ∧ k = gg ∧ l + gg = m ∧ wx.ownsRow w.heap.size 114 3 v7 l xs ∧ RdAt wx b s r' ∧ r'.i ≤ s.size ∧ Bar b w wx ∧ Aside (Rd.run (fun r => (Rd.question s.data.toList r).2) gg r' = o))
    case atStart => exact ⟨m, 0, ⟨i, _⟩, [], rfl, rfl, by omega, World.ownsRow_nil _ _ _ _, HR.out, HI.out, HB0.out, HO.out⟩
    case round =>
      obtain ⟨k, l, r', xs, rfl, hk, hl, hown, hR, hi, hB, HA⟩ := hrel
      obtain ⟨vo, vc, rfl⟩ := own_form hown
      have d2 := hR.c2
      cases gk with
      | zero =>
        have hx : k = 0 := hk
        subst hx
        have hn : ((0 : Nat) : Int) = 0 := rfl
        have ho : r' = o := HA.out
        have HO2 := Lib.hid ho
        clear ho hk
        go_wp2_with fail
        go_ret
        rw [← HO2.out]
        exact ⟨⟨_, _, _, rfl, fun _ => by omega⟩, hR, hB⟩
      | succ g =>
        have h0 : 0 < k := by omega
        have e1 : (k : Int) - 1 = (g : Int) := by omega
        have hst := HA.out
        rw [Rd.run] at hst
        cases hbad : r'.bad with
        | true =>
          rw [hbad] at d2
          rw [if_pos hbad] at hst
          have HO2 := Lib.hid hst
          have HBD := Lib.hid hbad
          clear hst hbad hk
          go_wp2_with fail
          go_ret
          rw [← HO2.out]
          exact ⟨⟨_, _, _, rfl, fun h => by rw [HBD.out] at h; cases h⟩, hR, hB⟩
        | false =>
          rw [hbad] at d2
          rw [if_neg (by rw [hbad]; decide)] at hst
          have hle := HLE.out r' hi
          have hC := HQ.out wr r' hi hR
          have HST := Lib.hid hst
          have HC := Lib.hid hC
          have hk2 : k = g + 1 := hk
          clear hst hbad hk hC
          go_wp2_with fail
          refine HC.out.mono ?_
          rintro e w1 ⟨rfl, hR1, hB1⟩
          have hown1 := own_bar hown hB1 hlt
          have hBB1 := hB.trans hB1
          have hs1 := hB1.size
          have hsw := hB.size
          clear d2
          go_wp2_with (at_builtin; refine wpList_append_own _ rfl _ _ 93 rfl w.heap.size 114 ii (.agg #[.string ByteArray.empty, .int .i64 0, .int .i64 0]) 3 32 Tryz.underlying93 hii hz0 hz1 hz2 rfl (by decide) _ _ _ rfl (hown1.alloc _) ⟨w1.heap.size, 0, none⟩ 1 1 [_, _, _] rfl rfl (three_new _ _ _ _ _) (three_cell ⟨rfl, rfl, rfl⟩) (by unfold maxLen; omega) (by omega) (by simp; omega) ?_)
          intro v' w2 hown2 hgrow _
          have hR2 : RdAt w2 b s _ := (hgrow.block b (by simp; omega) (fun e => by have := (hown1.lt b e.symm).1; omega)).trans (hR1.alloc _)
          have hB2 := (hBB1.alloc hlt _).grown hgrow (fun j e => (hown1.lt j e).1) hlt
          have HG := Lib.hid hgrow
          clear hgrow
          go_wp2_with fail
          go_roundg g
          case measure => omega
          case rel => exact ⟨g, l + 1, _, _, rfl, rfl, by omega, hown2, hR2, by rw [← hL]; exact hle, hB2, HST.out⟩

set_option maxHeartbeats 4000000 in
set_option maxRecDepth 100000 in
theorem listR_calls (s : ByteArray) (b m : Nat) (w : World) (r : Rd.R) (hs : s.size ≤ 100000) (hi : r.i ≤ s.size) (hm : m ≤ 65535) (hR : RdAt w b s r) :
    Calls Tryz.prog 87 #[.pointer (some ⟨b, 0, none⟩), .int .i64 (m : Int), .func (.func 88) #[] #[]] w (ListP m (Rd.list (Rd.record s.data.toList) m r) b s w) := by
  obtain ⟨ii, hii, hz0, hz1, hz2⟩ := info_parts Tryz.info128b
  have hL : s.data.toList.length = s.size := by rw [← Lib.size_eq]
  obtain ⟨o, ho⟩ : ∃ o, Rd.list (Rd.record s.data.toList) m r = o := ⟨_, rfl⟩
  rw [ho]
  rw [Rd.list] at ho
  have HQ := Lib.hid (fun W r (hi : r.i ≤ s.size) (hR : RdAt W b s r) => record_calls s b W r hs hi hR)
  have HLE := Lib.hid (fun r (hi : r.i ≤ s.size) => Rd.record_le s.data.toList r (by omega))
  have hent := fun args w => enter_part (.inr rfl : (88 : Nat) = 86 ∨ (88 : Nat) = 88) args w
  have hlt := hR.lt
  have d2 := hR.c2
  have f2 := hR.fz 2
  obtain ⟨i, bad⟩ := r
  simp only at *
  obtain ⟨y, hy⟩ : ∃ y, (bad || decide (64 < m)) = y := ⟨_, rfl⟩
  rw [hy] at ho
  have HO := Lib.hid ho
  have HR := Lib.hid (hR.setBad y)
  simp only at HR
  have hb0 : Bar b w (w.setCell ⟨b, 2, none⟩ (.bool y)) := (Bar.refl b w).setAt 2 _
  have HB0 := Lib.hid hb0
  have HI := Lib.hid hi
  clear ho hR hb0 hi
  cases bad
  case' false => have hq : decide ((64 : Int) < (m : Int)) = y := by rw [← hy, Bool.false_or]; exact decide_eq_decide.2 (by omega)
  case' true =>
    have hyt : y = true := by rw [← hy]; rfl
    subst hyt
    have hq := True.intro
  all_goals
    clear hy
    go_enter Tryz.func87, Tryz.ntmps87
    go_wp2_with fail
    clear d2 f2 hq
    generalize w.setCell ⟨b, 2, none⟩ _ = w0 at *
    go_loopg [1, 7] m (fun gg v1 v7 wx => ∃ (k l : Nat) (r' : Rd.R) (xs : List Value), v1 = .int .i64 (k : Int) ∧ k = gg ∧ l + gg = m ∧ wx.ownsRow w.heap.size 128 5 v7 l xs ∧ RdAt wx b s r' ∧ r'.i ≤ s.size ∧ Bar b w wx ∧ Aside (Rd.run (Rd.record s.data.toList) gg r' = o))
    case atStart => exact ⟨m, 0, ⟨i, _⟩, [], rfl, rfl, by omega, World.ownsRow_nil _ _ _ _, HR.out, HI.out, HB0.out, HO.out⟩
    case round =>
      obtain ⟨k, l, r', xs, rfl, hk, hl, hown, hR, hi, hB, HA⟩ := hrel
      obtain ⟨vo, vc, rfl⟩ := own_form hown
      have d2 := hR.c2
      cases gk with
      | zero =>
        have hx : k = 0 := hk
        subst hx
        have hn : ((0 : Nat) : Int) = 0 := rfl
        have ho : r' = o := HA.out
        have HO2 := Lib.hid ho
        clear ho hk
        go_wp2_with fail
        go_ret
        rw [← HO2.out]
        exact ⟨⟨_, _, _, rfl, fun _ => by omega⟩, hR, hB⟩
      | succ g =>
        have h0 : 0 < k := by omega
        have e1 : (k : Int) - 1 = (g : Int) := by omega
        have hst := HA.out
        rw [Rd.run] at hst
        cases hbad : r'.bad with
        | true =>
          rw [hbad] at d2
          rw [if_pos hbad] at hst
          have HO2 := Lib.hid hst
          have HBD := Lib.hid hbad
          clear hst hbad hk
          go_wp2_with fail
          go_ret
          rw [← HO2.out]
          exact ⟨⟨_, _, _, rfl, fun h => by rw [HBD.out] at h; cases h⟩, hR, hB⟩
        | false =>
          rw [hbad] at d2
          rw [if_neg (by rw [hbad]; decide)] at hst
          have hle := HLE.out r' hi
          have hC := HQ.out wr r' hi hR
          have HST := Lib.hid hst
          have HC := Lib.hid hC
          have hk2 : k = g + 1 := hk
          clear hst hbad hk hC
          go_wp2_with fail
          refine HC.out.mono ?_
          rintro e w1 ⟨⟨rn, rt, rc, rx, rd, rfl⟩, hR1, hB1⟩
          have hown1 := own_bar hown hB1 hlt
          have hBB1 := hB.trans hB1
          have hs1 := hB1.size
          have hsw := hB.size
          clear d2
          go_wp2_with (at_builtin; refine wpList_append_own _ rfl _ _ 94 rfl w.heap.size 128 ii (.agg #[.string ByteArray.empty, .int .i64 0, .int .i64 0, .int .i64 0, .string ByteArray.empty]) 5 56 Tryz.underlying94 hii hz0 hz1 hz2 rfl (by decide) _ _ _ rfl (hown1.alloc _) ⟨w1.heap.size, 0, none⟩ 1 1 [_, _, _, _, _] rfl rfl (five_new _ _ _ _ _ _ _) (five_cell ⟨rfl, rfl, rfl, rfl, rfl⟩) (by unfold maxLen; omega) (by omega) (by simp; omega) ?_)
          intro v' w2 hown2 hgrow _
          have hR2 : RdAt w2 b s _ := (hgrow.block b (by simp; omega) (fun e => by have := (hown1.lt b e.symm).1; omega)).trans (hR1.alloc _)
          have hB2 := (hBB1.alloc hlt _).grown hgrow (fun j e => (hown1.lt j e).1) hlt
          have HG := Lib.hid hgrow
          clear hgrow
          go_wp2_with fail
          go_roundg g
          case measure => omega
          case rel => exact ⟨g, l + 1, _, _, rfl, rfl, by omega, hown2, hR2, by rw [← hL]; exact hle, hB2, HST.out⟩

end Go.Proofs.YtolbfeggceemfaaGreatDoor
