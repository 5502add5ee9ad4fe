/-
  The walk of console.(*words).number. Condition: the word is of at most a million bytes; the block of the words is laid; the variables read as the program lays them.
-/
import Derived.Test.YtolbfeggceemfaaGreatDoorC2
import Derived.BigQuiet
namespace Go.Proofs.YtolbfeggceemfaaGreatDoor
open Go.RowKit

/-- A world of a class. -/
structure Cls (C : World → Prop) where
  w : World
  h : C w
/-- A region that draws its order, all of whose operations leave a class of worlds as it is and yield one value in it. -/
theorem region_cls {P : Program} {id : Nat} {Q : Exit → Act → World → Prop} {a : Act} {w : World} {l : List Oper} (C : World → Prop) (hm : P.follows .mixedOrders = true) (hB : Region.lexB .any l.toArray = true) (hC : C w.drew)
    (h : Nonempty (Cls C) → wpQuiet P l.toArray (fun w' => ∃ x : Cls C, w' = x.w) (fun a' => ∀ w', C w' → Q .normal a' w') l a) : (Code.region id l.toArray true).wp P Q a w := by
  refine wp_region_quiet (C := fun w' => ∃ x : Cls C, w' = x.w) hm hB ⟨⟨_, hC⟩, rfl⟩ ?_
  have h1 := h ⟨⟨_, hC⟩⟩
  have e : l.toArray.toList = l := by simp
  rw [e]
  have : (fun a' => ∀ w', (∃ x : Cls C, w' = x.w) → Q .normal a' w') = (fun a' => ∀ w', C w' → Q .normal a' w') := by
    funext a'
    refine propext ⟨fun h w' hw => h w' ⟨⟨w', hw⟩, rfl⟩, fun h w' ⟨x, hx⟩ => by rw [hx]; exact h _ x.h⟩
  rw [this]
  exact h1

set_option maxHeartbeats 1000000 in
set_option maxRecDepth 100000 in
theorem number_long (s : ByteArray) (w : World) (b : Nat) (hs : s.size ≤ 1000000) (hV : Vars w) (hl : 10 < s.size) :
    Calls Tryz.prog 34 #[.pointer (some ⟨b, 0, none⟩), .string s] w fun e w' => e = .returned (.int .i64 2800) ∧ Below w.heap.size w w' := by
  go_enter Tryz.func34, Tryz.ntmps34
  go_wp2_with fail
  refine (atoi_any s _ hs hV).mono ?_
  rintro e w1 ⟨x, er, rfl, hb1⟩
  have hl' : (10 : Int) < (s.size : Int) := by omega
  go_wp2_with fail
  refine region_cls (fun w' => Below w.heap.size w w') (by kernel_rfl) (by kernel_rfl) hb1.drew (fun hne => ?_)
  repeat (go_big_quiet_step (fail))
  refine wpQuiet_nil ?_
  intro w2 hb2
  go_wp2
  go_ret
  exact ⟨rfl, hb2⟩

set_option maxHeartbeats 1000000 in
set_option maxRecDepth 100000 in
theorem number_trim (s : ByteArray) (w : World) (b : Nat) (hs : s.size ≤ 1000000) (hV : Vars w) (hl : ¬ 10 < s.size) (ht : rdw (s.data.toList.dropWhile isDig) ≠ []) :
    Calls Tryz.prog 34 #[.pointer (some ⟨b, 0, none⟩), .string s] w fun e w' => e = .returned (.int .i64 2800) ∧ Below w.heap.size w w' := by
  have c1 := fun W => cutLeft_calls s W (by omega)
  have hlw : (List.dropWhile isDig s.data.toList).length ≤ 1000000 := Nat.le_trans (List.dropWhile_sublist _).length_le (by rw [← Lib.size_eq]; exact hs)
  generalize List.dropWhile isDig s.data.toList = t at *
  have c2 := fun W => cutRight_calls (txt t) W (by rw [txt_size]; omega)
  rw [txt_data] at c2
  generalize rdw t = u at *
  have hu : (txt u).toList.isEmpty = false := by
    rw [Lib.toList_data, txt_data]
    cases u with
    | nil => exact absurd rfl ht
    | cons => rfl
  have C1 := Lib.hid c1
  have C2 := Lib.hid c2
  have HV := Lib.hid hV
  clear c1 c2 hlw ht hV
  go_enter Tryz.func34, Tryz.ntmps34
  go_wp2_with fail
  refine (atoi_any s _ hs HV.out).mono ?_
  rintro e w1 ⟨x, er, rfl, hb1⟩
  have HB : Aside (∀ w', Below w.heap.size w w' → Vars w') := fun w' hb => HV.out.below hb HV.out.size
  go_wp2_with fail
  have hl' : ((10 : Int) < (s.size : Int)) = False := by simp; omega
  refine region_cls (fun w' => Below w.heap.size w w') (by kernel_rfl) (by kernel_rfl) hb1.drew (fun hne => ?_)
  repeat (go_big_quiet_step (first
    | (go_at_call 53; rename_i W; have hb := W.h; refine (C1.out _).mono ?_; rintro e wf ⟨rfl, hbf⟩; exact ⟨rfl, ⟨_, hb.trans (hbf.mono hb.size)⟩, rfl⟩)
    | (go_at_call 52; rename_i W; have hb := W.h; refine (C2.out _ (HB.out _ hb)).mono ?_; rintro e wf ⟨rfl, hbf⟩; exact ⟨rfl, ⟨_, hb.trans (hbf.mono hb.size)⟩, rfl⟩)))
  refine wpQuiet_nil ?_
  intro w2 hb2
  go_wp2
  go_ret
  exact ⟨rfl, hb2⟩

theorem digs_txt {s : ByteArray} (h : s.data.toList.all isDig = true) : List.dropWhile isDig s.data.toList = [] := by
  have : ∀ l : List UInt8, l.all isDig = true → l.dropWhile isDig = [] := by
    intro l
    induction l with
    | nil => intro _; rfl
    | cons c r ih =>
      intro h
      simp only [List.all_cons, Bool.and_eq_true] at h
      rw [List.dropWhile_cons, if_pos h.1]
      exact ih h.2
  exact this _ h

set_option maxHeartbeats 1000000 in
set_option maxRecDepth 100000 in
theorem number_empty (s : ByteArray) (w : World) (b : Nat) (hV : Vars w) (he : s.data.toList = []) :
    Calls Tryz.prog 34 #[.pointer (some ⟨b, 0, none⟩), .string s] w fun e w' => e = .returned (.int .i64 2800) ∧ Below w.heap.size w w' := by
  have hs0 : s.size = 0 := by rw [Lib.size_eq, he]; rfl
  have c0 := atoi_syn s w (by omega) hV he
  have c1 := fun W => cutLeft_calls s W (by omega)
  rw [he] at c1
  have c2 := fun W => cutRight_calls (txt []) W (by rw [txt_size]; simp)
  rw [show rdw (txt []).data.toList = [] from by rw [txt_data]; rfl] at c2
  have C1 := Lib.hid c1
  have C2 := Lib.hid c2
  have HV := Lib.hid hV
  have hl0 : s.size ≤ 10 := by omega
  have hu : (txt []).toList.isEmpty = true := by rw [Lib.toList_data, txt_data]; rfl
  clear c1 c2 hV he hs0
  go_enter Tryz.func34, Tryz.ntmps34
  go_wp2_with fail
  refine c0.mono ?_
  rintro e w1 ⟨p, rfl, hb1⟩
  have HB : Aside (∀ w', Below w.heap.size w w' → Vars w') := fun w' hb => HV.out.below hb HV.out.size
  go_wp2_with fail
  have hl' : ((10 : Int) < (s.size : Int)) = False := by simp; omega
  refine region_cls (fun w' => Below w.heap.size w w') (by kernel_rfl) (by kernel_rfl) hb1.drew (fun hne => ?_)
  repeat (go_big_quiet_step (first
    | (go_at_call 53; rename_i W; have hb := W.h; refine (C1.out _).mono ?_; rintro e wf ⟨rfl, hbf⟩; exact ⟨rfl, ⟨_, hb.trans (hbf.mono hb.size)⟩, rfl⟩)
    | (go_at_call 52; rename_i W; have hb := W.h; refine (C2.out _ (HB.out _ hb)).mono ?_; rintro e wf ⟨rfl, hbf⟩; exact ⟨rfl, ⟨_, hb.trans (hbf.mono hb.size)⟩, rfl⟩)))
  refine wpQuiet_nil ?_
  intro w2 hb2
  go_wp2
  go_ret
  exact ⟨rfl, hb2⟩

set_option maxHeartbeats 1000000 in
set_option maxRecDepth 100000 in
theorem number_ok (s : ByteArray) (w : World) (b n : Nat) (ns : List Nat) (names : List (List UInt8)) (bs : List UInt8) (hW : WordsAt w b ns names bs) (hns : ns.length ≤ 1000) (hV : Vars w) (h : Nu.number s.data.toList = some n) :
    Calls Tryz.prog 34 #[.pointer (some ⟨b, 0, none⟩), .string s] w fun e w' => e = .returned (.int .i64 0) ∧ Below b w w' ∧ WordsAt w' b (ns ++ [n]) names bs := by
  obtain ⟨i0, hi, hz0, hz1, hz2⟩ := info_parts Tryz.info3
  unfold Nu.number at h
  split at h
  case isFalse => cases h
  rename_i hc
  obtain ⟨h1, h10, hd⟩ := hc
  cases h
  have hs0 : s.size ≤ 10 := by rw [Lib.size_eq]; exact h10
  have c0 := atoi_ok s w (by omega) _ (Nu.atoi_val _ h1 h10 hd)
  have c1 := fun W => cutLeft_calls s W (by omega)
  rw [digs_txt hd] at c1
  have c2 := fun W => cutRight_calls (txt []) W (by rw [txt_size]; simp)
  rw [show rdw (txt []).data.toList = [] from by rw [txt_data]; rfl] at c2
  generalize Nu.val 0 s.data.toList = n at *
  have C1 := Lib.hid c1
  have C2 := Lib.hid c2
  have HV := Lib.hid hV
  have hu : (txt []).toList.isEmpty = true := by rw [Lib.toList_data, txt_data]; rfl
  clear c1 c2 hV hd h10 h1
  obtain ⟨v1, v2, hk, ho1, ho2, hap⟩ := hW
  have hbw : b < w.heap.size := (Array.getElem?_eq_some_iff.1 hk).1
  go_enter Tryz.func34, Tryz.ntmps34
  go_wp2_with fail
  refine c0.mono ?_
  rintro e w1 ⟨rfl, hb1⟩
  have HB : Aside (∀ w', Below w.heap.size w w' → Vars w') := fun w' hb => HV.out.below hb HV.out.size
  go_wp2_with fail
  have hl' : ((10 : Int) < (s.size : Int)) = False := by simp; omega
  refine region_cls (fun w' => Below w.heap.size w w') (by kernel_rfl) (by kernel_rfl) hb1.drew (fun hne => ?_)
  repeat (go_big_quiet_step (first
    | (go_at_call 53; rename_i W; have hb := W.h; refine (C1.out _).mono ?_; rintro e wf ⟨rfl, hbf⟩; exact ⟨rfl, ⟨_, hb.trans (hbf.mono hb.size)⟩, rfl⟩)
    | (go_at_call 52; rename_i W; have hb := W.h; refine (C2.out _ (HB.out _ hb)).mono ?_; rintro e wf ⟨rfl, hbf⟩; exact ⟨rfl, ⟨_, hb.trans (hbf.mono hb.size)⟩, rfl⟩)))
  refine wpQuiet_nil ?_
  intro w2 hb2
  have hk2 : w2.heap[b]? = some (.cells #[v1, v2, .string (txt bs)] 71 (0, 0)) := (hb2.block b hbw).trans hk
  have ho12 := own_below ho1 hb2 (Nat.le_refl _)
  have ho22 := own_below ho2 hb2 (Nat.le_refl _)
  have cc1 : w2.cell? ⟨b, 0, none⟩ = some v1 := by rw [Lib.cell_of_heap hk2]; rfl
  have hz2' := hb2.size
  have HK := Lib.hid hk
  have HK2 := Lib.hid hk2
  clear hk hk2
  go_wp2_with (at_builtin; refine wpList_append_lies _ rfl _ _ 40 rfl (b + 1) 3 i0 (.int .i64 0) 1 8 Tryz.underlying40 hi hz0 hz1 hz2 rfl (by decide) _ _ _ rfl (ho12.alloc _) ⟨w2.heap.size, 0, none⟩ 1 1 [.int .i64 (n : Int)] rfl rfl (one_new _ _ _ rfl) (one_cell rfl) (by omega) (by unfold maxLen; omega) (by omega) (by simp; omega) _ rfl ?_)
  intro g' cap' w3 hown3 hgrow hat hlt3
  have hne1 : v1.ownBlock ≠ some b := fun e => by have := (ho12.lt b e).1; omega
  have hk3 : w3.heap[b]? = some (.cells #[v1, v2, .string (txt bs)] 71 (0, 0)) := by
    rw [hgrow.block b (by simp; omega) (fun e => hne1 e.symm), Lib.alloc_old w2 _ b (by omega)]
    exact HK2.out
  have f3 : w3.frozen? ⟨b, 0, none⟩ = false := Lib.frozen_of_heap hk3 0
  have k3 : w3.cell? ⟨b, 0, none⟩ = some v1 := by rw [Lib.cell_of_heap hk3]; rfl
  have hb3 := below_app (hb2.mono (B' := b) (by omega)) (by omega) (by omega) ho12 hgrow
  have ho23 := (ho22.alloc (.cells #[Value.int .i64 (n : Int)] 3)).kept hgrow (hap.symm.imp_right fun h e => h e)
  have hap3 : Apart v2 (.slice (some ⟨g', 0, none⟩) (ns.length + 1) cap') := apart_grown (H := 1) hap.symm ho22 (hat.imp (fun h => h) (fun h => h))
  have HG := Lib.hid hgrow
  have HA := Lib.hid hat
  have HK3 := Lib.hid hk3
  clear hgrow hat hk3
  go_wp2
  go_ret
  refine ⟨rfl, hb3.setCell (p := ⟨b, 0, none⟩) (Nat.le_refl _) _, .slice (some ⟨g', 0, none⟩) (ns.length + 1) cap', v2, ?_, ownsRow_setCell_below (own_i64 hown3) (Nat.lt_succ_self b) _, ownsRow_setCell_below ho23 (Nat.lt_succ_self b) _, hap3.symm⟩
  exact Lib.heap_setCell_same HK3.out _

/-- (*words).number: a word of one to ten digits is read; else an error. -/
theorem number_calls (s : ByteArray) (w : World) (b : Nat) (ns : List Nat) (names : List (List UInt8)) (bs : List UInt8) (hs : s.size ≤ 1000000) (hW : WordsAt w b ns names bs) (hns : ns.length ≤ 1000) (hV : Vars w) :
    Calls Tryz.prog 34 #[.pointer (some ⟨b, 0, none⟩), .string s] w fun e w' => Below b w w' ∧ match Nu.number s.data.toList with
      | some n => e = .returned (.int .i64 0) ∧ WordsAt w' b (ns ++ [n]) names bs
      | none => e = .returned (.int .i64 2800) := by
  have hbw : b < w.heap.size := by
    obtain ⟨v1, v2, hk, _⟩ := hW
    exact (Array.getElem?_eq_some_iff.1 hk).1
  cases h : Nu.number s.data.toList with
  | some n =>
    refine (number_ok s w b n ns names bs hW hns hV h).mono ?_
    rintro e w' ⟨h1, h2, h3⟩
    exact ⟨h2, h1, h3⟩
  | none =>
    have h0 : Calls Tryz.prog 34 #[.pointer (some ⟨b, 0, none⟩), .string s] w fun e w' => e = .returned (.int .i64 2800) ∧ Below w.heap.size w w' := by
      by_cases hl : 10 < s.size
      · exact number_long s w b hs hV hl
      · by_cases he : s.data.toList = []
        · exact number_empty s w b hV he
        · refine number_trim s w b hs hV hl fun ht => ?_
          have hd := (Nu.trim_digits _).1 ht
          have h1 : 1 ≤ s.data.toList.length := List.length_pos_iff.2 he
          rw [Nu.number, if_pos ⟨h1, by rw [← Lib.size_eq]; omega, hd⟩] at h
          cases h
    exact h0.mono fun e w' ⟨h1, h2⟩ => ⟨h2.mono (by omega), h1⟩
end Go.Proofs.YtolbfeggceemfaaGreatDoor
