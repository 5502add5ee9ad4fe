/-
  The walks of console.(*words).name and (*words).hex. Condition: the word is of at most a million bytes; the block of the words is laid.
-/
import Derived.Test.YtolbfeggceemfaaGreatDoorC3
namespace Go.Proofs.YtolbfeggceemfaaGreatDoor
open Go.RowKit

theorem WordsAt.lt {w : World} {b : Nat} {ns : List Nat} {names : List (List UInt8)} {bs : List UInt8} (h : WordsAt w b ns names bs) : b < w.heap.size := by
  obtain ⟨_, _, hk, _⟩ := h
  exact (Array.getElem?_eq_some_iff.1 hk).1
theorem own_str1 {w : World} {B : Nat} {p : List UInt8} {v : Value} {ps : List (List UInt8)} (h : w.ownsRow B 9 1 v (ps.length + 1) (strs ps ++ [.string (txt p)])) : w.ownsRow B 9 1 v (ps ++ [p]).length (strs (ps ++ [p])) := by
  rw [strs_append, List.length_append]; exact h

set_option maxHeartbeats 1000000 in
set_option maxRecDepth 100000 in
theorem name_any (t : List UInt8) (c : Int) (s : ByteArray) (w : World) (b : Nat) (ns : List Nat) (names : List (List UInt8)) (bs : List UInt8) (hW : WordsAt w b ns names bs) (hns : names.length ≤ 1000)
    (h : Calls Tryz.prog 54 #[.string s] w fun e w' => Below w.heap.size w w' ∧ e = .returned (.tuple #[.string (txt t), .int .i64 c])) :
    Calls Tryz.prog 35 #[.pointer (some ⟨b, 0, none⟩), .string s] w fun e w' => e = .returned (.int .i64 c) ∧ Below b w w' ∧ WordsAt w' b ns (names ++ [t]) bs := by
  obtain ⟨i0, hi, hz0, hz1, hz2⟩ := info_parts Tryz.info9
  have hbw := hW.lt
  obtain ⟨v1, v2, hk, ho1, ho2, hap⟩ := hW
  have HK := Lib.hid hk
  clear hk
  go_enter Tryz.func35, Tryz.ntmps35
  go_wp2_with fail
  refine h.mono ?_
  rintro e w2 ⟨hb2, rfl⟩
  have hk2 : w2.heap[b]? = some (.cells #[v1, v2, .string (txt bs)] 71 (0, 0)) := (hb2.block b hbw).trans HK.out
  have ho12 := own_below ho1 hb2 (Nat.le_refl _)
  have ho22 := own_below ho2 hb2 (Nat.le_refl _)
  have cc1 : w2.cell? ⟨b, 1, none⟩ = some v2 := by rw [Lib.cell_of_heap hk2]; rfl
  have hz2' := hb2.size
  have HK2 := Lib.hid hk2
  clear hk2
  go_wp2_with (at_builtin; refine wpList_append_lies _ rfl _ _ 31 rfl (b + 1) 9 i0 (.string ByteArray.empty) 1 16 Tryz.underlying31 hi hz0 hz1 hz2 rfl (by decide) _ _ _ rfl (ho22.alloc _) ⟨w2.heap.size, 0, none⟩ 1 1 [.string (txt t)] rfl rfl (one_new _ _ _ rfl) (one_cell rfl) (by omega) (by unfold maxLen; omega) (by omega) (by simp; omega) _ rfl ?_)
  intro g' cap' w3 hown3 hgrow hat hlt3
  have hne1 : v2.ownBlock ≠ some b := fun e => by have := (ho22.lt b e).1; omega
  have hk3 : w3.heap[b]? = some (.cells #[v1, v2, .string (txt bs)] 71 (0, 0)) := by
    rw [hgrow.block b (by simp; omega) (fun e => hne1 e.symm), Lib.alloc_old w2 _ b (by omega)]
    exact HK2.out
  have f3 : w3.frozen? ⟨b, 1, none⟩ = false := Lib.frozen_of_heap hk3 1
  have k3 : w3.cell? ⟨b, 1, none⟩ = some v2 := by rw [Lib.cell_of_heap hk3]; rfl
  have hb3 := below_app (hb2.mono (B' := b) (by omega)) (by omega) (by omega) ho22 hgrow
  have ho13 := (ho12.alloc (.cells #[Value.string (txt t)] 9)).kept hgrow (hap.imp_right fun h e => h e)
  have hap3 : Apart v1 (.slice (some ⟨g', 0, none⟩) (names.length + 1) cap') := apart_grown (H := 1) hap ho12 (hat.imp (fun h => h) (fun h => h))
  have HG := Lib.hid hgrow
  have HA := Lib.hid hat
  have HK3 := Lib.hid hk3
  clear hgrow hat hk3
  go_wp2
  go_ret
  refine ⟨rfl, hb3.setCell (p := ⟨b, 1, none⟩) (Nat.le_refl _) _, v1, .slice (some ⟨g', 0, none⟩) (names.length + 1) cap', ?_, ownsRow_setCell_below ho13 (Nat.lt_succ_self b) _, ownsRow_setCell_below (own_str1 hown3) (Nat.lt_succ_self b) _, hap3⟩
  exact Lib.heap_setCell_same HK3.out _

/-- (*words).name: what Parse says. -/
theorem name_calls (s : ByteArray) (w : World) (b : Nat) (ns : List Nat) (names : List (List UInt8)) (bs : List UInt8) (hs : s.size ≤ 1000000) (hW : WordsAt w b ns names bs) (hns : names.length ≤ 1000) :
    Calls Tryz.prog 35 #[.pointer (some ⟨b, 0, none⟩), .string s] w fun e w' => Below b w w' ∧ match Nm.parse s.data.toList with
      | some n => e = .returned (.int .i64 0) ∧ WordsAt w' b ns (names ++ [n]) bs
      | none => e = .returned (.int .i64 100) := by
  have hp := parse_calls s w hs
  cases h : Nm.parse s.data.toList with
  | some n =>
    rw [h] at hp
    refine (name_any n 0 s w b ns names bs hW hns hp).mono ?_
    rintro e w' ⟨h1, h2, h3⟩
    exact ⟨h2, h1, h3⟩
  | none =>
    rw [h] at hp
    refine (name_any [] 100 s w b ns names bs hW hns hp).mono ?_
    rintro e w' ⟨h1, h2, h3⟩
    exact ⟨h2, h1⟩

/-! ### hex -/
namespace Nu
/-- The sixteen digits of bytes. -/
def hexd : ByteArray := ⟨#[48, 49, 50, 51, 52, 53, 54, 55, 56, 57, 97, 98, 99, 100, 101, 102]⟩
/-- A digit's place, or -1. -/
def nib (c : UInt8) : Int := Lib.indexByte hexd.data.toList c
/-- Digits from number i on, into what was read ahead. -/
def hexGo (odd : Bool) : Nat → List UInt8 → List UInt8 → Option (List UInt8)
  | _, acc, [] => some acc
  | i, acc, c :: r => if nib c < 0 ∨ odd = true then none else hexGo odd (i + 1) (acc.set (i / 2) ((acc.getD (i / 2) 0) <<< 4 ||| UInt8.ofNat (nib c).toNat)) r
/-- Digits as bytes. -/
def hex (l : List UInt8) : Option (List UInt8) := hexGo (l.length % 2 == 1) 0 (List.replicate ((l.length + 1) / 2) 0) l
theorem nib_range (c : UInt8) : -1 ≤ nib c ∧ nib c < 16 := by
  have : ∀ l : List UInt8, -1 ≤ Lib.indexByte l c ∧ Lib.indexByte l c < l.length := by
    intro l
    induction l with
    | nil => simp [Lib.indexByte]
    | cons x r ih =>
      rw [Lib.indexByte, List.length_cons]
      repeat' split
      all_goals omega
  exact this _
end Nu

/-- A row of bytes that makes laid. -/
def Row8 (w : World) (g : Nat) (l : List UInt8) : Prop := w.heap[g]? = some (.cells (Lib.byteCells l).toArray 5 (0, 0))
theorem Row8.cell {w : World} {g : Nat} {l : List UInt8} (h : Row8 w g l) {j : Nat} (hj : j < l.length) : w.cell? ⟨g, j, none⟩ = some (.int .u8 ((l.getD j 0).toNat : Int)) := by
  rw [Lib.cell_of_heap h]
  simp [Lib.byteCells, hj]
theorem Row8.frozen {w : World} {g : Nat} {l : List UInt8} (h : Row8 w g l) (j : Nat) : w.frozen? ⟨g, j, none⟩ = false := Lib.frozen_of_heap h j
theorem Row8.set {w : World} {g : Nat} {l : List UInt8} (h : Row8 w g l) (j : Nat) (x : UInt8) : Row8 (w.setCell ⟨g, j, none⟩ (.int .u8 (x.toNat : Int))) g (l.set j x) := by
  refine (Lib.heap_setCell_same h _).trans ?_
  simp [Lib.byteCells, List.map_set]

theorem nib_calls (c : UInt8) (w : World) : Calls Tryz.prog 55 #[.string Nu.hexd, .int .u8 (c.toNat : Int)] w fun e w' => e = .returned (.int .i64 (Nu.nib c)) ∧ w = w' := by
  refine (Tryz.strings_IndexByte Nu.hexd (c.toNat : Int) w).mono ?_
  rintro e w' ⟨h1, h2⟩
  refine ⟨?_, h2.symm⟩
  rw [h1, Nu.nib, Int.toNat_natCast, Nat.toUInt8_eq, UInt8.ofNat_toNat]
theorem made_row (w : World) (m : Nat) : Row8 (w.alloc (.cells (madeCells #[Value.int .u8 0] m) 5)) w.heap.size (List.replicate m 0) := by
  unfold Row8
  have e1 : ∀ i : Nat, ([Value.int .u8 0][i % 1]?).getD default = Value.int .u8 0 := fun i => by rw [Nat.mod_one]; rfl
  have e : madeCells #[Value.int .u8 0] m = (Lib.byteCells (List.replicate m 0)).toArray := by
    refine Array.ext (by simp [madeCells, Lib.byteCells]) fun i h1 h2 => ?_
    simp [madeCells, Lib.byteCells, e1]
  rw [e]
  exact heap_alloc_new _ _
theorem WordsAt.below {w w' : World} {b B : Nat} {ns : List Nat} {names : List (List UInt8)} {bs : List UInt8} (h : WordsAt w b ns names bs) (hb : Below B w w') (hB : w.heap.size ≤ B) : WordsAt w' b ns names bs := by
  have hlt := h.lt
  obtain ⟨v1, v2, hk, h1, h2, h3⟩ := h
  exact ⟨v1, v2, (hb.block b (by omega)).trans hk, own_below h1 hb hB, own_below h2 hb hB, h3⟩

theorem hex_byte (x : UInt8) (dn : Nat) (h : dn < 16) : bits BinOp.or IntKind.u8 ((x.toNat : Int) * 16 % 256) (dn : Int) = ((x <<< 4 ||| UInt8.ofNat dn).toNat : Int) := by
  have hx := UInt8.toNat_lt x
  rw [UInt8.toNat_or, UInt8.toNat_shiftLeft, UInt8.toNat_ofNat, u8_or _ _ (by omega) (by omega) (by omega) (by omega)]
  congr 1
  rw [Nat.shiftLeft_eq, show (dn : Int).toNat = dn % 2 ^ 8 from by omega]
  congr 1
theorem getD_dot (l : List UInt8) (j : Nat) : l.getD j 0 = l[j]?.getD 0 := rfl

def HexPost (o : Option (List UInt8)) (b : Nat) (ns : List Nat) (names : List (List UInt8)) (w : World) (e : Ending) (w' : World) : Prop :=
  Below b w w' ∧ match o with
    | some l => e = .returned (.int .i64 0) ∧ WordsAt w' b ns names l
    | none => e = .returned (.int .i64 2800)

set_option maxHeartbeats 1000000 in
set_option maxRecDepth 100000 in
theorem hex_calls (s : ByteArray) (w : World) (b : Nat) (ns : List Nat) (names : List (List UInt8)) (bs : List UInt8) (hs : s.size ≤ 1000000) (hW : WordsAt w b ns names bs) :
    Calls Tryz.prog 36 #[.pointer (some ⟨b, 0, none⟩), .string s] w (HexPost (Nu.hex s.data.toList) b ns names w) := by
  obtain ⟨o, ho⟩ : ∃ o, Nu.hex s.data.toList = o := ⟨_, rfl⟩
  rw [ho]
  obtain ⟨m, hm⟩ : ∃ m, (s.size + 1) / 2 = m := ⟨_, rfl⟩
  obtain ⟨odd, hodd⟩ : ∃ odd, (s.size % 2 == 1) = odd := ⟨_, rfl⟩
  rw [Nu.hex, ← Lib.size_eq, hm, hodd] at ho
  have hm2 : ((s.size : Int) + 1) / 2 = (m : Int) := by omega
  have hmk := run_make_row' (P := Tryz.prog) 47 5 (.int .u8 0) 1 Tryz.underlying47 Tryz.info5 rfl .i64 .i64 m (by omega) (by omega)
  have hbw := hW.lt
  have HW := Lib.hid hW
  have HO := Lib.hid ho
  have HM := Lib.hid hm
  have HD := Lib.hid hodd
  clear hW ho hm hodd
  go_enter Tryz.func36, Tryz.ntmps36
  go_wp2
  clear hmk hm2
  obtain ⟨w0, hw0⟩ : ∃ w0, w.alloc (.cells (madeCells #[Value.int .u8 0] m) 5) = w0 := ⟨_, rfl⟩
  have hr0 := made_row w m
  have hb0 : Below w.heap.size w (w.alloc (.cells (madeCells #[Value.int .u8 0] m) 5)) := (Below.refl _ w).alloc (Nat.le_refl _) _
  rw [hw0] at hr0 hb0 ⊢
  clear hw0
  go_loopg [15] s.size (fun gg v15 wx => ∃ (i : Nat) (acc : List UInt8), v15 = .int .i64 (i : Int) ∧ i + gg = s.size ∧ acc.length = m ∧ Row8 wx w.heap.size acc ∧ Below w.heap.size w wx ∧ Aside (Nu.hexGo odd i acc (s.data.toList.drop i) = o))
  case atStart => exact ⟨0, _, rfl, by omega, by simp, hr0, hb0, HO.out⟩
  case round =>
    obtain ⟨i, acc, rfl, hi, hl, hR, hb, HA⟩ := hrel
    clear hr0 hb0
    cases gk with
    | zero =>
      have hi2 : i = s.size := by omega
      have ho2 : o = some acc := by
        have h := HA.out
        rw [List.drop_eq_nil_of_le (by rw [← Lib.size_eq]; omega)] at h
        exact h.symm
      have HO2 := Lib.hid ho2
      have hW2 := HW.out.below hb (Nat.le_refl _)
      obtain ⟨v1, v2, hk, ho1, ho2', hap⟩ := hW2
      have hcb : (convert 47 9 (.slice (some ⟨w.heap.size, 0, none⟩) m m)).run Tryz.prog wr = .ok (.string (txt acc)) wr := by
        have h := run_convert_bytes_back (P := Tryz.prog) wr 47 9 5 ⟨w.heap.size, 0, none⟩ m acc Tryz.underlying47 Tryz.underlying5 Tryz.underlying9 (fun j hj => by
          rw [Addr.add_lit, Nat.zero_add, hR.cell hj]; simp [hj])
        rw [hl] at h
        exact h
      have f3 : wr.frozen? ⟨b, 2, none⟩ = false := Lib.frozen_of_heap hk 2
      have k3 : wr.cell? ⟨b, 2, none⟩ = some (.string (txt bs)) := by rw [Lib.cell_of_heap hk]; rfl
      have HK := Lib.hid hk
      clear ho2 hk
      go_wp2
      go_ret
      rw [HO2.out]
      exact ⟨(hb.mono (B' := b) (by omega)).setCell (p := ⟨b, 2, none⟩) (Nat.le_refl _) _, rfl, v1, v2, Lib.heap_setCell_same HK.out _, ownsRow_setCell_below ho1 (Nat.lt_succ_self b) _, ownsRow_setCell_below ho2' (Nat.lt_succ_self b) _, hap⟩
    | succ g =>
      have hlt : i < s.size := by omega
      have IB := Lib.hid (nib_calls s[i])
      have hnr := Nu.nib_range s[i]
      have hdr : s.data.toList.drop i = s[i] :: s.data.toList.drop (i + 1) := by
        rw [List.drop_eq_getElem_cons (by simpa using hlt)]; rfl
      have h1 := HA.out
      rw [hdr, Nu.hexGo] at h1
      generalize Nu.nib s[i] = d at *
      have H1 := Lib.hid h1
      clear h1 hdr
      by_cases hbad : d < 0 ∨ odd = true
      · have ho2 : o = none := by
          have h1 := H1.out
          rw [if_pos hbad] at h1
          exact h1.symm
        have HO2 := Lib.hid ho2
        clear ho2
        by_cases hd0 : d < 0
        · go_wp2_with (go_at_call 55; refine (IB.out _).mono ?_; rintro e wf ⟨rfl, rfl⟩)
          go_ret
          rw [HO2.out]
          exact ⟨hb.mono (by omega), rfl⟩
        · have hq : ((s.size : Int) % 2 != 0) = true := by
            have h2 := HD.out
            rw [hbad.resolve_left hd0] at h2
            simp at h2 ⊢
            omega
          clear hbad
          go_wp2_with (go_at_call 55; refine (IB.out _).mono ?_; rintro e wf ⟨rfl, rfl⟩)
          go_ret
          rw [HO2.out]
          exact ⟨hb.mono (by omega), rfl⟩
      · obtain ⟨hd0, hod⟩ : ¬ d < 0 ∧ odd = false := by
          refine ⟨fun h => hbad (.inl h), ?_⟩
          cases odd with
          | false => rfl
          | true => exact absurd (.inr rfl) hbad
        have hq : ((s.size : Int) % 2 != 0) = false := by
          have h2 := HD.out
          rw [hod] at h2
          simp at h2 ⊢
          omega
        obtain ⟨dn, rfl⟩ : ∃ dn : Nat, d = (dn : Int) := ⟨d.toNat, by omega⟩
        obtain ⟨j, hj⟩ : ∃ j, i / 2 = j := ⟨_, rfl⟩
        have hj2 : (i : Int) / 2 = (j : Int) := by omega
        have hjl : j < acc.length := by have := HM.out; omega
        have hjm : (j : Int) < (m : Int) := by omega
        have hc := hR.cell hjl
        have hf := hR.frozen j
        have hb8 := hex_byte (acc.getD j 0) dn (by omega)
        obtain ⟨nb, hnb⟩ : ∃ nb, (acc.getD j 0) <<< 4 ||| UInt8.ofNat dn = nb := ⟨_, rfl⟩
        rw [hnb] at hb8
        have h1 := H1.out
        rw [if_neg hbad, hj, show ((dn : Int)).toNat = dn from rfl, hnb] at h1
        generalize acc.getD j 0 = ob at *
        have hdn : ((dn : Int) < 0) = False := by simp
        have H2 := Lib.hid h1
        have HR := Lib.hid hR
        clear h1 hbad H1 hd0 hR hj hnb
        go_wp2_with (go_at_call 55; refine (IB.out _).mono ?_; rintro e wf ⟨rfl, rfl⟩)
        go_roundg g
        case measure => omega
        case rel =>
          exact ⟨i + 1, acc.set j nb, by simp, by omega, by simpa using hl, HR.out.set j nb, hb.setCell (p := ⟨w.heap.size, j, none⟩) (Nat.le_refl _) _, H2.out⟩
end Go.Proofs.YtolbfeggceemfaaGreatDoor
