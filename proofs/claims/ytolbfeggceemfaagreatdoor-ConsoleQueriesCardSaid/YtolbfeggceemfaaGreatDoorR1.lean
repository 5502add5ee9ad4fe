/-
  The walks of package rel: fold, folded, Fold: each returns what the plain functions on lists of bytes say. Condition: the texts are of at most 2^47 bytes.
-/
import Derived.Test.YtolbfeggceemfaaGreatDoorN3
import Derived.Lib.ConvBytes
namespace Go.Proofs.YtolbfeggceemfaaGreatDoor
open Go.RowKit

namespace Nm
/-- A byte, folded. -/
def foldb (c : UInt8) : UInt8 := if 65 ≤ c.toNat ∧ c.toNat ≤ 90 then c + 32 else c
end Nm

theorem fold_calls (c : UInt8) (w : World) : Calls Tryz.prog 106 #[.int .u8 (c.toNat : Int)] w fun e w' => e = .returned (.int .u8 ((Nm.foldb c).toNat : Int)) ∧ w = w' := by
  have hc : c.toNat < 256 := UInt8.toNat_lt _
  by_cases h1 : 65 ≤ c.toNat
  · by_cases h2 : c.toNat ≤ 90
    · have hf : Aside (((Nm.foldb c).toNat : Int) = (c.toNat : Int) + 32) := by
        show _ = _
        rw [Nm.foldb, if_pos ⟨h1, h2⟩]
        simp
        omega
      go_enter Tryz.func106, Tryz.ntmps106
      go_wp2
      go_ret
      exact ⟨by rw [hf.out]; rfl, rfl⟩
    · have hf : Aside (((Nm.foldb c).toNat : Int) = (c.toNat : Int)) := by
        show _ = _
        rw [Nm.foldb, if_neg (fun h => h2 h.2)]
      go_enter Tryz.func106, Tryz.ntmps106
      go_wp2
      go_ret
      exact ⟨by rw [hf.out]; rfl, rfl⟩
  · have hf : Aside (((Nm.foldb c).toNat : Int) = (c.toNat : Int)) := by
      show _ = _
      rw [Nm.foldb, if_neg (fun h => h1 h.1)]
    go_enter Tryz.func106, Tryz.ntmps106
    go_wp2
    go_ret
    exact ⟨by rw [hf.out]; rfl, rfl⟩

/-- A row of bytes in block b that may be written: what is frozen of it lies behind. -/
def ByteRow (w : World) (b : Nat) (l : List UInt8) : Prop :=
  ∃ c fz, w.heap[b]? = some (.cells c 5 fz) ∧ l.length ≤ fz.1 ∧ ∀ (j : Nat) x, l[j]? = some x → c[j]? = some (.int .u8 (x.toNat : Int))

theorem ByteRow.lt {w : World} {b : Nat} {l : List UInt8} (h : ByteRow w b l) : b < w.heap.size := by
  obtain ⟨c, fz, hb, _⟩ := h
  exact (Array.getElem?_eq_some_iff.1 hb).1
theorem ByteRow.cell {w : World} {b : Nat} {l : List UInt8} (h : ByteRow w b l) {j : Nat} {x : UInt8} (hx : l[j]? = some x) : w.cell? ⟨b, j, none⟩ = some (.int .u8 (x.toNat : Int)) := by
  obtain ⟨c, fz, hb, _, hc⟩ := h
  simp [World.cell?, hb, hc j x hx]
theorem ByteRow.frozen {w : World} {b : Nat} {l : List UInt8} (h : ByteRow w b l) {j : Nat} (hj : j < l.length) : w.frozen? ⟨b, j, none⟩ = false := by
  obtain ⟨c, ⟨lo, hi⟩, hb, hl, _⟩ := h
  simp only [World.frozen?, hb, Bool.and_eq_false_iff, decide_eq_false_iff_not]
  left
  simp only at hl
  omega
theorem ByteRow.set {w : World} {b : Nat} {l : List UInt8} (h : ByteRow w b l) (j : Nat) (x : UInt8) : ByteRow (w.setCell ⟨b, j, none⟩ (.int .u8 (x.toNat : Int))) b (l.set j x) := by
  obtain ⟨c, fz, hb, hl, hc⟩ := h
  refine ⟨c.setIfInBounds j (.int .u8 (x.toNat : Int)), fz, by simp [World.setCell, Array.getElem?_modify, hb], by simpa using hl, ?_⟩
  intro k y hk
  rw [List.getElem?_set] at hk
  rw [Array.getElem?_setIfInBounds]
  by_cases e : j = k
  · subst e
    have hjl : j < l.length := by
      rcases Nat.lt_or_ge j l.length with h' | h'
      · exact h'
      · rw [if_pos rfl, if_neg (by omega)] at hk; cases hk
    rw [if_pos rfl, if_pos hjl] at hk
    have h2 := hc j l[j] (by simp)
    have := (Array.getElem?_eq_some_iff.1 h2).1
    rw [if_pos rfl, if_pos this]
    simp only [Option.some.injEq] at hk
    rw [hk]
  · rw [if_neg e] at hk ⊢
    exact hc k y hk
theorem byteRow_conv (w : World) (s : ByteArray) : ByteRow (Lib.bytesWorld w 5 s) w.heap.size s.data.toList := by
  refine ⟨_, _, Lib.bytesWorld_at_new w 5 s, ?_, fun j x hx => ?_⟩
  · simp [Lib.bytesCells]
  · have hj : j < s.size := by
      have := (List.getElem?_eq_some_iff.1 hx).1
      rwa [← Lib.size_eq] at this
    have := Lib.bytesWorld_cell w 5 s j hj
    simp only [World.cell?, Lib.bytesWorld_at_new] at this
    refine Eq.trans (Eq.trans ?_ this) (by simp [List.getD, hx])
    simp
theorem below_bytes (w : World) (s : ByteArray) : Below w.heap.size w (Lib.bytesWorld w 5 s) :=
  ⟨rfl, rfl, rfl, by rw [Lib.bytesWorld_size]; omega, fun k hk => Lib.bytesWorld_at_old w 5 s k hk⟩

theorem map_get {α : Type} (f : α → α) (l : List α) (i : Nat) (h : i < l.length) : ((l.take i).map f ++ l.drop i)[i]? = some l[i] := by
  have hl : ((l.take i).map f).length = i := by simp; omega
  rw [List.getElem?_append_right (by omega), hl, Nat.sub_self]
  simp [h]
theorem map_set {α : Type} (f : α → α) (l : List α) (i : Nat) (h : i < l.length) : ((l.take i).map f ++ l.drop i).set i (f l[i]) = (l.take (i + 1)).map f ++ l.drop (i + 1) := by
  have hl : ((l.take i).map f).length = i := by simp; omega
  rw [List.take_succ_eq_append_getElem h, List.map_append, List.drop_eq_getElem_cons h, List.set_append_right _ _ (by omega), hl, Nat.sub_self, List.set_cons_zero]
  simp only [List.map_cons, List.map_nil, List.append_assoc, List.cons_append, List.nil_append]

set_option maxHeartbeats 1000000 in
set_option maxRecDepth 100000 in
theorem folded_calls (s : ByteArray) (w : World) (hm : s.size ≤ 140737488355328) :
    Calls Tryz.prog 79 #[.string s] w fun e w' => e = .returned (.string (txt (s.data.toList.map Nm.foldb))) ∧ Below w.heap.size w w' := by
  have hcv := Lib.run_convert_string_bytes (P := Tryz.prog) w 9 47 5 s Tryz.underlying9 Tryz.underlying47 Tryz.underlying5
  have hrow := byteRow_conv w s
  have hbel := below_bytes w s
  have hsl : s.data.toList.length = s.size := (Lib.size_eq s).symm
  generalize Lib.bytesWorld w 5 s = W1 at *
  generalize grownCap w s.size 0 5 = cap at *
  have HSL := Lib.hid hsl
  clear hsl
  go_enter Tryz.func79, Tryz.ntmps79
  go_wp2
  clear hcv
  go_loopg [9] s.size (fun gg v9 wx => ∃ (i : Nat), v9 = .int .i64 (i : Int) ∧ i + gg = s.size ∧ ByteRow wx w.heap.size ((s.data.toList.take i).map Nm.foldb ++ s.data.toList.drop i) ∧ Below w.heap.size w wx)
  case atStart => exact ⟨0, rfl, by omega, by simpa using hrow, hbel⟩
  case round =>
    obtain ⟨i, rfl, hi, hR, hb⟩ := hrel
    clear hrow hbel
    cases gk with
    | zero =>
      have hcb : (convert 47 9 (.slice (some ⟨w.heap.size, 0, none⟩) s.size cap)).run Tryz.prog wr = .ok (.string (txt (s.data.toList.map Nm.foldb))) wr := by
        have h := run_convert_bytes_back (P := Tryz.prog) wr 47 9 5 ⟨w.heap.size, 0, none⟩ cap (s.data.toList.map Nm.foldb) Tryz.underlying47 Tryz.underlying5 Tryz.underlying9 (fun j hj => by
          rw [Addr.add_lit, Nat.zero_add]
          refine hR.cell ?_
          rw [List.take_of_length_le (by rw [HSL.out]; omega), List.drop_eq_nil_of_le (by rw [HSL.out]; omega), List.append_nil]
          exact List.getElem?_eq_getElem hj)
        rw [List.length_map, HSL.out] at h
        exact h
      go_wp2
      go_ret
      exact ⟨rfl, hb⟩
    | succ g =>
      have hlt : i < s.size := by omega
      have hget : ((s.data.toList.take i).map Nm.foldb ++ s.data.toList.drop i)[i]? = some s[i] := map_get Nm.foldb s.data.toList i (by rw [HSL.out]; exact hlt)
      have hcell := hR.cell hget
      have hfz := hR.frozen (j := i) (by simp; omega)
      have HG := Lib.hid hget
      clear hget
      go_wp2_with (go_at_call 106; refine (fold_calls s[i] _).mono ?_; rintro e w' ⟨rfl, rfl⟩)
      go_roundg g
      case measure => omega
      case rel =>
        refine ⟨i + 1, by simp, by omega, ?_, hb.setCell (Nat.le_refl _) _⟩
        have h := hR.set i (Nm.foldb s[i])
        have e : ((s.data.toList.take i).map Nm.foldb ++ s.data.toList.drop i).set i (Nm.foldb s[i]) = (s.data.toList.take (i + 1)).map Nm.foldb ++ s.data.toList.drop (i + 1) := map_set Nm.foldb s.data.toList i (by rw [HSL.out]; exact hlt)
        rw [← e]
        exact h
namespace Nm
def foldLs (ls : List (List UInt8)) : List (List UInt8) := ls.map (List.map foldb)
/-- A name, folded; of what is none: nothing. -/
def fold (l : List UInt8) : List UInt8 := match labels l with | some ls => wire (foldLs ls) | none => []
theorem foldLs_fit {ls : List (List UInt8)} (h : Fit ls) : Fit (foldLs ls) := by
  intro x hx
  obtain ⟨y, hy, rfl⟩ := List.mem_map.1 hx
  have := h y hy
  simpa using this
theorem enc_fold_length (ls : List (List UInt8)) : (enc (foldLs ls)).length = (enc ls).length := by
  induction ls with
  | nil => rfl
  | cons x r ih => simp only [foldLs, List.map_cons, enc, List.length_cons, List.length_append, List.length_map] at *; omega
theorem wire_fold_length (ls : List (List UInt8)) : (wire (foldLs ls)).length = (wire ls).length := by
  simp [wire, enc_fold_length]
theorem labels_fold {l : List UInt8} {ls : List (List UInt8)} (h : labels l = some ls) : labels (wire (foldLs ls)) = some (foldLs ls) := by
  obtain ⟨e, hf, hl⟩ := labels_some h
  exact labels_wire (foldLs_fit hf) (by rw [wire_fold_length, ← e]; exact hl)
theorem enc_fold_snoc (ls : List (List UInt8)) (k : Nat) (h : k < ls.length) : enc (foldLs (ls.take (k + 1))) = enc (foldLs (ls.take k)) ++ UInt8.ofNat ls[k].length :: ls[k].map foldb := by
  rw [List.take_succ_eq_append_getElem h, foldLs, List.map_append, enc_append]
  simp [foldLs, enc]
end Nm

theorem isb_below {T e : TypeId} {B b : Nat} {bs : List Value} {w w' : World} (h : Lib.IsBuilderF T e B b bs w) (hb : Below w.heap.size w w') : Lib.IsBuilderF T e B b bs w' := by
  have at_ : ∀ p, Lib.BuilderAtF T e B b p bs w → Lib.BuilderAtF T e B b p bs w' := fun p hp => by
    have hlt := hp.lt
    obtain ⟨hB, v, hbk, hown, hne⟩ := hp
    refine ⟨hB, v, (hb.block b hlt).trans hbk, ⟨hown.1, ?_⟩, hne⟩
    rcases hown.2 with hn | ⟨g, cap, cur, fz, hv, hbg, hg, rest⟩
    · exact .inl hn
    · exact .inr ⟨g, cap, cur, fz, hv, hbg, (hb.block g (Array.getElem?_eq_some_iff.1 hg).1).trans hg, rest⟩
  exact h.imp (at_ _) (at_ _)

theorem strCells_txt (l : List UInt8) : Lib.strCells (txt l) = Lib.byteCells l := by simp [Lib.strCells, Lib.byteCells, txt_data]

theorem fold_not (s : ByteArray) (h : Nm.labels s.data.toList = none) (w : World) (hm : s.size ≤ 140737488355328) :
    Calls Tryz.prog 59 #[.string s] w fun e w' => e = .returned (.string (txt [])) ∧ Below w.heap.size w w' := by
  have H := Lib.hid h
  clear h
  go_enter Tryz.func59, Tryz.ntmps59
  go_wp2_with (go_at_call 77; refine (labels_not s H.out _ hm).mono ?_; rintro e w1 ⟨rfl, hb⟩)
  go_ret
  exact ⟨rfl, hb⟩

set_option maxHeartbeats 1000000 in
set_option maxRecDepth 100000 in
theorem fold_yes (s : ByteArray) (ls : List (List UInt8)) (h : Nm.labels s.data.toList = some ls) (w : World) (hm : s.size ≤ 140737488355328) :
    Calls Tryz.prog 59 #[.string s] w fun e w' => e = .returned (.string (txt (Nm.wire (Nm.foldLs ls)))) ∧ Below w.heap.size w w' := by
  have hfacts := Nm.labels_some h
  have henc : (Nm.enc ls).length ≤ 254 := by have h2 := hfacts.2.2; rw [hfacts.1] at h2; simp only [Nm.wire, List.length_append, List.length_cons, List.length_nil] at h2; omega
  have hll : ls.length ≤ 254 := by have h1 := Nm.enc_length_pos ls; omega
  have HF := Lib.hid hfacts
  have H := Lib.hid h
  clear hfacts h
  go_enter Tryz.func59, Tryz.ntmps59
  go_wp2_with (go_at_call 77; refine (labels_yes s ls H.out _ hm).mono ?_; rintro e w1 ⟨v, rfl, hown, hb⟩; obtain ⟨ao, cap, rfl⟩ := own_form hown)
  go_loopg [17] ls.length (fun gg v17 wx => ∃ (k : Nat), v17 = .int .i64 (k : Int) ∧ k + gg = ls.length ∧ Lib.IsBuilderF 49 5 w1.heap.size w1.heap.size (Lib.byteCells (Nm.enc (Nm.foldLs (ls.take k)))) wx ∧ Below w1.heap.size w1 wx)
  case atStart => exact ⟨0, rfl, by omega, Lib.IsBuilderF.of (Lib.fresh_isBuilder 49 5 w1), (Below.refl _ w1).alloc (Nat.le_refl _) _⟩
  case round =>
    obtain ⟨k, rfl, hk, hI, hbx⟩ := hrel
    have hbs := hbx.size
    have hlen : (Lib.byteCells (Nm.enc (Nm.foldLs (ls.take k)))).length ≤ 254 := by
      rw [Lib.byteCells_length, Nm.enc_fold_length]
      have := Nm.enc_take_le ls k
      omega
    cases gk with
    | zero =>
      have hk0 : k = ls.length := by omega
      rw [List.take_of_length_le (by omega)] at hI hlen
      have HK := Lib.hid hk0
      clear hk0
      go_wp2_with (first | (go_at_call 25; refine (bld_string w1.heap.size w1.heap.size _ _ _ hI (by show _ + 1 ≤ _; omega) (by omega)).mono ?_; rintro e w2 ⟨rfl, h1, b1, _⟩; have hbs1 := b1.size; have h1' : Lib.BuilderAtF 49 5 w1.heap.size w1.heap.size (.pointer (some ⟨w1.heap.size, 0, none⟩)) (Lib.byteCells (Nm.wire (Nm.foldLs ls))) w2 := by (rw [Nm.wire, Lib.byteCells_append]; exact h1)) | (go_at_call 27; refine (Tryz.Builder_String_any_k w1.heap.size w1.heap.size _ _ (.inr h1') (by omega)).mono ?_; rintro e w3 ⟨rfl, _, b2, _⟩))
      go_ret
      exact ⟨rfl, (hb.trans (hbx.mono hb.size)).trans ((b1.trans b2).mono hb.size)⟩
    | succ g =>
      have hk' : k < ls.length := by omega
      obtain ⟨g1, cap1, e1, hg1, hlt1, hcell⟩ := own_at hown (by omega)
      cases e1
      have hfit := HF.out.2.1 ls[k] (List.getElem_mem hk')
      have hc1 : wr.cell? ⟨g1, k, none⟩ = some (.string (txt ls[k])) := by
        rw [hbx.cell (p := ⟨g1, k, none⟩) hlt1]
        exact hcell k _ (by simp [strs, hk'])
      have hts : (txt ls[k]).size = ls[k].length := txt_size _
      obtain ⟨t, ht⟩ : ∃ t : ByteArray, txt ls[k] = t := ⟨_, rfl⟩
      have htd : t.data.toList = ls[k] := by rw [← ht, txt_data]
      have htz : t.size = ls[k].length := by rw [← ht, txt_size]
      have htl : t.size ≤ 63 := by omega
      rw [ht] at hc1
      have HT := Lib.hid htd
      have HZ := Lib.hid htz
      clear htd htz ht hts hcell
      go_wp2_with (first | (go_at_call 64; refine (bld_byte w1.heap.size w1.heap.size _ _ _ hI (by omega) (by omega)).mono ?_; rintro e w2 ⟨rfl, h1, b1, _⟩; have hbs1 := b1.size; have B1 := hbx.trans b1) | (go_at_call 79; refine (folded_calls t _ (by omega)).mono ?_; rintro e w3 ⟨rfl, b2⟩; have hb2 := b2.size) | (go_at_call 25; refine (bld_string w1.heap.size w1.heap.size _ _ _ (isb_below (.inr h1) b2) (by rw [List.length_append, txt_size, List.length_map, ← Lib.size_eq]; simp; omega) (by omega)).mono ?_; rintro e w4 ⟨rfl, h4, b4, _⟩))
      go_roundg g
      case measure => omega
      case rel =>
        refine ⟨k + 1, by simp, by omega, .inr ?_, (B1.trans (b2.mono (by omega))).trans b4⟩
        rw [Nm.enc_fold_snoc ls k hk', Lib.byteCells_append]
        rw [strCells_txt, HT.out, HZ.out, List.append_assoc] at h4
        have e : Lib.byteCells (UInt8.ofNat ls[k].length :: ls[k].map Nm.foldb) = [Value.int .u8 (ls[k].length : Int)] ++ Lib.byteCells (ls[k].map Nm.foldb) := by simp [Lib.byteCells]; omega
        rw [e]
        exact h4
end Go.Proofs.YtolbfeggceemfaaGreatDoor
