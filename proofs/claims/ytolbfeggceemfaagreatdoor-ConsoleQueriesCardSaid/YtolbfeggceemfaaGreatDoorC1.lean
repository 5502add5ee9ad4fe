/-
  The walks of console.cutLeft and cutRight at the ten digits; the library's variables that the program reads, and that they stay. Condition: the text is of at most 2^47 bytes; the variables read as the program's text lays them.
-/
import Derived.Test.YtolbfeggceemfaaGreatDoorB0
import Derived.WalkSmall
import Derived.Lib.TrimAscii
namespace Go.Proofs.YtolbfeggceemfaaGreatDoor
open Go.RowKit

/-- The ten digits. -/
def digs : ByteArray := ⟨#[48, 49, 50, 51, 52, 53, 54, 55, 56, 57]⟩
theorem digs_size : digs.size = 10 := rfl
theorem digs_at (j : Nat) (h : j < digs.size) : digs[j].toNat = 48 + j := by
  have h' : j < 10 := h
  match j, h' with
  | 0, _ => rfl
  | 1, _ => rfl
  | 2, _ => rfl
  | 3, _ => rfl
  | 4, _ => rfl
  | 5, _ => rfl
  | 6, _ => rfl
  | 7, _ => rfl
  | 8, _ => rfl
  | 9, _ => rfl
  | j + 10, h => omega

/-- Is a rune one of the first so many digits? -/
def inD (c : Int) (j : Nat) : Bool := decide (48 ≤ c ∧ c < 48 + (j : Int))
theorem inD_step (c : Int) (j : Nat) : inD c (j + 1) = (inD c j || c == 48 + (j : Int)) := by
  rw [Bool.eq_iff_iff]
  simp [inD]
  omega
theorem inD_zero (c : Int) : inD c 0 = false := by
  simp [inD]

theorem next_digs (W : World) (k j : Nat) (hk : W.heap[k]? = some (.stringIter digs j)) (h : j < 10) (ty : TypeId) :
    (Instr.next (.pointer (some ⟨k, 0, none⟩)) true ty).run Tryz.prog W = .ok (.tuple #[.bool true, .int .i64 j, .int .i32 (48 + (j : Int))]) (W.iterAt k digs (j + 1)) := by
  have hj : j < digs.size := h
  have e := digs_at j hj
  rw [Lib.run_next_ascii_at W k digs j ty hk hj (by omega), e]
  simp

/-- Is a byte a digit? -/
def isDig (b : UInt8) : Bool := decide (48 ≤ b.toNat ∧ b.toNat ≤ 57)

set_option maxHeartbeats 1000000 in
set_option maxRecDepth 100000 in
theorem cutLeft_calls (s : ByteArray) (w : World) (hm : s.size ≤ 140737488355328) :
    Calls Tryz.prog 53 #[.string s, .string digs] w fun e w' => e = .returned (.string (txt (s.data.toList.dropWhile isDig))) ∧ Below w.heap.size w w' := by
  go_enter Tryz.func53, Tryz.ntmps53
  go_wp2
  go_loopg [] (s.size + 1) (fun gg wx => ∃ p : Nat, wx.heap[w.heap.size]? = some (.stringIter s p) ∧ s.size < p + gg ∧ p ≤ s.size ∧ Below w.heap.size w wx ∧ Aside ((s.data.toList.drop p).dropWhile isDig = s.data.toList.dropWhile isDig))
  case atStart =>
    refine ⟨0, by simpa using World.iter_heap w s 0, by omega, by omega, (Below.refl _ w).alloc (Nat.le_refl _) _, rfl⟩
  case round =>
    obtain ⟨p, hit, hpg, hps, hb, HA⟩ := hrel
    have hsz : w.heap.size < wr.heap.size := (Array.getElem?_eq_some_iff.1 hit).1
    by_cases hp : p < s.size
    · have hnx : ∀ ty, (Instr.next (.pointer (some ⟨w.heap.size, 0, none⟩)) true ty).run Tryz.prog wr = _ := fun ty => Lib.run_next_any_at wr w.heap.size s p ty hit hp
      have hit2 := fun q => Lib.iterAt_heap wr w.heap.size s p q hit
      have hb2 := fun q => Lib.below_iterAt hb (k := w.heap.size) (Nat.le_refl _) s q
      have hz2 := fun q => Lib.iterAt_size wr w.heap.size s q
      generalize hq : p + (Utf8.decode s p).2 = q at hnx
      have hdec : (s[p].toNat < 128 ∧ (Utf8.decode s p).1 = s[p].toNat ∧ q = p + 1) ∨ (128 ≤ s[p].toNat ∧ 128 ≤ (Utf8.decode s p).1) := by
        by_cases ha : s[p].toNat < 128
        · rw [decode_ascii s p hp ha] at hq ⊢
          exact .inl ⟨ha, rfl, hq.symm⟩
        · exact .inr ⟨by omega, (decode_high s p hp (by omega)).1⟩
      have hle := decode_le s p
      generalize (Utf8.decode s p).1 = c at *
      have hdrop : s.data.toList.drop p = s[p] :: s.data.toList.drop (p + 1) := by
        rw [List.drop_eq_getElem_cons (by simpa using hp)]; rfl
      replace hit2 := hit2 q
      replace hb2 := hb2 q
      replace hz2 := hz2 q
      have HDR := Lib.hid hdrop
      have HDE := Lib.hid hdec
      clear hdrop hdec hq hit
      obtain ⟨wo, hwo⟩ : ∃ wo : World, wr.iterAt w.heap.size s q = wo := ⟨_, rfl⟩
      rw [hwo] at hnx hit2 hb2 hz2
      have HZ2 := Lib.hid hz2
      clear hwo hz2
      go_wp2
      clear hnx
      go_loopg [7] 10 (fun g2 v7 wx => ∃ j : Nat, j + g2 = 10 ∧ v7 = .bool (inD (c : Int) j) ∧ wx.heap[wo.heap.size]? = some (.stringIter digs j) ∧ Below wo.heap.size wo wx)
      case atStart => exact ⟨0, by omega, by rw [inD_zero], by simpa using World.iter_heap wo digs 0, (Below.refl _ wo).alloc (Nat.le_refl _) _⟩
      case round =>
        obtain ⟨j, hj, rfl, hji, hjb⟩ := hrel
        cases gk with
        | zero =>
          have hne := fun ty => Lib.run_next_end_at (P := Tryz.prog) wr wo.heap.size digs j ty hji (by rw [digs_size]; omega)
          have hj10 : j = 10 := by omega
          subst hj10
          have hB := (hb2.trans (hjb.mono (by rw [HZ2.out]; omega)))
          go_wp2
          · rename_i hno
            have hnd : isDig s[p] = false := by
              simp only [isDig, decide_eq_false_iff_not]
              simp [inD] at hno
              rcases HDE.out with ⟨_, h2, _⟩ | ⟨h1, _⟩
              · omega
              · omega
            have hfin : s.extract p s.size = txt (s.data.toList.dropWhile isDig) := by
              rw [← HA.out, HDR.out, List.dropWhile_cons, hnd]
              refine ByteArray.ext (Array.toList_inj.1 ?_)
              rw [Lib.extract_to_end, HDR.out, txt_data]
              rfl
            go_ret
            rw [← hfin]
            exact ⟨rfl, hB⟩
          · rename_i hyes
            have hin : 48 ≤ (c : Int) ∧ (c : Int) < 58 := by simp [inD] at hyes; omega
            have hd : s[p].toNat < 128 ∧ c = s[p].toNat ∧ q = p + 1 := by
              rcases HDE.out with h | ⟨_, h2⟩
              · exact h
              · omega
            have hnd : isDig s[p] = true := by
              simp only [isDig, decide_eq_true_iff]
              omega
            obtain ⟨_, _, rfl⟩ := hd
            go_roundg (gk - 1)
            case measure => omega
            case rel =>
              refine ⟨p + 1, (hjb.block w.heap.size (by rw [HZ2.out]; omega)).trans hit2, by omega, by omega, hB, ?_⟩
              show _ = _
              rw [← HA.out, HDR.out, List.dropWhile_cons, hnd]
              rfl
        | succ g3 =>
          have hnj := fun ty => next_digs wr wo.heap.size j hji (by omega) ty
          have hit3 := Lib.iterAt_heap wr wo.heap.size digs j (j + 1) hji
          have hb3 := Lib.below_iterAt hjb (k := wo.heap.size) (Nat.le_refl _) digs (j + 1)
          go_wp2
          · rename_i hin
            go_roundg g3
            case measure => omega
            case rel => exact ⟨j + 1, by omega, by rw [inD_step, hin]; rfl, hit3, hb3⟩
          · rename_i hin
            go_roundg g3
            case measure => omega
            case rel => exact ⟨j + 1, by omega, by rw [inD_step, Bool.eq_false_iff.2 hin]; rfl, hit3, hb3⟩
    · have hnx : ∀ ty, (Instr.next (.pointer (some ⟨w.heap.size, 0, none⟩)) true ty).run Tryz.prog wr = _ := fun ty => Lib.run_next_end_at wr w.heap.size s p ty hit hp
      go_wp2
      go_ret
      rw [← HA.out, List.drop_eq_nil_of_le (by rw [← Lib.size_eq]; omega)]
      exact ⟨rfl, hb⟩

/-! ### The library's variables that the program reads -/
structure Vars (w : World) : Prop where
  len : ∃ m, w.cell? ⟨0, 0, none⟩ = some (.int .i64 m)
  esyn : ∃ te pe, w.cell? ⟨1, 0, none⟩ = some (.iface te pe)
  eran : ∃ te pe, w.cell? ⟨2, 0, none⟩ = some (.iface te pe)
  pow : Lib.TabIs Tryz.prog w "internal/strconv.uint64pow10" .u64 Lib.pow10Tab
  utf : Lib.Utf8Tabs 4 5 w
  size : 8 ≤ w.heap.size

theorem Tryz.gpow : Tryz.prog.globalNamed "internal/strconv.uint64pow10" = some 3 := by kernel_rfl

theorem Vars.below {B : Nat} {w w' : World} (h : Vars w) (hb : Below B w w') (hB : 8 ≤ B) : Vars w' where
  len := h.len.imp fun m hm => (hb.cell (p := ⟨0, 0, none⟩) (by show 0 < B; omega)).trans hm
  esyn := h.esyn.imp fun _ h => h.imp fun _ h => (hb.cell (p := ⟨1, 0, none⟩) (by show 1 < B; omega)).trans h
  eran := h.eran.imp fun _ h => h.imp fun _ h => (hb.cell (p := ⟨2, 0, none⟩) (by show 2 < B; omega)).trans h
  pow := by
    have h1 := h.pow
    unfold Lib.TabIs World.var? at *
    rw [Tryz.gpow] at *
    simp only [Option.bind_some] at *
    rw [hb.block 3 (by omega)]
    exact h1
  utf := ⟨fun c hc => (hb.cell (p := ⟨4, c, none⟩) (by show 4 < B; omega)).trans (h.utf.1 c hc), fun i hi => ⟨(hb.cell (p := ⟨5, 2 * i, none⟩) (by show 5 < B; omega)).trans (h.utf.2 i hi).1, (hb.cell (p := ⟨5, 2 * i + 1, none⟩) (by show 5 < B; omega)).trans (h.utf.2 i hi).2⟩⟩
  size := Nat.le_trans h.size hb.size

/-! ### cutRight -/
/-- Bytes without the digits at their end. -/
def rdw (l : List UInt8) : List UInt8 := (l.reverse.dropWhile isDig).reverse
theorem rdw_nil : rdw [] = [] := rfl
theorem rdw_yes (r : List UInt8) (b : UInt8) (h : isDig b = true) : rdw (r ++ [b]) = rdw r := by simp [rdw, h]
theorem rdw_no (r : List UInt8) (b : UInt8) (h : isDig b = false) : rdw (r ++ [b]) = r ++ [b] := by simp [rdw, h]

theorem lastL_high (r : List UInt8) (b : UInt8) (h : 128 ≤ b.toNat) : 128 ≤ (Lib.decodeLastL (r ++ [b])).1 := by
  have hg : (r ++ [b]).getD ((r ++ [b]).length - 1) 0 = b := by simp [List.getD]
  unfold Lib.decodeLastL
  rw [if_neg (by simp), hg, if_neg (by omega)]
  simp only
  split
  · rename_i hw
    have hst : Lib.lastStart (r ++ [b]) < (r ++ [b]).length := by
      unfold Lib.lastStart
      simp only [List.length_append, List.length_cons, List.length_nil]
      repeat' split
      all_goals omega
    generalize Lib.lastStart (r ++ [b]) = st at *
    have hd : (r ++ [b]).drop st = (r ++ [b])[st] :: (r ++ [b]).drop (st + 1) := List.drop_eq_getElem_cons hst
    by_cases ha : ((r ++ [b])[st]).toNat < 128
    · rw [hd, Lib.decodeL_ascii _ _ ha] at hw
      simp only at hw
      have : st = r.length := by simp at hw; omega
      subst this
      simp at ha
      omega
    · rw [hd]
      exact (decode_high ⟨((r ++ [b])[st] :: (r ++ [b]).drop (st + 1)).toArray⟩ 0 (by simp [ByteArray.size]; simp at hst; omega) (by
        show 128 ≤ ((r ++ [b])[st]).toNat
        omega)).1
  · decide

set_option maxHeartbeats 1000000 in
set_option maxRecDepth 100000 in
theorem cutRight_calls (s : ByteArray) (w : World) (hm : s.size ≤ 140737488355328) (hV : Vars w) :
    Calls Tryz.prog 52 #[.string s, .string digs] w fun e w' => e = .returned (.string (txt (rdw s.data.toList))) ∧ Below w.heap.size w w' := by
  have HV := Lib.hid hV
  have hV8 := hV.size
  clear hV
  go_enter Tryz.func52, Tryz.ntmps52
  go_wp2
  go_loopg [0] s.size (fun gg v0 wx => ∃ t : ByteArray, v0 = .string t ∧ t.size ≤ gg ∧ t.size ≤ s.size ∧ Below w.heap.size w wx ∧ Aside (rdw t.data.toList = rdw s.data.toList))
  case atStart => exact ⟨s, rfl, by omega, by omega, Below.refl _ _, rfl⟩
  case round =>
    obtain ⟨t, rfl, htg, hts, hb, HA⟩ := hrel
    have hbs := hb.size
    by_cases h0 : t.size = 0
    · have ht0 : t.data.toList = [] := List.eq_nil_of_length_eq_zero (by rw [← Lib.size_eq]; exact h0)
      have HT := Lib.hid ht0
      have h1 : ¬ 0 < t.size := by omega
      clear h0 ht0
      go_wp2
      go_ret
      rw [← HA.out, HT.out, ← txt_of t, HT.out]
      exact ⟨rfl, hb⟩
    · have h1 : 0 < t.size := by omega
      obtain ⟨r, b, hrb⟩ : ∃ r b, t.data.toList = r ++ [b] := by
        have : t.data.toList ≠ [] := fun e => by rw [Lib.size_eq, e] at h1; simp at h1
        exact ⟨_, _, (List.dropLast_concat_getLast this).symm⟩
      have hlen : t.size = r.length + 1 := by rw [Lib.size_eq, hrb]; simp
      have hdec : (b.toNat < 128 ∧ Lib.decodeLastL t.data.toList = (b.toNat, 1)) ∨ (128 ≤ b.toNat ∧ 128 ≤ (Lib.decodeLastL t.data.toList).1) := by
        rw [hrb]
        by_cases hb : b.toNat < 128
        · exact .inl ⟨hb, Lib.decodeLastL_ascii r b hb⟩
        · exact .inr ⟨by omega, lastL_high r b (by omega)⟩
      have hr1 := Lib.decodeLastL_rune t.data.toList
      have cd := fun W (hW : Vars W) => Tryz.utf8_DecodeLastRuneInString t W (by omega) hW.utf
      generalize Lib.decodeLastL t.data.toList = cn at *
      obtain ⟨c, n⟩ := cn
      simp only at hdec hr1 cd
      have HD := Lib.hid hdec
      have HRB := Lib.hid hrb
      have HL := Lib.hid hlen
      have CD := Lib.hid cd
      clear hdec hrb hlen cd h0
      go_wp2_with (go_at_call 73; refine (CD.out _ (HV.out.below hb hV8)).mono ?_; rintro e wo ⟨rfl, hbo⟩)
      have hB2 := hb.trans (hbo.mono hbs)
      have hbos := hbo.size
      go_loopg [7] 10 (fun g2 v7 wx => ∃ j : Nat, j + g2 = 10 ∧ v7 = .bool (inD (c : Int) j) ∧ wx.heap[wo.heap.size]? = some (.stringIter digs j) ∧ Below wo.heap.size wo wx)
      case atStart => exact ⟨0, by omega, by rw [inD_zero], by simpa using World.iter_heap wo digs 0, (Below.refl _ wo).alloc (Nat.le_refl _) _⟩
      case round =>
        obtain ⟨j, hj, rfl, hji, hjb⟩ := hrel
        cases gk with
        | zero =>
          have hne := fun ty => Lib.run_next_end_at (P := Tryz.prog) wr wo.heap.size digs j ty hji (by rw [digs_size]; omega)
          have hj10 : j = 10 := by omega
          subst hj10
          have hB := (hB2.trans (hjb.mono (by omega)))
          by_cases hin : 48 ≤ c ∧ c < 58
          · have hyes : inD (c : Int) 10 = true := by simp [inD]; omega
            have hd : n = 1 ∧ c = b.toNat := by
              rcases HD.out with ⟨_, e⟩ | ⟨_, h2⟩
              · exact ⟨congrArg Prod.snd e, congrArg Prod.fst e⟩
              · omega
            obtain ⟨rfl, hcb⟩ := hd
            have hdig : isDig b = true := by simp only [isDig, decide_eq_true_iff]; omega
            have HCB := Lib.hid hcb
            clear hcb hin
            go_wp2
            go_roundg (gk - 1)
            case measure => omega
            case rel =>
              have hex : (t.extract 0 (t.size - 1)).data.toList = r := by
                rw [Lib.extract_data, HRB.out, HL.out]
                simp
              have hes : (t.extract 0 (t.size - 1)).size = r.length := by rw [Lib.size_eq, hex]
              refine ⟨t.extract 0 (t.size - 1), ?_, by rw [hes]; have := HL.out; omega, by rw [hes]; have := HL.out; omega, hB, ?_⟩
              · rfl
              · show _ = _
                rw [← HA.out, hex, HRB.out, rdw_yes _ _ hdig]
          · have hno : inD (c : Int) 10 = false := by simp [inD]; omega
            have hdig : isDig b = false := by
              simp only [isDig, decide_eq_false_iff_not]
              rcases HD.out with ⟨_, e⟩ | ⟨h2, _⟩
              · have : c = b.toNat := congrArg Prod.fst e
                omega
              · omega
            have hfin : txt (rdw s.data.toList) = t := by rw [← HA.out, HRB.out, rdw_no _ _ hdig, ← HRB.out, txt_of]
            have HF := Lib.hid hfin
            clear hfin hin
            go_wp2
            go_ret
            rw [HF.out]
            exact ⟨rfl, hB⟩
        | succ g3 =>
          have hnj := fun ty => next_digs wr wo.heap.size j hji (by omega) ty
          have hit3 := Lib.iterAt_heap wr wo.heap.size digs j (j + 1) hji
          have hb3 := Lib.below_iterAt hjb (k := wo.heap.size) (Nat.le_refl _) digs (j + 1)
          go_wp2
          · rename_i hin
            go_roundg g3
            case measure => omega
            case rel => exact ⟨j + 1, by omega, by rw [inD_step, hin]; rfl, hit3, hb3⟩
          · rename_i hin
            go_roundg g3
            case measure => omega
            case rel => exact ⟨j + 1, by omega, by rw [inD_step, Bool.eq_false_iff.2 hin]; rfl, hit3, hb3⟩
end Go.Proofs.YtolbfeggceemfaaGreatDoor
