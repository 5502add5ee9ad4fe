/-
  The walks of package octet. Condition: places and numbers are from 0 to 2^40; the text is of at most a million bytes.
-/
import Derived.Test.YtolbfeggceemfaaGreatDoorC5
namespace Go.Proofs.YtolbfeggceemfaaGreatDoor
open Go.RowKit
namespace Oc
/-- A number of bytes, the highest first. -/
def be : Nat → List UInt8 → Nat
  | a, [] => a
  | a, b :: r => be (a * 256 + b.toNat) r
/-- So many bytes from a place on, as a number. -/
def num (l : List UInt8) (i size : Nat) : Option Nat := if i + size ≤ l.length then some (be 0 ((l.drop i).take size)) else none
/-- Two bytes of a number. -/
def p16 (x : Nat) : List UInt8 := [UInt8.ofNat (x / 256), UInt8.ofNat x]
def p32 (x : Nat) : List UInt8 := p16 (x / 65536) ++ p16 x
theorem be_lt : ∀ (l : List UInt8) (a : Nat), be a l < (a + 1) * 256 ^ l.length
  | [], a => by
    show a < _
    rw [List.length_nil, Nat.pow_zero, Nat.mul_one]
    exact Nat.lt_succ_self a
  | b :: r, a => by
    have h := UInt8.toNat_lt b
    show be (a * 256 + b.toNat) r < _
    refine Nat.lt_of_lt_of_le (be_lt r _) ?_
    rw [List.length_cons, Nat.pow_succ, Nat.mul_comm (256 ^ r.length) 256, ← Nat.mul_assoc]
    exact Nat.mul_le_mul_right _ (by omega)
theorem num_lt {l : List UInt8} {i size x : Nat} (h : num l i size = some x) : x < 256 ^ size := by
  unfold num at h
  split at h
  · cases h
    have h1 := be_lt ((l.drop i).take size) 0
    rw [Nat.zero_add, Nat.one_mul, List.length_take, List.length_drop, Nat.min_eq_left (by omega)] at h1
    exact h1
  · cases h
theorem num_fit {l : List UInt8} {i size x : Nat} (h : num l i size = some x) : i + size ≤ l.length := by
  unfold num at h
  split at h
  · assumption
  · cases h
end Oc

theorem or_byte (x b : Nat) (hx : x < 1099511627776) (hb : b < 256) : bits BinOp.or IntKind.i64 ((x : Int) * 256) (b : Int) = ((x * 256 + b : Nat) : Int) := by
  have e : x * 256 + b = x * 256 ||| b := by
    have h := Nat.shiftLeft_add_eq_or_of_lt (show b < 2 ^ 8 from hb) x
    rw [Nat.shiftLeft_eq] at h
    exact h
  rw [e]
  have h1 : (BitVec.ofInt 64 ((x : Int) * 256)).toNat = x * 256 := by
    rw [BitVec.toNat_ofInt]
    omega
  have h2 : (BitVec.ofInt 64 (b : Int)).toNat = b := by
    rw [BitVec.toNat_ofInt]
    omega
  show IntKind.i64.wrap ((BitVec.ofInt 64 ((x : Int) * 256) ||| BitVec.ofInt 64 (b : Int)).toNat : Int) = _
  rw [BitVec.toNat_or, h1, h2]
  rw [← e]
  exact IntWalk.i64_in _ (by omega)

set_option maxHeartbeats 1000000 in
set_option maxRecDepth 100000 in
theorem octet_cut (s : ByteArray) (i n : Nat) (w : World) (_hs : s.size ≤ 1000000) (_hi : i ≤ 1000000) (h : s.size < i + n) :
    Calls Tryz.prog 139 #[.string s, .int .i64 (i : Int), .int .i64 (n : Int)] w fun e w' => e = .returned (.tuple #[.int .i64 0, .int .i64 0, .int .i64 300]) ∧ w = w' := by
  by_cases h1 : s.size < i
  · have q : ((s.size : Int) < (i : Int)) = True := by simp; omega
    go_enter Tryz.func139, Tryz.ntmps139
    go_wp2
    go_ret3
    exact ⟨rfl, rfl⟩
  · have q : ((s.size : Int) < (i : Int)) = False := by simp; omega
    have q2 : ((s.size : Int) - (i : Int) < (n : Int)) = True := by simp; omega
    go_enter Tryz.func139, Tryz.ntmps139
    go_wp2
    go_ret3
    exact ⟨rfl, rfl⟩

set_option maxHeartbeats 1000000 in
set_option maxRecDepth 100000 in
theorem octet_ok (s : ByteArray) (i n : Nat) (w : World) (hs : s.size ≤ 1000000) (hn : n ≤ 4) (h : i + n ≤ s.size) :
    Calls Tryz.prog 139 #[.string s, .int .i64 (i : Int), .int .i64 (n : Int)] w fun e w' => e = .returned (.tuple #[.int .i64 (Oc.be 0 ((s.data.toList.drop i).take n) : Int), .int .i64 ((i + n : Nat) : Int), .int .i64 0]) ∧ w = w' := by
  have q : ((s.size : Int) < (i : Int)) = False := by simp; omega
  have q2 : ((s.size : Int) - (i : Int) < (n : Int)) = False := by simp; omega
  obtain ⟨r, hr⟩ : ∃ r, Oc.be 0 ((s.data.toList.drop i).take n) = r := ⟨_, rfl⟩
  have hlen : ((s.data.toList.drop i).take n).length = n := by rw [List.length_take, List.length_drop, ← Lib.size_eq]; omega
  rw [hr]
  have HR := Lib.hid hr
  have HL := Lib.hid hlen
  clear hr hlen
  go_enter Tryz.func139, Tryz.ntmps139
  go_wp2
  clear q q2
  go_loopg [9, 28] n (fun gg v9 v28 wx => ∃ (k x : Nat), v9 = .int .i64 (x : Int) ∧ v28 = .int .i64 (k : Int) ∧ k + gg = n ∧ x < 256 ^ k ∧ Aside (Oc.be x (((s.data.toList.drop i).take n).drop k) = r) ∧ w = wx)
  case atStart => exact ⟨0, 0, rfl, rfl, by omega, by simp, HR.out, rfl⟩
  case round =>
    obtain ⟨k, x, rfl, rfl, hk, hx, HA, rfl⟩ := hrel
    cases gk with
    | zero =>
      have hxr : x = r := by
        have h1 := HA.out
        rw [List.drop_eq_nil_of_le (by rw [HL.out]; omega)] at h1
        exact h1
      clear hx
      go_wp2
      go_ret3
      rw [hxr]
      exact ⟨rfl, rfl⟩
    | succ g =>
      have hk4 : k < 4 := by omega
      have hx2 : x < 1099511627776 := by
        refine Nat.lt_of_lt_of_le hx (Nat.le_trans (Nat.pow_le_pow_right (by decide) (show k ≤ 4 by omega)) (by decide))
      obtain ⟨j, hj⟩ : ∃ j, j = i + k := ⟨_, rfl⟩
      have hj2 : (i : Int) + (k : Int) = (j : Int) := by omega
      have hjs : j < s.size := by omega
      have hb := UInt8.toNat_lt s[j]
      have ho := or_byte x s[j].toNat hx2 hb
      have hnext : ((s.data.toList.drop i).take n).drop k = s[j] :: ((s.data.toList.drop i).take n).drop (k + 1) := by
        rw [List.drop_eq_getElem_cons (by rw [HL.out]; omega)]
        congr 1
        rw [List.getElem_take, List.getElem_drop]
        simp only [hj]
        rfl
      have hx3 : x * 256 + s[j].toNat < 256 ^ (k + 1) := by
        rw [Nat.pow_succ]
        have : (x + 1) * 256 ≤ 256 ^ k * 256 := Nat.mul_le_mul_right _ hx
        omega
      have HN := Lib.hid hnext
      have HX := Lib.hid hx3
      have HJ := Lib.hid hj
      clear hnext hx3 hx hj
      go_wp2
      go_roundg g
      case measure => omega
      case rel =>
        refine ⟨k + 1, x * 256 + s[j].toNat, rfl, by simp, by omega, HX.out, ?_, rfl⟩
        have h1 := HA.out
        rw [HN.out] at h1
        exact h1

theorem number_some (s : ByteArray) (i n x : Nat) (w : World) (hs : s.size ≤ 1000000) (hn : n ≤ 4) (h : Oc.num s.data.toList i n = some x) :
    Calls Tryz.prog 139 #[.string s, .int .i64 (i : Int), .int .i64 (n : Int)] w fun e w' => e = .returned (.tuple #[.int .i64 (x : Int), .int .i64 ((i + n : Nat) : Int), .int .i64 0]) ∧ w = w' := by
  have hf := Oc.num_fit h
  rw [← Lib.size_eq] at hf
  rw [Oc.num, if_pos (by rw [← Lib.size_eq]; exact hf)] at h
  have := octet_ok s i n w hs hn hf
  rw [Option.some.inj h] at this
  exact this
theorem number_none (s : ByteArray) (i n : Nat) (w : World) (hs : s.size ≤ 1000000) (hi : i ≤ 1000000) (h : Oc.num s.data.toList i n = none) :
    Calls Tryz.prog 139 #[.string s, .int .i64 (i : Int), .int .i64 (n : Int)] w fun e w' => e = .returned (.tuple #[.int .i64 0, .int .i64 0, .int .i64 300]) ∧ w = w' := by
  refine octet_cut s i n w hs hi ?_
  rcases Nat.lt_or_ge s.size (i + n) with h1 | h1
  · exact h1
  · rw [Oc.num, if_pos (by rw [← Lib.size_eq]; exact h1)] at h
    cases h

/-- What a reader of numbers hands back. -/
def NumPost (o : Option Nat) (i n : Nat) (w : World) (e : Ending) (w' : World) : Prop :=
  w = w' ∧ match o with
    | some x => e = .returned (.tuple #[.int .i64 (x : Int), .int .i64 ((i + n : Nat) : Int), .int .i64 0])
    | none => e = .returned (.tuple #[.int .i64 0, .int .i64 0, .int .i64 300])
set_option maxHeartbeats 1000000 in
theorem u16_calls (s : ByteArray) (i : Nat) (w : World) (hs : s.size ≤ 1000000) (hi : i ≤ 1000000) : Calls Tryz.prog 111 #[.string s, .int .i64 (i : Int)] w (NumPost (Oc.num s.data.toList i 2) i 2 w) := by
  cases h : Oc.num s.data.toList i 2 with
  | some x =>
    have hc := number_some s i 2 x w hs (by decide) h
    go_enter Tryz.func111, Tryz.ntmps111
    go_wp2_with (go_at_call 139; refine hc.mono ?_; rintro e w1 ⟨rfl, rfl⟩)
    go_ret3
    exact ⟨rfl, rfl⟩
  | none =>
    have hc := number_none s i 2 w hs hi h
    go_enter Tryz.func111, Tryz.ntmps111
    go_wp2_with (go_at_call 139; refine hc.mono ?_; rintro e w1 ⟨rfl, rfl⟩)
    go_ret3
    exact ⟨rfl, rfl⟩
set_option maxHeartbeats 1000000 in
theorem u32_calls (s : ByteArray) (i : Nat) (w : World) (hs : s.size ≤ 1000000) (hi : i ≤ 1000000) : Calls Tryz.prog 115 #[.string s, .int .i64 (i : Int)] w (NumPost (Oc.num s.data.toList i 4) i 4 w) := by
  cases h : Oc.num s.data.toList i 4 with
  | some x =>
    have hc := number_some s i 4 x w hs (by decide) h
    go_enter Tryz.func115, Tryz.ntmps115
    go_wp2_with (go_at_call 139; refine hc.mono ?_; rintro e w1 ⟨rfl, rfl⟩)
    go_ret3
    exact ⟨rfl, rfl⟩
  | none =>
    have hc := number_none s i 4 w hs hi h
    go_enter Tryz.func115, Tryz.ntmps115
    go_wp2_with (go_at_call 139; refine hc.mono ?_; rintro e w1 ⟨rfl, rfl⟩)
    go_ret3
    exact ⟨rfl, rfl⟩

theorem conv_two (w : World) (g : Nat) (a b : UInt8) (h0 : w.cell? ⟨g, 0, none⟩ = some (.int .u8 (a.toNat : Int))) (h1 : w.cell? ⟨g, 1, none⟩ = some (.int .u8 (b.toNat : Int))) :
    (convert 47 9 (.slice (some ⟨g, 0, none⟩) 2 2)).run Tryz.prog w = .ok (.string (txt [a, b])) w :=
  run_convert_bytes_back (P := Tryz.prog) w 47 9 5 ⟨g, 0, none⟩ 2 [a, b] Tryz.underlying47 Tryz.underlying5 Tryz.underlying9 (fun j hj => by
    match j, hj with
    | 0, _ => exact h0
    | 1, _ => exact h1)

set_option maxHeartbeats 1000000 in
set_option maxRecDepth 100000 in
theorem put16_calls (x : Nat) (w : World) (_hx : x ≤ 1099511627776) : Calls Tryz.prog 136 #[.int .i64 (x : Int)] w fun e w' => e = .returned (.string (txt (Oc.p16 x))) ∧ Below w.heap.size w w' := by
  obtain ⟨a, ha⟩ : ∃ a : UInt8, UInt8.ofNat (x / 256) = a := ⟨_, rfl⟩
  obtain ⟨b, hb⟩ : ∃ b : UInt8, UInt8.ofNat x = b := ⟨_, rfl⟩
  have h1 : (x : Int) / 256 % 256 = (a.toNat : Int) := by
    rw [← ha, UInt8.toNat_ofNat']; omega
  have h2 : (x : Int) % 256 = (b.toNat : Int) := by
    rw [← hb, UInt8.toNat_ofNat']; omega
  have hp : Oc.p16 x = [a, b] := by rw [← ha, ← hb]; rfl
  have hcv : (convert 47 9 (.slice (some ⟨w.heap.size, 0, none⟩) 2 2)).run Tryz.prog (w.alloc (.cells #[.int .u8 (a.toNat : Int), .int .u8 (b.toNat : Int)] 5)) = .ok (.string (txt [a, b])) (w.alloc (.cells #[.int .u8 (a.toNat : Int), .int .u8 (b.toNat : Int)] 5)) :=
    conv_two _ _ a b (by rw [Lib.cell_of_heap (heap_alloc_new w _)]; rfl) (by rw [Lib.cell_of_heap (heap_alloc_new w _)]; rfl)
  rw [hp]
  have HA := Lib.hid ha
  have HB := Lib.hid hb
  clear ha hb hp
  go_enter Tryz.func136, Tryz.ntmps136
  go_wp2
  go_ret
  exact ⟨rfl, (Below.refl _ w).alloc (Nat.le_refl _) _⟩

set_option maxHeartbeats 1000000 in
set_option maxRecDepth 100000 in
theorem put32_calls (x : Nat) (w : World) (hx : x ≤ 1099511627776) : Calls Tryz.prog 135 #[.int .i64 (x : Int)] w fun e w' => e = .returned (.string (txt (Oc.p32 x))) ∧ Below w.heap.size w w' := by
  obtain ⟨y, hy⟩ : ∃ y, x / 65536 = y := ⟨_, rfl⟩
  have hy2 : (x : Int) / 65536 = (y : Int) := by omega
  have c1 := fun W => put16_calls y W (by omega)
  have c2 := fun W => put16_calls x W hx
  have hr : txt (Oc.p32 x) = txt (Oc.p16 y) ++ txt (Oc.p16 x) := by rw [Oc.p32, hy, txt_append]
  have s1 : (txt (Oc.p16 y)).size = 2 := by rw [txt_size]; rfl
  have s2 : (txt (Oc.p16 x)).size = 2 := by rw [txt_size]; rfl
  generalize txt (Oc.p16 y) = a at *
  generalize txt (Oc.p16 x) = b at *
  rw [hr]
  have C1 := Lib.hid c1
  have C2 := Lib.hid c2
  clear c1 c2 hr hy
  go_enter Tryz.func135, Tryz.ntmps135
  go_wp2_with fail
  refine (C1.out _).mono ?_
  rintro e w1 ⟨rfl, hb1⟩
  go_wp2_with fail
  refine (C2.out _).mono ?_
  rintro e w2 ⟨rfl, hb2⟩
  go_wp2
  go_ret
  exact ⟨rfl, hb1.trans (hb2.mono hb1.size)⟩
end Go.Proofs.YtolbfeggceemfaaGreatDoor
