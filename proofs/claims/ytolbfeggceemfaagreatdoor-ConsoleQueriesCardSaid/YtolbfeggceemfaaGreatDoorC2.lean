/-
  strconv.Atoi at this program; numbers as words spell them; the block of a command line words. Condition: the word is of at most a million bytes.
-/
import Derived.Test.YtolbfeggceemfaaGreatDoorC1
import Derived.Test.YtolbfeggceemfaaGreatDoorR3
import Derived.Deep.RegionHeld3
namespace Go.Proofs.YtolbfeggceemfaaGreatDoor
open Go.RowKit

/-! ### strconv.Atoi -/
theorem atoi_ok (s : ByteArray) (w : World) (hm : s.size ≤ 1000000) (v : Int) (h : Lib.atoiAll s.data.toList = .ok v) :
    Calls Tryz.prog 51 #[.string s] w fun e w' => e = .returned (.tuple #[.int .i64 v, .nilIface]) ∧ Below w.heap.size w w' := by
  refine (Tryz.strconv_Atoi_ok s (by omega) v h w).mono ?_
  rintro e w' ⟨he, rfl | ⟨t, rfl⟩⟩
  · exact ⟨he, Below.refl _ _⟩
  · exact ⟨he, below_bytes _ _⟩
theorem atoi_syn (s : ByteArray) (w : World) (hm : s.size ≤ 1000000) (hV : Vars w) (h : s.data.toList = []) :
    Calls Tryz.prog 51 #[.string s] w fun e w' => ∃ p, e = .returned (.tuple #[.int .i64 0, .iface 135 p]) ∧ Below w.heap.size w w' := by
  obtain ⟨te, pe, hv⟩ := hV.esyn
  refine (Any.strconv_Atoi_syntax Tryz.laysC172 s (by omega) (by rw [h]; rfl) _ w hv (.inr ⟨te, pe, rfl⟩)).mono ?_
  rintro e w' ⟨N, he, _, _, hb⟩
  exact ⟨_, he, hb⟩
theorem atoi_any (s : ByteArray) (w : World) (hm : s.size ≤ 1000000) (hV : Vars w) :
    Calls Tryz.prog 51 #[.string s] w fun e w' => ∃ x er, e = .returned (.tuple #[.int .i64 x, er]) ∧ Below w.heap.size w w' := by
  rcases h : Lib.atoiAll s.data.toList with v | _ | _
  · exact (atoi_ok s w hm v h).mono fun e w' ⟨he, hb⟩ => ⟨_, _, he, hb⟩
  · obtain ⟨te, pe, hv⟩ := hV.esyn
    refine (Any.strconv_Atoi_syntax Tryz.laysC172 s (by omega) h _ w hv (.inr ⟨te, pe, rfl⟩)).mono ?_
    rintro e w' ⟨N, he, _, _, hb⟩
    exact ⟨_, _, he, hb⟩
  · obtain ⟨te, pe, hv⟩ := hV.eran
    refine (Tryz.strconv_Atoi_range s (by omega) h _ w hv (.inr ⟨te, pe, rfl⟩)).mono ?_
    rintro e w' ⟨N, he, _, _, hb⟩
    exact ⟨_, _, he, hb⟩

namespace Nu
/-- What digits spell. -/
def val (a : Nat) : List UInt8 → Nat
  | [] => a
  | c :: r => val (a * 10 + (c.toNat - 48)) r
/-- A word as a number: one to ten digits. -/
def number (l : List UInt8) : Option Nat := if 1 ≤ l.length ∧ l.length ≤ 10 ∧ l.all isDig = true then some (val 0 l) else none

theorem parse_val : ∀ (l : List UInt8) (a : Nat), l.all isDig = true → (a + 1) * 10 ^ l.length ≤ 1000000000000000000 → Lib.parseUint10 a l = .ok (val a l)
  | [], _, _, _ => rfl
  | c :: r, a, h, hb => by
    simp only [List.all_cons, Bool.and_eq_true] at h
    have hc : 48 ≤ c.toNat ∧ c.toNat ≤ 57 := by simpa [isDig] using h.1
    have hp : 1 ≤ 10 ^ r.length := Nat.one_le_iff_ne_zero.2 (by simp)
    have hm : (a + 1) * 10 * 10 ^ r.length ≤ 1000000000000000000 := by
      rw [List.length_cons, Nat.pow_succ] at hb
      rw [Nat.mul_assoc, Nat.mul_comm 10]
      exact hb
    have h1 : (a + 1) * 10 ≤ (a + 1) * 10 * 10 ^ r.length := Nat.le_mul_of_pos_right _ hp
    rw [Lib.parseUint10, if_pos hc, if_neg (by omega), if_neg (by omega)]
    refine parse_val r _ h.2 (Nat.le_trans (Nat.mul_le_mul_right _ ?_) hm)
    omega

theorem val_lt : ∀ (l : List UInt8) (a : Nat), l.all isDig = true → val a l < (a + 1) * 10 ^ l.length
  | [], a, _ => by
    show a < _
    rw [List.length_nil, Nat.pow_zero, Nat.mul_one]
    exact Nat.lt_succ_self a
  | c :: r, a, h => by
    simp only [List.all_cons, Bool.and_eq_true] at h
    have hc : 48 ≤ c.toNat ∧ c.toNat ≤ 57 := by simpa [isDig] using h.1
    have h2 := val_lt r (a * 10 + (c.toNat - 48)) h.2
    show val (a * 10 + (c.toNat - 48)) r < _
    rw [List.length_cons, Nat.pow_succ]
    refine Nat.lt_of_lt_of_le h2 ?_
    rw [Nat.mul_comm (10 ^ r.length) 10, ← Nat.mul_assoc]
    exact Nat.mul_le_mul_right _ (by omega)

theorem dropWhile_nil {p : UInt8 → Bool} : ∀ {l : List UInt8}, l.dropWhile p = [] → ∀ x ∈ l, p x = true
  | [], _, x, hx => by cases hx
  | a :: r, h, x, hx => by
    rw [List.dropWhile_cons] at h
    split at h
    · rcases List.mem_cons.1 hx with rfl | h2
      · assumption
      · exact dropWhile_nil h x h2
    · cases h

theorem atoi_val (l : List UInt8) (h1 : 1 ≤ l.length) (h10 : l.length ≤ 10) (hd : l.all isDig = true) : Lib.atoiAll l = .ok (val 0 l : Nat) := by
  have hpow : 10 ^ l.length ≤ 10000000000 := Nat.le_trans (Nat.pow_le_pow_right (by omega) h10) (by decide)
  have hp := parse_val l 0 hd (by rw [Nat.zero_add, Nat.one_mul]; exact Nat.le_trans hpow (by decide))
  have hv : val 0 l < 10000000000 := by
    have h := val_lt l 0 hd
    rw [Nat.zero_add, Nat.one_mul] at h
    exact Nat.lt_of_lt_of_le h hpow
  match l, h1 with
  | c :: r, _ =>
    simp only [List.all_cons, Bool.and_eq_true] at hd
    have hc : 48 ≤ c.toNat ∧ c.toNat ≤ 57 := by simpa [isDig] using hd.1
    have hn : ¬ (c.toNat = 43 ∨ c.toNat = 45) := by omega
    have hn2 : ¬ c.toNat = 45 := by omega
    simp only [Lib.atoiAll, if_neg hn, Lib.parseMag]
    rw [if_neg (by simp), hp]
    simp only [hn2, not_false_iff, true_and, false_and, if_false]
    rw [if_neg (by omega)]

theorem trim_digits (l : List UInt8) : (rdw (l.dropWhile isDig) = []) ↔ l.all isDig = true := by
  induction l with
  | nil => simp [rdw]
  | cons c r ih =>
    by_cases hc : isDig c = true
    · rw [List.dropWhile_cons, if_pos hc, ih]
      simp [hc]
    · rw [List.dropWhile_cons, if_neg hc]
      refine ⟨fun h => ?_, fun h => ?_⟩
      · have h1 : (c :: r).reverse.dropWhile isDig = [] := List.reverse_eq_nil_iff.1 h
        exact absurd (dropWhile_nil h1 c (by simp)) hc
      · rw [List.all_cons, Bool.and_eq_true] at h
        exact absurd h.1 hc
end Nu

theorem Apart.symm {u v : Value} (h : Apart u v) : Apart v u := by
  rcases h with h | h
  · cases hv : v.ownBlock with
    | none => exact .inl hv
    | some x => exact .inr (by rw [hv, h]; simp)
  · exact .inr fun e => h e.symm

/-- A words value in block b: numbers, names, bytes. -/
def WordsAt (w : World) (b : Nat) (ns : List Nat) (names : List (List UInt8)) (bs : List UInt8) : Prop :=
  ∃ v1 v2, w.heap[b]? = some (.cells #[v1, v2, .string (txt bs)] 71 (0, 0)) ∧ w.ownsRow (b + 1) 3 1 v1 ns.length (i64s ns) ∧ w.ownsRow (b + 1) 9 1 v2 names.length (strs names) ∧ Apart v1 v2

end Go.Proofs.YtolbfeggceemfaaGreatDoor
