/-
  The walk of ConsoleQueries, and its plain laws: a query's bytes are read again as one question and one record; digits of bytes are read again as the bytes; a short name's query is 128 bytes. Condition of the walk: the variables read as the program lays them; the name is of at most 2^47 bytes.
-/
import Derived.Test.YtolbfeggceemfaaGreatDoorP0
namespace Go.Proofs.YtolbfeggceemfaaGreatDoor
open Go.RowKit

/-! ### U1: A query's bytes, read: one question, one record. Plain. -/
namespace Rd
/-- From a place on, these bytes stand. -/
def At (s : List UInt8) (i : Nat) (l : List UInt8) : Prop := ∃ A, s = A ++ l ∧ A.length = i
theorem At.skip {s X B : List UInt8} {i : Nat} (h : At s i (X ++ B)) : At s (i + X.length) B := by
  obtain ⟨A, rfl, rfl⟩ := h
  exact ⟨A ++ X, by rw [List.append_assoc], by rw [List.length_append]⟩
theorem At.len {s l : List UInt8} {i : Nat} (h : At s i l) : s.length = i + l.length := by
  obtain ⟨A, rfl, rfl⟩ := h
  rw [List.length_append]
theorem At.drop {s l : List UInt8} {i : Nat} (h : At s i l) : s.drop i = l := by
  obtain ⟨A, rfl, rfl⟩ := h
  exact List.drop_left
theorem At.rnum {s X B : List UInt8} {i k : Nat} (h : At s i (X ++ B)) (hk : X.length = k) : rnum s k ⟨i, false⟩ = (Oc.be 0 X, ⟨i + k, false⟩) := by
  unfold Rd.rnum Oc.num
  have h1 := h.len
  rw [List.length_append, hk] at h1
  rw [if_neg (by simp), if_pos (show i + k ≤ s.length by omega), h.drop, ← hk, List.take_left]
theorem be_p16 {x : Nat} (h : x ≤ 65535) : Oc.be 0 (Oc.p16 x) = x := by
  show (0 * 256 + (UInt8.ofNat (x / 256)).toNat) * 256 + (UInt8.ofNat x).toNat = x
  rw [UInt8.toNat_ofNat', UInt8.toNat_ofNat']
  omega
theorem getD_at {s l : List UInt8} {i : Nat} {c : UInt8} (h : At s i (c :: l)) : s.getD i 0 = c := by
  obtain ⟨A, rfl, rfl⟩ := h
  simp
theorem nm_at {s B : List UInt8} {g : Nat} : ∀ (ls : List (List UInt8)) (f i : Nat) (out : List UInt8), At s i (Nm.enc ls ++ 0 :: B) → Nm.Fit ls → out.length + (Nm.enc ls).length < 255 → ls.length < f →
    nm s f i g (-1) out = some (out ++ (Nm.enc ls ++ [0]), ((i + (Nm.enc ls).length + 1 : Nat) : Int))
  | [], 0, _, _, _, _, _, hf => absurd hf (by simp)
  | [], f + 1, i, out, h, _, hl, _ => by
    have h1 := h.len
    have h0 : s.getD i 0 = 0 := getD_at h
    simp only [Nm.enc, List.nil_append, List.length_cons, List.length_nil] at h1 hl
    unfold nm
    rw [if_pos ⟨by omega, by omega⟩, h0, if_pos (by decide), if_pos (by decide)]
    rfl
  | x :: r, 0, _, _, _, _, _, hf => absurd hf (by simp)
  | x :: r, f + 1, i, out, h, hF, hl, hf => by
    have h1 := h.len
    have hx := hF x (by simp)
    have h0 : s.getD i 0 = UInt8.ofNat x.length := getD_at h
    have hn : (UInt8.ofNat x.length).toNat = x.length := by rw [UInt8.toNat_ofNat']; omega
    have hd := h.drop
    simp only [Nm.enc, List.cons_append, List.append_assoc, List.length_cons, List.length_append] at h1 hl hd hf h
    have hs : At s (i + 1 + x.length) (Nm.enc r ++ 0 :: B) := by
      have h2 : At s i ((UInt8.ofNat x.length :: x) ++ (Nm.enc r ++ 0 :: B)) := h
      have h3 := h2.skip
      rw [List.length_cons, show i + (x.length + 1) = i + 1 + x.length by omega] at h3
      exact h3
    have ht : (s.drop i).take (x.length + 1) = UInt8.ofNat x.length :: x := by
      rw [hd, List.take_succ_cons, List.take_left]
    unfold nm
    rw [if_pos ⟨by omega, by omega⟩, h0, hn, if_neg (by omega), if_pos ⟨by omega, by omega⟩, ht,
      nm_at r f _ _ hs (fun y hy => hF y (by simp [hy])) (by simp; omega) (by omega)]
    simp only [Nm.enc, List.append_assoc, List.cons_append, List.length_cons, List.length_append]
    congr 3
    omega
theorem name_at {s B : List UInt8} {ls : List (List UInt8)} {i : Nat} (h : At s i (Nm.wire ls ++ B)) (hF : Nm.Fit ls) (hl : (Nm.wire ls).length ≤ 255) :
    name s i = some (Nm.wire ls, ((i + (Nm.wire ls).length : Nat) : Int)) := by
  have h' : At s i (Nm.enc ls ++ 0 :: B) := by
    rw [Nm.wire, List.append_assoc] at h
    exact h
  have hk : (Nm.wire ls).length = (Nm.enc ls).length + 1 := by simp [Nm.wire]
  have hp := Nm.enc_length_pos ls
  unfold name
  rw [nm_at ls (400 + i) i [] h' hF (by simp; omega) (by omega), hk]
  rfl
theorem question_at {s B : List UInt8} {ls : List (List UInt8)} {i t c : Nat} (h : At s i (Nm.wire ls ++ (Oc.p16 t ++ (Oc.p16 c ++ B)))) (hF : Nm.Fit ls) (hl : (Nm.wire ls).length ≤ 255) (h1 : 1 ≤ t) (h2 : t ≤ 65535) (hc : c ≤ 65535) :
    question s ⟨i, false⟩ = (⟨Nm.wire ls, t, c⟩, ⟨i + (Nm.wire ls).length + 4, false⟩) := by
  have ha := h.skip
  have hb := ha.skip
  have e1 := ha.rnum (k := 2) rfl
  have e2 := At.rnum (i := i + (Nm.wire ls).length + 2) hb (k := 2) rfl
  rw [be_p16 h2] at e1
  rw [be_p16 hc] at e2
  have ht : (t == 0) = false := by simp; omega
  unfold question
  rw [if_neg (by simp), name_at h hF hl]
  show tail s (Nm.wire ls) (((i + (Nm.wire ls).length : Nat) : Int)).toNat = _
  rw [Int.toNat_natCast]
  unfold tail
  simp only [e1, e2, ht, Bool.or_self]
theorem record_at {s d : List UInt8} {i : Nat} (h : At s i ([0] ++ (Oc.p16 41 ++ (Oc.p16 1232 ++ (Oc.p32 0 ++ (Oc.p16 d.length ++ d)))))) (hd : d.length ≤ 65535) :
    record s ⟨i, false⟩ = ⟨i + 11 + d.length, false⟩ := by
  have hq := question_at (ls := []) (i := i) (t := 41) (c := 1232) h (by intro x hx; cases hx) (by decide) (by decide) (by decide) (by decide)
  have h1 := h.skip.skip.skip
  have h2 := h1.skip
  have h3 := h2.skip
  have e4 := At.rnum (i := i + (Nm.wire []).length + 4) h1 (k := 4) rfl
  have e2 := At.rnum (i := i + (Nm.wire []).length + 4 + 4) h2 (k := 2) rfl
  rw [be_p16 hd] at e2
  have h3' : At s (i + (Nm.wire []).length + 4 + 4 + 2) d := h3
  have hw : (Nm.wire []).length = 1 := rfl
  have hdt : data s (i + (Nm.wire []).length + 4 + 4 + 2) d.length 41 = some d := by
    unfold data dataOf
    rw [if_neg (by have := h3'.len; omega), if_pos (by decide), h3'.drop, List.take_length]
    have hm : may 41 d = true := by
      unfold may
      rw [if_neg (by omega), if_neg (by decide), if_neg (by decide), if_neg (by decide), if_neg (by decide), if_neg (by decide), if_neg (by decide)]
    simp only [hm, if_true]
  unfold record
  rw [hq]
  simp only [e4, e2]
  unfold behind
  simp only [hdt, Bool.false_eq_true, if_false]
  rw [hw, show i + 1 + 4 + 4 + 2 + d.length = i + 11 + d.length by omega]
theorem list_none (step : R → R) (i : Nat) : list step 0 ⟨i, false⟩ = ⟨i, false⟩ := rfl
theorem list_one (step : R → R) (i : Nat) : list step 1 ⟨i, false⟩ = step ⟨i, false⟩ := rfl
/-- A query is read again as one question and one record. -/
theorem get_put (id t : Nat) (ls : List (List UInt8)) (d : List UInt8) (hF : Nm.Fit ls) (hl : (Nm.wire ls).length ≤ 255) (h1 : 1 ≤ t) (h2 : t ≤ 65535) (hd : d.length ≤ 3000) :
    get (Ms.put id (Nm.wire ls) t d) = .ok (1, 0, 0, 1) := by
  obtain ⟨s, hs⟩ : ∃ s, s = Ms.put id (Nm.wire ls) t d := ⟨_, rfl⟩
  have hq : At s 12 (Nm.wire ls ++ (Oc.p16 t ++ (Oc.p16 1 ++ ([0] ++ (Oc.p16 41 ++ (Oc.p16 1232 ++ (Oc.p32 0 ++ (Oc.p16 d.length ++ d)))))))) :=
    ⟨Ms.hdr id, by rw [hs, Ms.put]; simp only [List.append_assoc], rfl⟩
  have hr := hq.skip.skip.skip
  have hr' : At s (12 + (Nm.wire ls).length + 4) ([0] ++ (Oc.p16 41 ++ (Oc.p16 1232 ++ (Oc.p32 0 ++ (Oc.p16 d.length ++ d))))) := hr
  have hn := hr'.len
  have hn' : s.length = 12 + (Nm.wire ls).length + 4 + 11 + d.length := by
    rw [hn]
    simp only [List.length_append, Oc.p32, Oc.p16, List.length_cons, List.length_nil]
    omega
  have eq := question_at hq hF hl h1 h2 (by decide)
  have er := record_at hr' (by omega)
  have ht : two s 4 = 1 ∧ two s 6 = 0 ∧ two s 8 = 0 ∧ two s 10 = 1 := by
    obtain ⟨A, hA⟩ : ∃ A, s = UInt8.ofNat (id / 256) :: UInt8.ofNat id :: 0 :: 0 :: 0 :: 1 :: 0 :: 0 :: 0 :: 0 :: 0 :: 1 :: A := ⟨_, by rw [hs]; rfl⟩
    rw [hA]
    exact ⟨rfl, rfl, rfl, rfl⟩
  have ha : readAll s = ⟨s.length, false⟩ := by
    unfold readAll
    rw [ht.1, ht.2.1, ht.2.2.1, ht.2.2.2, list_one, eq]
    show list (record s) 1 (list (record s) 0 (list (record s) 0 ⟨12 + (Nm.wire ls).length + 4, false⟩)) = _
    rw [list_none, list_none, list_one, er, hn']
  rw [← hs]
  unfold get
  rw [if_neg (by omega), if_neg (by omega), ha, if_neg (by simp), ht.1, ht.2.1, ht.2.2.1, ht.2.2.2]
end Rd

/-! ### U2: Digits of bytes, read again: the bytes. Plain. -/
theorem hexB_all : ((List.range 256).all fun n => match Nu.hexB (UInt8.ofNat n) with
    | [a, b] => decide (¬ Nu.nib a < 0) && (decide (¬ Nu.nib b < 0) && (((((0 : UInt8) <<< 4 ||| UInt8.ofNat (Nu.nib a).toNat) <<< 4 ||| UInt8.ofNat (Nu.nib b).toNat) == UInt8.ofNat n) && (decide (48 ≤ a.toNat ∧ a.toNat ≤ 102) && decide (48 ≤ b.toNat ∧ b.toNat ≤ 102))))
    | _ => false) = true := by decide +kernel
theorem hexB_facts (c : UInt8) : ∃ a b, Nu.hexB c = [a, b] ∧ ¬ Nu.nib a < 0 ∧ ¬ Nu.nib b < 0 ∧ (((0 : UInt8) <<< 4 ||| UInt8.ofNat (Nu.nib a).toNat) <<< 4 ||| UInt8.ofNat (Nu.nib b).toNat) = c ∧ (48 ≤ a.toNat ∧ a.toNat ≤ 102) ∧ 48 ≤ b.toNat ∧ b.toNat ≤ 102 := by
  have h := List.all_eq_true.1 hexB_all c.toNat (List.mem_range.2 (UInt8.toNat_lt c))
  have e : UInt8.ofNat c.toNat = c := UInt8.ofNat_toNat
  rw [e] at h
  refine ⟨_, _, rfl, ?_⟩
  simp only [Nu.hexB, Bool.and_eq_true, decide_eq_true_eq, beq_iff_eq] at h
  exact ⟨h.1, h.2.1, h.2.2.1, h.2.2.2.1, h.2.2.2.2⟩
theorem hexGo_even : ∀ (r p : List UInt8), Nu.hexGo false (2 * p.length) (p ++ List.replicate r.length 0) (r.flatMap Nu.hexB) = some (p ++ r)
  | [], p => by simp [Nu.hexGo]
  | c :: r, p => by
    obtain ⟨a, b, hB, ha, hb, hc, _⟩ := hexB_facts c
    have e0 : 2 * p.length / 2 = p.length := by omega
    have e1 : (2 * p.length + 1) / 2 = p.length := by omega
    rw [List.flatMap_cons, hB]
    show Nu.hexGo false (2 * p.length) (p ++ List.replicate (r.length + 1) 0) (a :: b :: r.flatMap Nu.hexB) = _
    rw [List.replicate_succ]
    simp only [Nu.hexGo, ha, hb, e0, e1, Bool.false_eq_true, or_self, if_false]
    have s1 : ∀ (x y : UInt8) (z : List UInt8), (p ++ x :: z).set p.length y = p ++ y :: z := by intro x y z; simp
    have g1 : ∀ (x : UInt8) (z : List UInt8), (p ++ x :: z).getD p.length 0 = x := by intro x z; simp
    rw [g1, s1, g1, s1, hc]
    have h := hexGo_even r (p ++ [c])
    rw [List.length_append, List.length_singleton, Nat.mul_add, List.append_assoc, List.append_assoc] at h
    exact h
theorem hexB_two (l : List UInt8) : (l.flatMap Nu.hexB).length = 2 * l.length := by
  induction l with
  | nil => rfl
  | cons x r ih => rw [List.flatMap_cons, List.length_append, ih]; simp [Nu.hexB]; omega
theorem hex_hexB (l : List UInt8) : Nu.hex (l.flatMap Nu.hexB) = some l := by
  have h := hexGo_even l []
  unfold Nu.hex
  rw [hexB_two, show (2 * l.length % 2 == 1) = false by simp, show (2 * l.length + 1) / 2 = l.length by omega]
  exact h
theorem hexB_bytes (l : List UInt8) : ∀ c ∈ l.flatMap Nu.hexB, 48 ≤ c.toNat ∧ c.toNat ≤ 102 := by
  intro c hc
  obtain ⟨x, _, hx⟩ := List.mem_flatMap.1 hc
  obtain ⟨a, b, hB, _, _, _, h1, h2⟩ := hexB_facts x
  rw [hB] at hx
  rcases List.mem_cons.1 hx with rfl | hx
  · exact h1
  · rcases List.mem_cons.1 hx with rfl | hx
    · exact h2
    · cases hx

/-! ### U3: A query of a short name is 128 bytes. Plain. -/
theorem query_128 (id t : Nat) (n : List UInt8) (h : n.length ≤ 90) : (Ms.query id n t).length = 128 := by
  have hp : Ms.pads id n t = 97 - n.length := by
    unfold Ms.pads Nu.room
    rw [Ms.put_length, List.length_nil, if_neg (by omega)]
    omega
  unfold Ms.query
  rw [Ms.put_length, hp]
  simp only [padData, Oc.p16, List.length_append, List.length_cons, List.length_nil, List.length_replicate]
  omega
theorem query_get (id t : Nat) (ls : List (List UInt8)) (hF : Nm.Fit ls) (hl : (Nm.wire ls).length ≤ 90) (h1 : 1 ≤ t) (h2 : t ≤ 65535) : Rd.get (Ms.query id (Nm.wire ls) t) = .ok (1, 0, 0, 1) := by
  have h := query_128 id t (Nm.wire ls) hl
  refine Rd.get_put id t ls _ hF (by omega) h1 h2 ?_
  unfold Ms.query at h
  rw [Ms.put_length] at h
  omega

/-! ### U4: The lines query and get. Plain. -/
theorem cmd_query : cmdOf (txt [113, 117, 101, 114, 121]) cmds = some ⟨⟨#[113, 117, 101, 114, 121]⟩, [34, 35, 34], 46⟩ := by kernel_rfl
theorem cmd_get : cmdOf (txt [103, 101, 116]) cmds = some ⟨⟨#[103, 101, 116]⟩, [36], 47⟩ := by kernel_rfl
def queryW (k : Nat) (t : List UInt8) (u : Nat) : List (List UInt8) := [[113, 117, 101, 114, 121], Lib.itoa (k : Int), t, Lib.itoa (u : Int)]
theorem readOne_hex (l : List UInt8) (st : St) : Nu.readOne 36 (l.flatMap Nu.hexB) st = .ok { st with bs := l } := by
  unfold Nu.readOne
  rw [if_neg (by decide), if_neg (by decide), hex_hexB]
theorem query_run {l : List UInt8} {ls : List (List UInt8)} (k u : Nat) (h : Nm.labels l = some ls) (hk : k ≤ 65535) (h1 : 1 ≤ u) (h2 : u ≤ 65535) :
    runE (txt (Ln.joinW (queryW k (Nm.text ls) u))) = ((Ms.query k (Nm.wire (Nm.foldLs ls)) u).flatMap Nu.hexB ++ [10], 0) := by
  obtain ⟨p1, p2, p3, p4⟩ := itoa_facts k (by omega)
  obtain ⟨q1, q2, q3, q4⟩ := itoa_facts u (by omega)
  have ht := Nm.text_word h
  unfold queryW
  rw [run_words]
  · congr 1
    congr 1
    rw [tells_line (st := ⟨[k, u], [l], []⟩) cmd_query rfl (by simp only [Nu.readAll, readOne_num (show k ≤ 1000000 by omega), readOne_num (show u ≤ 1000000 by omega), readOne_name h, List.nil_append, List.cons_append])]
    show Nu.told ((Ms.queryE k l u).1.flatMap Nu.hexB) (Ms.queryE k l u).2 = _
    have e : Ms.queryE k l u = (Ms.query k (Nm.wire (Nm.foldLs ls)) u, 0) := by rw [Ms.queryE, if_pos ⟨hk, h1, h2⟩, Nm.fold, h]
    rw [e]; rfl
  · intro x hx
    simp only [List.mem_cons, List.mem_nil_iff, or_false] at hx
    rcases hx with rfl | rfl | rfl | rfl
    · exact word_of (by decide)
    · exact ⟨p3, p4⟩
    · exact ⟨ht.1, ht.2.1⟩
    · exact ⟨q3, q4⟩
  · simp
  · have h3 := ht.2.2
    simp [Ln.joinW]; omega
theorem hexB_word (l : List UInt8) (h : l ≠ []) : Ln.Word (l.flatMap Nu.hexB) ∧ 10 ∉ l.flatMap Nu.hexB := by
  refine ⟨⟨fun h0 => ?_, fun c hc => ?_⟩, fun hc => ?_⟩
  · have h1 := hexB_two l
    rw [h0] at h1
    have h2 := List.length_pos_iff.2 h
    rw [List.length_nil] at h1
    omega
  · have := hexB_bytes l c hc
    simp [isGap]
    omega
  · have := hexB_bytes l 10 hc
    exact absurd this.1 (by decide)
theorem get_run (q : List UInt8) (h : q.length = 128) (hg : Rd.get q = .ok (1, 0, 0, 1)) :
    runE (txt (Ln.joinW [[103, 101, 116], q.flatMap Nu.hexB])) = ([49, 32, 48, 32, 48, 32, 49] ++ [10], 0) := by
  have hw := hexB_word q (by intro h0; rw [h0] at h; cases h)
  rw [run_words]
  · congr 1
    congr 1
    rw [tells_line (st := ⟨[], [], q⟩) cmd_get rfl (by simp only [Nu.readAll, readOne_hex])]
    show Nu.getText q = _
    unfold Nu.getText
    rw [hg]
    decide +kernel
  · intro x hx
    simp only [List.mem_cons, List.mem_nil_iff, or_false] at hx
    rcases hx with rfl | rfl
    · exact word_of (by decide)
    · exact hw
  · simp
  · have h3 := hexB_two q
    simp only [Ln.joinW, List.length_append, List.length_cons, List.length_nil]
    omega
theorem query_line (k u : Nat) (t : List UInt8) : (⟨#[113, 117, 101, 114, 121, 32]⟩ : ByteArray) ++ txt (Lib.itoa (k : Int)) ++ ⟨#[32]⟩ ++ txt t ++ ⟨#[32]⟩ ++ txt (Lib.itoa (u : Int)) = txt (Ln.joinW (queryW k t u)) := by
  rw [show (⟨#[113, 117, 101, 114, 121, 32]⟩ : ByteArray) = txt [113, 117, 101, 114, 121, 32] from rfl, show (⟨#[32]⟩ : ByteArray) = txt [32] from rfl]
  simp only [txt_append, queryW, Ln.joinW, List.append_assoc, List.cons_append, List.nil_append]

/-! ### U5: The walk of ConsoleQueries. Condition: the variables read as the program lays them; the name is of at most 2^47 bytes. -/
set_option maxHeartbeats 2000000 in
set_option maxRecDepth 100000 in
theorem queries_not (a c : Int) (b : ByteArray) (w : World) (hV : Vars w) (hb : b.size ≤ 140737488355328) (h2 : Nm.labels b.data.toList = none) :
    Calls Tryz.prog 7 #[.int .i64 a, .string b, .int .i64 c] w fun e w' => e = .returned (.bool true) ∧ Below w.heap.size w w' := by
  have hA := Lib.hid (awake_calls w hV)
  have T1 := Lib.hid (fun W => rtext_not b h2 W hb)
  clear h2 hV
  go_enter Tryz.func7, Tryz.ntmps7
  go_wp2_with fail
  refine hA.out.mono ?_
  rintro e w1 ⟨rfl, b1⟩
  go_wp2_with fail
  refine (T1.out _).mono ?_
  rintro e w2 ⟨rfl, b⟩
  have b2 := b1.trans (b.mono b1.size)
  clear b b1
  go_wp2_with fail
  go_ret
  exact ⟨rfl, b2⟩

set_option maxHeartbeats 2000000 in
set_option maxRecDepth 100000 in
theorem queries_long (a c : Int) (b : ByteArray) (ls : List (List UInt8)) (w : World) (hV : Vars w) (hb : b.size ≤ 140737488355328) (h2 : Nm.labels b.data.toList = some ls) (h60 : 60 < b.size) :
    Calls Tryz.prog 7 #[.int .i64 a, .string b, .int .i64 c] w fun e w' => e = .returned (.bool true) ∧ Below w.heap.size w w' := by
  have hA := Lib.hid (awake_calls w hV)
  have T1 := Lib.hid (fun W => rtext_yes b ls h2 W hb)
  have q1 : ((60 : Int) < (b.size : Int)) = True := by simp; omega
  clear h2 hV
  generalize txt (Nm.text ls) = S at *
  go_enter Tryz.func7, Tryz.ntmps7
  go_wp2_with fail
  refine hA.out.mono ?_
  rintro e w1 ⟨rfl, b1⟩
  go_wp2_with fail
  refine (T1.out _).mono ?_
  rintro e w2 ⟨rfl, b⟩
  have b2 := b1.trans (b.mono b1.size)
  clear b b1
  go_wp2_with fail
  go_ret
  exact ⟨rfl, b2⟩

set_option maxHeartbeats 4000000 in
set_option maxRecDepth 100000 in
theorem queries_yes (a c : Int) (b : ByteArray) (ls : List (List UInt8)) (w : World) (hV : Vars w) (h2 : Nm.labels b.data.toList = some ls) (h60 : b.size ≤ 60) :
    Calls Tryz.prog 7 #[.int .i64 a, .string b, .int .i64 c] w fun e w' => e = .returned (.bool true) ∧ Below w.heap.size w w' := by
  have hA := Lib.hid (awake_calls w hV)
  have h8 := hV.size
  have HV := Lib.hid hV
  obtain ⟨k, hk, ek⟩ := and_mask a 65535 (by decide)
  obtain ⟨u0, hu, eu⟩ := and_mask c 1023 (by decide)
  obtain ⟨u, hu1⟩ : ∃ u : Nat, u = 1 + u0 := ⟨_, rfl⟩
  have eu1 : wrap64 (1 + (u0 : Int)) = (u : Int) := by unfold wrap64; omega
  have eu2 : IntKind.i64.wrap (1 + (u0 : Int)) = (u : Int) := by rw [IntWalk.i64_in _ (by omega)]; omega
  have hl : (Nm.wire (Nm.foldLs ls)).length ≤ 60 := by rw [Nm.wire_fold_length, ← (Nm.labels_some h2).1, ← Lib.size_eq]; exact h60
  have hF := (Nm.labels_some (Nm.labels_fold h2)).2.1
  have hQl := query_128 k u (Nm.wire (Nm.foldLs ls)) (by omega)
  have hQg := query_get k u (Nm.foldLs ls) hF (by omega) (by omega) (by omega)
  have hQr := query_run k u h2 hk (by omega) (by omega)
  generalize Ms.query k (Nm.wire (Nm.foldLs ls)) u = Q at *
  have T1 := fun W => rtext_yes b ls h2 W (by omega)
  have Dk := fun W => decimal_calls k (by omega) W
  have Du := fun W => decimal_calls u (by omega) W
  have O1 := fun W hV => one_calls _ (Q.flatMap Nu.hexB) hQr (by rw [hexB_two]; omega) W hV
  have O2 := fun W hV => one_calls _ [49, 32, 48, 32, 48, 32, 49] (get_run Q hQl hQg) (by decide) W hV
  rw [← query_line] at O1
  rw [← name_line1, show txt ([103, 101, 116] ++ [32]) = (⟨#[103, 101, 116, 32]⟩ : ByteArray) from rfl, show txt [49, 32, 48, 32, 48, 32, 49] = (⟨#[49, 32, 48, 32, 48, 32, 49]⟩ : ByteArray) from rfl] at O2
  have q1 : ((60 : Int) < (b.size : Int)) = False := by simp; omega
  have q2 : (((txt (Q.flatMap Nu.hexB)).size : Int) == 256) = true := by rw [txt_size, hexB_two, hQl]; rfl
  have zs : (txt (Nm.text ls)).size ≤ 1020 := by rw [txt_size]; exact (Nm.text_word h2).2.2
  have zk : (txt (Lib.itoa (k : Int))).size ≤ 7 := by rw [txt_size]; exact (itoa_facts k (by omega)).2.1
  have zu : (txt (Lib.itoa (u : Int))).size ≤ 7 := by rw [txt_size]; exact (itoa_facts u (by omega)).2.1
  have zx : (txt (Q.flatMap Nu.hexB)).size ≤ 256 := by rw [txt_size, hexB_two, hQl]; decide
  clear hQr hQg hQl hF hl
  generalize txt (Q.flatMap Nu.hexB) = X at *
  generalize txt (Nm.text ls) = S at *
  generalize txt (Lib.itoa (k : Int)) = K at *
  generalize txt (Lib.itoa (u : Int)) = U at *
  have ek : bits .and .i64 a 65535 = (k : Int) := ek
  have eu : bits .and .i64 c 1023 = (u0 : Int) := eu
  have T1 := Lib.hid T1
  have Dk := Lib.hid Dk
  have Du := Lib.hid Du
  have O1 := Lib.hid O1
  have O2 := Lib.hid O2
  clear h2 hV hk hu hu1 h60
  go_enter Tryz.func7, Tryz.ntmps7
  go_wp2_with fail
  refine hA.out.mono ?_
  rintro e w1 ⟨rfl, b1⟩
  go_wp2_with fail
  refine (T1.out _).mono ?_
  rintro e w2 ⟨rfl, b⟩
  have b2 := b1.trans (b.mono b1.size)
  clear b b1
  go_wp2_with fail
  refine (Dk.out _).mono ?_
  rintro e w3 ⟨rfl, b⟩
  have b3 := b2.trans (b.mono b2.size)
  clear b b2
  go_wp2_with fail
  refine (Du.out _).mono ?_
  rintro e w4 ⟨rfl, b⟩
  have b4 := b3.trans (b.mono b3.size)
  clear b b3
  go_wp2_with fail
  refine (O1.out _ (HV.out.below b4 h8)).mono ?_
  rintro e w5 ⟨rfl, b⟩
  have b5 := b4.trans (b.mono b4.size)
  clear b b4
  go_wp2_with fail
  refine (O2.out _ (HV.out.below b5 h8)).mono ?_
  rintro e w6 ⟨rfl, b⟩
  have b6 := b5.trans (b.mono b5.size)
  clear b b5
  go_wp2_with fail
  go_ret
  exact ⟨rfl, b6⟩

theorem lawQueries_calls (a c : Int) (b : ByteArray) (w : World) (hV : Vars w) (hb : b.size ≤ 140737488355328) :
    Calls Tryz.prog 7 #[.int .i64 a, .string b, .int .i64 c] w fun e w' => e = .returned (.bool true) ∧ Below w.heap.size w w' := by
  cases h2 : Nm.labels b.data.toList with
  | none => exact queries_not a c b w hV hb h2
  | some ls =>
    by_cases h60 : 60 < b.size
    · exact queries_long a c b ls w hV hb h2 h60
    · exact queries_yes a c b ls w hV h2 (by omega)
end Go.Proofs.YtolbfeggceemfaaGreatDoor
