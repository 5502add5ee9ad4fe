/-
  Domain names as plain lists of bytes: what a name's labels are, where they begin. No condition; no program in sight.
-/
namespace Go.Proofs.YtolbfeggceemfaaGreatDoor
namespace Nm

/-- The labels of a list of bytes that is a name (its last byte the empty label), by fuel; none: it is no name. -/
def labs : Nat → List UInt8 → Option (List (List UInt8))
  | 0, _ => none
  | _ + 1, [] => none
  | f + 1, k :: r =>
    if k.toNat = 0 then (if r = [] then some [] else none)
    else if 63 < k.toNat then none
    else (labs f (r.drop k.toNat)).map (r.take k.toNat :: ·)

/-- The labels of a name of at most 255 bytes. -/
def labels (l : List UInt8) : Option (List (List UInt8)) := if l.length ≤ 255 then labs (l.length + 1) l else none

/-- Where labels begin that stand from a place on, and the place behind them. -/
def offs : Nat → List (List UInt8) → List Nat
  | p, [] => [p]
  | p, x :: r => p :: offs (p + (1 + x.length)) r

/-- The bytes of labels, without the end. -/
def enc : List (List UInt8) → List UInt8
  | [] => []
  | x :: r => UInt8.ofNat x.length :: (x ++ enc r)

/-- The bytes of a name. -/
def wire (ls : List (List UInt8)) : List UInt8 := enc ls ++ [0]

theorem offs_length (p : Nat) (ls : List (List UInt8)) : (offs p ls).length = ls.length + 1 := by
  induction ls generalizing p with
  | nil => rfl
  | cons x r ih => simp [offs, ih]

/-- Labels that may be: of 1 to 63 bytes each. -/
def Fit (ls : List (List UInt8)) : Prop := ∀ x ∈ ls, 1 ≤ x.length ∧ x.length ≤ 63

theorem enc_append (a b : List (List UInt8)) : enc (a ++ b) = enc a ++ enc b := by
  induction a with
  | nil => rfl
  | cons x r ih => simp [enc, ih]

theorem labs_some : ∀ (f : Nat) (l : List UInt8) (ls : List (List UInt8)), labs f l = some ls → l = wire ls ∧ Fit ls
  | 0, _, _, h => by simp [labs] at h
  | _ + 1, [], _, h => by simp [labs] at h
  | f + 1, k :: r, ls, h => by
    simp only [labs] at h
    by_cases hk : k.toNat = 0
    · rw [if_pos hk] at h
      by_cases hr : r = []
      · rw [if_pos hr] at h
        obtain rfl := Option.some.inj h
        subst hr
        have : k = 0 := UInt8.toNat_inj.1 (by simpa using hk)
        subst this
        exact ⟨rfl, fun x hx => by simp at hx⟩
      · rw [if_neg hr] at h; cases h
    · rw [if_neg hk] at h
      by_cases h6 : 63 < k.toNat
      · rw [if_pos h6] at h; cases h
      · rw [if_neg h6] at h
        obtain ⟨ls', hl, rfl⟩ := Option.map_eq_some_iff.1 h
        obtain ⟨e, hf⟩ := labs_some f _ _ hl
        have hlen : (r.take k.toNat).length = k.toNat := by
          rw [List.length_take]
          refine Nat.min_eq_left ?_
          have : (r.drop k.toNat).length ≠ 0 := by rw [e]; simp [wire]
          rw [List.length_drop] at this
          omega
        refine ⟨?_, ?_⟩
        · simp only [wire, enc, hlen]
          rw [show UInt8.ofNat k.toNat = k from by simp]
          rw [List.cons_append, List.append_assoc]
          congr 1
          conv => lhs; rw [← List.take_append_drop k.toNat r, e]
          rfl
        · intro x hx
          rcases List.mem_cons.1 hx with rfl | hx
          · rw [hlen]; omega
          · exact hf x hx

theorem enc_length_pos (ls : List (List UInt8)) : ls.length ≤ (enc ls).length := by
  induction ls with
  | nil => exact Nat.le_refl _
  | cons x r ih => simp [enc]; omega

theorem labs_wire : ∀ (f : Nat) (ls : List (List UInt8)), Fit ls → ls.length < f → labs f (wire ls) = some ls
  | 0, _, _, h => by omega
  | f + 1, [], _, _ => by simp [wire, enc, labs]
  | f + 1, x :: r, hf, h => by
    have hx := hf x (by simp)
    have hn : (UInt8.ofNat x.length).toNat = x.length := by simp; omega
    have ih := labs_wire f r (fun y hy => hf y (by simp [hy])) (by simp at h; omega)
    simp only [wire, enc, List.cons_append, labs, hn]
    rw [if_neg (by omega), if_neg (by omega), List.append_assoc, List.drop_left, List.take_left]
    rw [show enc r ++ [0] = wire r from rfl, ih]
    rfl

theorem labels_some {l : List UInt8} {ls : List (List UInt8)} (h : labels l = some ls) : l = wire ls ∧ Fit ls ∧ l.length ≤ 255 := by
  unfold labels at h
  by_cases hl : l.length ≤ 255
  · rw [if_pos hl] at h
    exact ⟨(labs_some _ _ _ h).1, (labs_some _ _ _ h).2, hl⟩
  · rw [if_neg hl] at h; cases h

theorem labels_wire {ls : List (List UInt8)} (hf : Fit ls) (hl : (wire ls).length ≤ 255) : labels (wire ls) = some ls := by
  unfold labels
  rw [if_pos hl]
  refine labs_wire _ _ hf ?_
  have := enc_length_pos ls
  simp [wire]
  omega

theorem enc_take_succ (ls : List (List UInt8)) (k : Nat) (h : k < ls.length) : (enc (ls.take (k + 1))).length = (enc (ls.take k)).length + (1 + ls[k].length) := by
  rw [List.take_succ_eq_append_getElem h, enc_append]
  simp [enc]
  omega

theorem offs_get : ∀ (ls : List (List UInt8)) (p k : Nat), k ≤ ls.length → (offs p ls)[k]? = some (p + (enc (ls.take k)).length)
  | [], p, k, h => by
    have : k = 0 := by simpa using h
    subst this
    simp [offs, enc]
  | x :: r, p, 0, _ => by simp [offs, enc]
  | x :: r, p, k + 1, h => by
    simp only [offs, List.getElem?_cons_succ, List.take_succ_cons, enc, List.length_cons, List.length_append]
    rw [offs_get r _ k (by simpa using h)]
    congr 1
    omega

/-- A name's label, where it stands. -/
theorem wire_label (ls : List (List UInt8)) (k : Nat) (h : k < ls.length) : ((wire ls).drop ((enc (ls.take k)).length + 1)).take ls[k].length = ls[k] := by
  have e : wire ls = enc (ls.take k) ++ (UInt8.ofNat ls[k].length :: (ls[k] ++ (enc (ls.drop (k + 1)) ++ [0]))) := by
    unfold wire
    conv => lhs; rw [← List.take_append_drop k ls, enc_append, List.drop_eq_getElem_cons h]
    simp [enc]
  rw [e, ← List.drop_drop, List.drop_left]
  simp

theorem enc_take_le (ls : List (List UInt8)) (k : Nat) : (enc (ls.take k)).length ≤ (enc ls).length := by
  conv => rhs; rw [← List.take_append_drop k ls, enc_append]
  simp

/-- A byte of a label, as it is written. -/
def esc (c : UInt8) : List UInt8 := if c.toNat < 33 ∨ 126 < c.toNat ∨ c.toNat = 46 ∨ c.toNat = 92 then [92, 48 + c / 100, 48 + c / 10 % 10, 48 + c % 10] else [c]
def textL (l : List UInt8) : List UInt8 := l.flatMap esc ++ [46]
/-- Labels as signs. -/
def text (ls : List (List UInt8)) : List UInt8 := if ls = [] then [46] else ls.flatMap textL

/-- A byte that is written by three digits behind a mark. -/
def escd : List UInt8 → Option UInt8
  | a :: b :: c :: _ => if 48 ≤ a.toNat ∧ a.toNat ≤ 57 ∧ 48 ≤ b.toNat ∧ b.toNat ≤ 57 ∧ 48 ≤ c.toNat ∧ c.toNat ≤ 57 ∧ 100 * (a.toNat - 48) + 10 * (b.toNat - 48) + (c.toNat - 48) < 256 then some (UInt8.ofNat (100 * (a.toNat - 48) + 10 * (b.toNat - 48) + (c.toNat - 48))) else none
  | _ => none

/-- Signs as a name, in whatever way they are written: what is left of them, the bytes so far, the label so far. -/
def loose : Nat → List UInt8 → List UInt8 → List UInt8 → Option (List UInt8)
  | 0, _, _, _ => none
  | _ + 1, [], out, _ => some (out ++ [0])
  | f + 1, c :: r, out, label =>
    if c.toNat = 46 then (if label.length = 0 ∨ 63 < label.length then none else loose f r (out ++ UInt8.ofNat label.length :: label) [])
    else if c.toNat = 92 then (match escd r with
      | none => none
      | some b => loose f (r.drop 3) out (label ++ [b]))
    else loose f r out (label ++ [c])

/-- Signs as a name. -/
def parse (l : List UInt8) : Option (List UInt8) :=
  if l = [46] then some [0]
  else match loose (l.length + 1) l [] [] with
    | none => none
    | some n => match labels n with
      | none => none
      | some ls => if text ls = l then some n else none

end Nm
end Go.Proofs.YtolbfeggceemfaaGreatDoor
