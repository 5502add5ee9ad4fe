/-
  What all commands of console tell, plain; console.tells at them. Condition: none.
-/
import Derived.Test.YtolbfeggceemfaaGreatDoorG14
import Derived.Test.YtolbfeggceemfaaGreatDoorW12
import Derived.Test.YtolbfeggceemfaaGreatDoorC8
namespace Go.Proofs.YtolbfeggceemfaaGreatDoor
open Go.RowKit

/-- What a command tells of its words. -/
def tellT (f : Nat) (st : St) : List UInt8 :=
  if f = 37 then Lib.itoa (Nm.count (st.names.getD 0 []) : Int)
  else if f = 40 then Nu.told (Nm.textE (Nm.fold (st.names.getD 0 []))).1 (Nm.textE (Nm.fold (st.names.getD 0 []))).2
  else if f = 41 then (if Nm.above (st.names.getD 0 []) (st.names.getD 1 []) = true then [121, 101, 115] else [110, 111])
  else if f = 42 then Nu.cmpText (Nm.compare (st.names.getD 0 []) (st.names.getD 1 []))
  else if f = 43 then Nu.told (Lib.itoa (Nu.size (st.ns.getD 0 0) (st.ns.getD 1 0) (st.ns.getD 2 0) (st.ns.getD 3 0)).1) (Nu.size (st.ns.getD 0 0) (st.ns.getD 1 0) (st.ns.getD 2 0) (st.ns.getD 3 0)).2
  else if f = 44 then Lib.itoa (Nu.room (st.ns.getD 0 0) (st.ns.getD 1 0))
  else if f = 46 then Nu.told ((Ms.queryE (st.ns.getD 0 0) (st.names.getD 0 []) (st.ns.getD 1 0)).1.flatMap Nu.hexB) (Ms.queryE (st.ns.getD 0 0) (st.names.getD 0 []) (st.ns.getD 1 0)).2
  else Nu.getText st.bs

/-- Names are names, numbers have at most ten digits. -/
def Good (st : St) : Prop := (∀ n ∈ st.names, ∃ ls, Nm.labels n = some ls) ∧ ∀ x ∈ st.ns, x < 10000000000
theorem parse_name {l n : List UInt8} (h : Nm.parse l = some n) : ∃ ls, Nm.labels n = some ls := by
  unfold Nm.parse at h
  split at h
  · cases h
    exact ⟨[], by decide⟩
  · split at h
    · cases h
    · split at h
      · cases h
      · rename_i ls hl
        split at h
        · cases h
          exact ⟨ls, hl⟩
        · cases h
theorem number_small {l : List UInt8} {n : Nat} (h : Nu.number l = some n) : n < 10000000000 := by
  unfold Nu.number at h
  split at h
  · rename_i hc
    cases h
    have h1 := Nu.val_lt l 0 hc.2.2
    have h2 : 10 ^ l.length ≤ 10 ^ 10 := Nat.pow_le_pow_right (by decide) hc.2.1
    rw [Nat.zero_add, Nat.one_mul] at h1
    exact Nat.lt_of_lt_of_le h1 h2
  · cases h
theorem readOne_good {f : Nat} {a : List UInt8} {st st' : St} (h : Nu.readOne f a st = .ok st') (hg : Good st) :
    Good st' ∧ st'.ns.length = st.ns.length + ([f].filter (· == 34)).length ∧ st'.names.length = st.names.length + ([f].filter (· == 35)).length := by
  unfold Nu.readOne at h
  split at h
  · rename_i hf
    subst hf
    split at h
    · rename_i n hn
      cases h
      refine ⟨⟨hg.1, fun x hx => ?_⟩, by simp, by simp⟩
      rcases List.mem_append.1 hx with h1 | h1
      · exact hg.2 x h1
      · rw [List.mem_singleton.1 h1]; exact number_small hn
    · cases h
  · rename_i hf
    split at h
    · rename_i hf2
      subst hf2
      split at h
      · rename_i n hn
        cases h
        refine ⟨⟨fun x hx => ?_, hg.2⟩, by simp, by simp⟩
        rcases List.mem_append.1 hx with h1 | h1
        · exact hg.1 x h1
        · rw [List.mem_singleton.1 h1]; exact parse_name hn
      · cases h
    · rename_i hf2
      split at h
      · cases h
        exact ⟨hg, by simp [hf], by simp [hf2]⟩
      · cases h
theorem readAll_good : ∀ (fs : List Nat) (args : List (List UInt8)) (st st' : St), Nu.readAll fs args st = .ok st' → args.length = fs.length → Good st →
    Good st' ∧ st'.ns.length = st.ns.length + (fs.filter (· == 34)).length ∧ st'.names.length = st.names.length + (fs.filter (· == 35)).length
  | [], [], st, st', h, _, hg => by
    cases h
    exact ⟨hg, by simp, by simp⟩
  | [], _ :: _, _, _, _, hl, _ => by simp at hl
  | _ :: _, [], _, _, _, hl, _ => by simp at hl
  | f :: fs, a :: r, st, st', h, hl, hg => by
    rw [Nu.readAll] at h
    cases hro : Nu.readOne f a st with
    | error e => rw [hro] at h; cases h
    | ok st1 =>
      rw [hro] at h
      obtain ⟨g1, n1, m1⟩ := readOne_good hro hg
      obtain ⟨g2, n2, m2⟩ := readAll_good fs r st1 st' h (by simpa using hl) g1
      refine ⟨g2, ?_, ?_⟩
      · rw [n2, n1, List.filter_cons, List.filter_cons]
        split <;> simp [List.filter_nil] <;> omega
      · rw [m2, m1, List.filter_cons, List.filter_cons]
        split <;> simp [List.filter_nil] <;> omega
theorem cmdOf_mem {s : ByteArray} {c : Cmd} : ∀ {cs : List Cmd}, cmdOf s cs = some c → c ∈ cs
  | [], h => by cases h
  | d :: r, h => by
    rw [cmdOf] at h
    split at h
    · cases h; exact List.mem_cons_self ..
    · exact List.mem_cons_of_mem _ (cmdOf_mem h)

theorem len1 {α : Type} {l : List α} (h : l.length = 1) : ∃ a, l = [a] := List.length_eq_one_iff.1 h
theorem len2 {α : Type} {l : List α} (h : l.length = 2) : ∃ a b, l = [a, b] := by
  match l, h with
  | [a, b], _ => exact ⟨a, b, rfl⟩
theorem len4 {α : Type} {l : List α} (h : l.length = 4) : ∃ a b c d, l = [a, b, c, d] := by
  match l, h with
  | [a, b, c, d], _ => exact ⟨a, b, c, d, rfl⟩
theorem name_len {n : List UInt8} (h : ∃ ls, Nm.labels n = some ls) : n.length ≤ 1099511627776 := by
  obtain ⟨ls, hl⟩ := h
  have := (Nm.labels_some hl).2.2
  omega

theorem tell_enter {f : Nat} (h : f = 37 ∨ f = 40 ∨ f = 41 ∨ f = 42 ∨ f = 43 ∨ f = 44 ∨ f = 46 ∨ f = 47) (args : Array Value) (w : World) : (callFunc f args).run Tryz.prog w = .ok (.enter f args) w := by
  rcases h with rfl | rfl | rfl | rfl | rfl | rfl | rfl | rfl
  · exact enter_of Tryz.func37 (by kernel_rfl) (by kernel_rfl) args w
  · exact enter_of Tryz.func40 (by kernel_rfl) (by kernel_rfl) args w
  · exact enter_of Tryz.func41 (by kernel_rfl) (by kernel_rfl) args w
  · exact enter_of Tryz.func42 (by kernel_rfl) (by kernel_rfl) args w
  · exact enter_of Tryz.func43 (by kernel_rfl) (by kernel_rfl) args w
  · exact enter_of Tryz.func44 (by kernel_rfl) (by kernel_rfl) args w
  · exact enter_of Tryz.func46 (by kernel_rfl) (by kernel_rfl) args w
  · exact enter_of Tryz.func47 (by kernel_rfl) (by kernel_rfl) args w

/-- A command that has read its words tells what tellT says. -/
theorem tell_calls (c : Cmd) (hc : c ∈ cmds) (st : St) (hg : Good st) (hn : st.ns.length = (c.reads.filter (· == 34)).length) (hm : st.names.length = (c.reads.filter (· == 35)).length) (W : World) (b : Nat) (hW : StAt W b st) (hV : Vars W) :
    Calls Tryz.prog c.tell #[.pointer (some ⟨b, 0, none⟩)] W fun e w' => e = .returned (.string (txt (tellT c.tell st))) ∧ Below W.heap.size W w' := by
  obtain ⟨ns, names, bs⟩ := st
  unfold StAt at hW
  simp only [Good] at *
  simp only [cmds, List.mem_cons, List.not_mem_nil, or_false] at hc
  rcases hc with rfl | rfl | rfl | rfl | rfl | rfl | rfl | rfl
  · obtain ⟨a, rfl⟩ := len1 (show names.length = 1 from hm)
    exact tellCount_calls W b ns a bs hW hV (name_len (hg.1 a (by simp)))
  · obtain ⟨a, rfl⟩ := len1 (show names.length = 1 from hm)
    exact tellFold_calls W b ns a bs hW hV (name_len (hg.1 a (by simp)))
  · obtain ⟨x, y, rfl⟩ := len2 (show names.length = 2 from hm)
    exact tellAbove_calls W b ns x y bs hW (name_len (hg.1 x (by simp))) (name_len (hg.1 y (by simp)))
  · obtain ⟨x, y, rfl⟩ := len2 (show names.length = 2 from hm)
    exact tellCompare_calls W b ns x y bs hW (name_len (hg.1 x (by simp))) (name_len (hg.1 y (by simp)))
  · obtain ⟨x, y, z, u, rfl⟩ := len4 (show ns.length = 4 from hn)
    exact tellSize_calls W b x y z u names bs hW hV
  · obtain ⟨x, y, rfl⟩ := len2 (show ns.length = 2 from hn)
    exact tellRoom_calls W b x y names bs hW hV (by have := hg.2 x (by simp); omega) (by have := hg.2 y (by simp); omega)
  · obtain ⟨x, y, rfl⟩ := len2 (show ns.length = 2 from hn)
    obtain ⟨a, rfl⟩ := len1 (show names.length = 1 from hm)
    obtain ⟨ls, hl⟩ := hg.1 a (by simp)
    exact tellQuery_calls W b x y a ls bs hW hV hl
  · exact tellGet_calls W b ns names bs hW hV

theorem told_len (l : List UInt8) (c : Int) (h0 : 0 ≤ c) (h1 : c ≤ 1000000) : (Nu.told l c).length ≤ l.length + 106 := by
  unfold Nu.told
  split
  · omega
  · have := itoa_len c (by omega) (by omega)
    simp only [List.length_append, List.length_cons, List.length_nil]
    omega
theorem textE_len (l : List UInt8) : (Nm.textE l).1.length ≤ 100000 := by
  unfold Nm.textE
  cases h : Nm.labels l with
  | none => simp
  | some ls =>
    have hf := (Nm.labels_some h).2.1
    have hl := (Nm.labels_some h).2.2
    rw [(Nm.labels_some h).1] at hl
    have hp := Nm.enc_length_pos ls
    have ht := text_acc_len ls hf ls.length
    rw [List.take_of_length_le (Nat.le_refl _)] at ht
    simp only [Nm.wire, List.length_append, List.length_cons, List.length_nil] at hl
    show (Nm.text ls).length ≤ 100000
    unfold Nm.text
    split
    · simp
    · have : 253 * ls.length ≤ 253 * 255 := Nat.mul_le_mul_left _ (by omega)
      omega
theorem hexB_len (l : List UInt8) : (l.flatMap Nu.hexB).length = 2 * l.length := by
  induction l with
  | nil => rfl
  | cons x r ih => rw [List.flatMap_cons, List.length_append, ih]; simp [Nu.hexB]; omega
theorem queryE_len (x : Nat) (a : List UInt8) (y : Nat) : (Ms.queryE x a y).1.length ≤ 1000 ∧ 0 ≤ (Ms.queryE x a y).2 ∧ (Ms.queryE x a y).2 ≤ 1000 := by
  unfold Ms.queryE
  split
  · have h1 := Ms.query_length x (Nm.fold a) y
    have h2 := Nm.fold_le a
    simp only
    omega
  · simp
theorem getText_len (l : List UInt8) : (Nu.getText l).length ≤ 1000 := by
  unfold Nu.getText
  cases h : Rd.get l with
  | error x =>
    have := Rd.get_err h
    have h2 := told_len [] x (by omega) (by omega)
    exact Nat.le_trans h2 (by decide)
  | ok k =>
    have hk : k.1 ≤ 65535 ∧ k.2.1 ≤ 65535 ∧ k.2.2.1 ≤ 65535 ∧ k.2.2.2 ≤ 65535 := by
      unfold Rd.get at h
      split at h
      · cases h
      · split at h
        · cases h
        · split at h
          · cases h
          · cases h
            exact ⟨Rd.two_lt _ _, Rd.two_lt _ _, Rd.two_lt _ _, Rd.two_lt _ _⟩
    have l1 := itoa_len (k.1 : Int) (by omega) (by omega)
    have l2 := itoa_len (k.2.1 : Int) (by omega) (by omega)
    have l3 := itoa_len (k.2.2.1 : Int) (by omega) (by omega)
    have l4 := itoa_len (k.2.2.2 : Int) (by omega) (by omega)
    simp only [List.length_append, List.length_cons, List.length_nil]
    omega
theorem room_range (x y : Nat) (h : y < 10000000000) : 0 ≤ Nu.room x y ∧ Nu.room x y ≤ 1000000000000 := by
  unfold Nu.room
  split
  · simp
  · have h3 := Int.emod_lt_of_pos ((y : Int) - ((x : Int) + 4) % y) (show (0 : Int) < y by omega)
    have h4 := Int.emod_nonneg ((y : Int) - ((x : Int) + 4) % y) (show (y : Int) ≠ 0 by omega)
    omega

theorem tellT_len (f : Nat) (st : St) (hg : Good st) : (tellT f st).length ≤ 200000 := by
  unfold tellT
  split
  · have := Nm.count_le (st.names.getD 0 [])
    exact Nat.le_trans (itoa_len _ (by omega) (by omega)) (by decide)
  · split
    · have h1 := Nm.textE_err (Nm.fold (st.names.getD 0 []))
      have h2 := textE_len (Nm.fold (st.names.getD 0 []))
      have h3 := told_len (Nm.textE (Nm.fold (st.names.getD 0 []))).1 (Nm.textE (Nm.fold (st.names.getD 0 []))).2 h1.1 (by omega)
      omega
    · split
      · split <;> simp
      · split
        · unfold Nu.cmpText
          split
          · simp
          · split <;> simp
        · split
          · have h1 := Nu.size_range (st.ns.getD 0 0) (st.ns.getD 1 0) (st.ns.getD 2 0) (st.ns.getD 3 0)
            have h2 := itoa_len (Nu.size (st.ns.getD 0 0) (st.ns.getD 1 0) (st.ns.getD 2 0) (st.ns.getD 3 0)).1 (by omega) (by omega)
            have h3 := told_len (Lib.itoa (Nu.size (st.ns.getD 0 0) (st.ns.getD 1 0) (st.ns.getD 2 0) (st.ns.getD 3 0)).1) (Nu.size (st.ns.getD 0 0) (st.ns.getD 1 0) (st.ns.getD 2 0) (st.ns.getD 3 0)).2 h1.2.2.1 h1.2.2.2
            omega
          · split
            · have hy : st.ns.getD 1 0 < 10000000000 := by
                rw [List.getD_eq_getElem?_getD]
                cases h : st.ns[1]? with
                | none => simp
                | some x => exact hg.2 x (List.mem_of_getElem? h)
              have := room_range (st.ns.getD 0 0) (st.ns.getD 1 0) hy
              exact Nat.le_trans (itoa_len _ (by omega) (by omega)) (by decide)
            · split
              · have h1 := queryE_len (st.ns.getD 0 0) (st.names.getD 0 []) (st.ns.getD 1 0)
                have h3 := told_len ((Ms.queryE (st.ns.getD 0 0) (st.names.getD 0 []) (st.ns.getD 1 0)).1.flatMap Nu.hexB) (Ms.queryE (st.ns.getD 0 0) (st.names.getD 0 []) (st.ns.getD 1 0)).2 h1.2.1 (by omega)
                rw [hexB_len] at h3
                omega
              · exact Nat.le_trans (getText_len _) (by decide)

theorem good_nil : Good ⟨[], [], []⟩ := ⟨fun n h => (by cases h), fun x h => (by cases h)⟩
theorem readAll_err : ∀ (fs : List Nat) (args : List (List UInt8)) (st : St) (c : Int), Nu.readAll fs args st = .error c → 0 < c ∧ c ≤ 2800
  | [], [], _, _, h => by cases h
  | [], _ :: _, _, _, h => by cases h
  | _ :: _, [], _, _, h => by cases h
  | f :: fs, a :: r, st, c, h => by
    rw [Nu.readAll] at h
    cases hro : Nu.readOne f a st with
    | error e =>
      rw [hro] at h
      cases h
      exact readOne_err hro
    | ok st1 =>
      rw [hro] at h
      exact readAll_err fs r st1 c h

theorem tells_ok : TellsOk tellT := by
  intro W r l g cap ws hB hV hg hcells hne hsz hln
  match ws, hne with
  | key :: args, _ =>
    have hlen : (key :: args).length = args.length + 1 := rfl
    have hkey : W.cell? ⟨g, 0, none⟩ = some (.string key) := hcells 0 key rfl
    have hk2 : txt key.data.toList = key := txt_of key
    simp only [List.map_cons, Nu.tells, hk2]
    cases hf : cmdOf key cmds with
    | none =>
      have hfn := hB.2 key
      rw [hf] at hfn
      refine (tells_none W r l hB.1 hV g _ cap key hkey (by simp) hfn).mono ?_
      rintro e w' ⟨h1, h2⟩
      exact ⟨h1, h2, Nat.le_trans (told_len [] 2800 (by decide) (by decide)) (by decide)⟩
    | some c =>
      have hmem := cmdOf_mem hf
      dsimp only
      by_cases hcnt : args.length = c.reads.length
      · rw [if_neg (by rw [List.length_map]; exact fun h => h hcnt)]
        have hreads : (∀ f ∈ c.reads, f = 34 ∨ f = 35 ∨ f = 36) ∧ c.reads.length ≤ 4 ∧ (c.tell = 37 ∨ c.tell = 40 ∨ c.tell = 41 ∨ c.tell = 42 ∨ c.tell = 43 ∨ c.tell = 44 ∨ c.tell = 46 ∨ c.tell = 47) := by
          simp only [cmds, List.mem_cons, List.not_mem_nil, or_false] at hmem
          rcases hmem with rfl | rfl | rfl | rfl | rfl | rfl | rfl | rfl <;> simp
        have hgood := fun st h => readAll_good c.reads (args.map fun x => x.data.toList) ⟨[], [], []⟩ st h (by rw [List.length_map]; exact hcnt) good_nil
        have hK := tells_known tellT W r l c hB hV g cap key (args.map fun x => x.data.toList) hkey
          (fun j x hx => by
            rw [List.getElem?_map] at hx
            obtain ⟨y, hy, rfl⟩ := Option.map_eq_some_iff.1 hx
            rw [txt_of]
            exact hcells (j + 1) y (by simpa using hy)) hg
          (fun x hx => by
            obtain ⟨y, hy, rfl⟩ := List.mem_map.1 hx
            have := hsz y (List.mem_cons_of_mem _ hy)
            rw [← Lib.size_eq]
            omega) hf (by rw [List.length_map]; exact hcnt) hreads.1 hreads.2.1 (tell_enter hreads.2.2)
          (fun st h W' b hS hV' => by
            obtain ⟨h1, h2, h3⟩ := hgood st h
            exact tell_calls c hmem st h1 (by simpa using h2) (by simpa using h3) W' b hS hV')
        rw [hlen, hcnt]
        refine hK.mono ?_
        rintro e w' ⟨h1, h2⟩
        rw [h1]
        cases hr : Nu.readAll c.reads (args.map fun x => x.data.toList) ⟨[], [], []⟩ with
        | ok st => exact ⟨rfl, h2, Nat.le_trans (tellT_len _ _ (hgood st hr).1) (by decide)⟩
        | error x =>
          have := readAll_err _ _ _ _ hr
          exact ⟨rfl, h2, Nat.le_trans (told_len [] x (by omega) (by omega)) (by decide)⟩
      · rw [if_pos (by rw [List.length_map]; exact hcnt)]
        refine (tells_count W r l c hB hV g _ cap key hkey (by simp) (by simp at hln ⊢; omega) hf (by rw [hlen]; omega)).mono ?_
        rintro e w' ⟨h1, h2⟩
        exact ⟨h1, h2, Nat.le_trans (told_len [] 2800 (by decide) (by decide)) (by decide)⟩

/-- console.Run, in full. -/
def runE (s : ByteArray) : List UInt8 × Int := if 16384 < s.size then ([], 2801) else (Nu.runOut tellT s, 0)
theorem run_calls (s : ByteArray) (w : World) (hV : Vars w) : Calls Tryz.prog 9 #[.string s] w fun e w' => e = .returned (.tuple #[.string (txt (runE s).1), .int .i64 (runE s).2]) ∧ Below w.heap.size w w' := by
  unfold runE
  split
  · rename_i h
    refine (run_long s w h).mono ?_
    rintro e w' ⟨h1, rfl⟩
    exact ⟨h1, Below.refl _ _⟩
  · rename_i h
    exact run_short tellT tells_ok s w (by omega) hV
end Go.Proofs.YtolbfeggceemfaaGreatDoor
