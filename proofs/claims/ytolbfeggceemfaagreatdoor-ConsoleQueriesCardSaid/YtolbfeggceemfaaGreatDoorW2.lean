/-
  The walks of comp.New, (*comp.Writer).Raw, All and of wire's writer: raw. Condition: the writer's blocks are laid; the bytes stay within a message's greatest length.
-/
import Derived.Test.YtolbfeggceemfaaGreatDoorW1
import Derived.Test.YtolbfeggceemfaaGreatDoorC6
namespace Go.Proofs.YtolbfeggceemfaaGreatDoor
open Go.RowKit

/-- A writer of names in block c: its bytes, its map in block r. -/
def CwAt (w : World) (r c : Nat) (bs : List UInt8) : Prop :=
  r < c ∧ ∃ v, w.heap[c]? = some (.cells #[v, .map (some r)] 208 (0, 0)) ∧ w.ownsRow (c + 1) 5 1 v bs.length (Lib.byteCells bs)
theorem CwAt.lt {w : World} {r c : Nat} {bs : List UInt8} (h : CwAt w r c bs) : c < w.heap.size := by
  obtain ⟨_, v, hk, _⟩ := h
  exact (Array.getElem?_eq_some_iff.1 hk).1
theorem CwAt.below {w w' : World} {r c B : Nat} {bs : List UInt8} (h : CwAt w r c bs) (hb : Below B w w') (hB : w.heap.size ≤ B) : CwAt w' r c bs := by
  have hlt := h.lt
  obtain ⟨h1, v, hk, h2⟩ := h
  exact ⟨h1, v, (hb.block c (by omega)).trans hk, own_below h2 hb hB⟩

theorem own_kind {w : World} {B n : Nat} {e : TypeId} {v : Value} {xs : List Value} (h : w.ownsRow B e 1 v n xs) : ∀ g, v.ownBlock = some g → ∃ c fz, w.heap[g]? = some (.cells c e fz) := by
  intro g hg
  rcases h.2 with ⟨rfl, _⟩ | ⟨g', cap, cur, rfl, _, hgg, _⟩
  · simp [Value.ownBlock] at hg
  · simp [Value.ownBlock] at hg
    subst hg
    exact ⟨cur, _, hgg⟩
theorem own_bytes {w : World} {B : Nat} {v : Value} {l : List UInt8} {s : ByteArray} (h : w.ownsRow B 5 1 v (l.length + s.size) (Lib.byteCells l ++ Lib.strCells s)) : w.ownsRow B 5 1 v (l ++ s.data.toList).length (Lib.byteCells (l ++ s.data.toList)) := by
  have e : Lib.strCells s = Lib.byteCells s.data.toList := by rw [← strCells_txt, txt_of]
  rw [Lib.byteCells_append, List.length_append, ← Lib.size_eq, ← e]
  exact h

set_option maxHeartbeats 1000000 in
set_option maxRecDepth 100000 in
theorem new_calls (w : World) : Calls Tryz.prog 132 #[] w fun e w' => e = .returned (.pointer (some ⟨w.heap.size + 1, 0, none⟩)) ∧ Below w.heap.size w w' ∧ CwAt w' w.heap.size (w.heap.size + 1) [] ∧ MapIs w' w.heap.size [] := by
  have hmm := @run_makeMap Tryz.prog
  go_enter Tryz.func132, Tryz.ntmps132
  go_wp2
  go_ret
  refine ⟨rfl, ((Below.refl _ w).alloc (Nat.le_refl _) _).alloc (by simp) _, ⟨Nat.lt_succ_self _, .slice none 0 0, ?_, World.ownsRow_nil _ _ _ _⟩, mapIs_alloc (l := []) (heap_alloc_new w _) _⟩
  have := heap_alloc_new (w.alloc (.map #[] 0)) (.cells #[.slice none 0 0, .map (some w.heap.size)] 208)
  have e : (w.alloc (.map #[] 0)).heap.size = w.heap.size + 1 := by simp
  rw [e] at this
  exact this

set_option maxHeartbeats 1000000 in
set_option maxRecDepth 100000 in
theorem cwRaw_calls (w : World) (r c : Nat) (bs : List UInt8) (s : ByteArray) (hC : CwAt w r c bs) (hlen : bs.length + s.size ≤ 4096) :
    Calls Tryz.prog 153 #[.pointer (some ⟨c, 0, none⟩), .string s] w fun e w' => e = .returned (.int .i64 0) ∧ CwAt w' r c (bs ++ s.data.toList) ∧ Below c w w' ∧ Lib.OthersKept 5 (some c) w w' := by
  obtain ⟨i0, hi, hz0, hz1, hz2⟩ := info_parts Tryz.info5
  have hlt := hC.lt
  obtain ⟨hrc, v, hk, hown⟩ := hC
  obtain ⟨vo, vc, rfl⟩ := own_form hown
  have c0 : w.cell? ⟨c, 0, none⟩ = some (.slice vo bs.length vc) := by rw [Lib.cell_of_heap hk]; rfl
  have q : ((4096 : Int) - (bs.length : Int) < (s.size : Int)) = False := by simp; omega
  have HK := Lib.hid hk
  clear hk
  go_enter Tryz.func153, Tryz.ntmps153
  go_wp2_with (at_builtin; refine Lib.wpList_append_own_string _ rfl _ _ 47 9 rfl (c + 1) 5 i0 Tryz.underlying47 Tryz.underlying9 hi hz0 hz1 hz2 _ _ _ rfl hown s rfl ?c3 ?c4 ?c5 ?_)
  case c3 => unfold maxLen; omega
  case c4 => omega
  case c5 => omega
  intro v' w2 hown' hgrow hnil
  have hne : (Value.slice vo bs.length vc).ownBlock ≠ some c := fun e => by have := (hown.lt c e).1; omega
  have hb2 := below_app0 (Below.refl c w) (Nat.le_succ c) (by omega) hown hgrow
  have hk2 : w2.heap[c]? = some (.cells #[.slice vo bs.length vc, .map (some r)] 208 (0, 0)) := by
    rw [hgrow.block c hlt (fun e => hne e.symm)]
    exact HK.out
  have c2 : w2.cell? ⟨c, 0, none⟩ = some (.slice vo bs.length vc) := by rw [Lib.cell_of_heap hk2]; rfl
  have f2 : w2.frozen? ⟨c, 0, none⟩ = false := Lib.frozen_of_heap hk2 0
  have hok := ((Lib.OthersKept.refl 5 (some c) w).grown hgrow (own_kind hown))
  obtain ⟨vo', vc', rfl⟩ := own_form hown'
  have HK2 := Lib.hid hk2
  have HG := Lib.hid hgrow
  have HN := Lib.hid hnil
  clear hk2 hgrow c0 q hnil
  go_wp2
  go_ret
  refine ⟨rfl, ⟨hrc, .slice vo' (bs.length + s.size) vc', Lib.heap_setCell_same HK2.out _, ownsRow_setCell_below (own_bytes hown') (Nat.lt_succ_self c) _⟩, hb2.setCell (p := ⟨c, 0, none⟩) (Nat.le_refl _) _, hok.setCell ⟨c, 0, none⟩ rfl _⟩

/-- wire's writer in block b over a writer of names. -/
def WwAt (w : World) (r c b : Nat) (bs : List UInt8) : Prop := CwAt w r c bs ∧ c < b ∧ w.heap[b]? = some (.cells #[.pointer (some ⟨c, 0, none⟩), .bool false] 173 (0, 0))
theorem WwAt.lt {w : World} {r c b : Nat} {bs : List UInt8} (h : WwAt w r c b bs) : b < w.heap.size := (Array.getElem?_eq_some_iff.1 h.2.2).1
theorem WwAt.below {w w' : World} {r c b B : Nat} {bs : List UInt8} (h : WwAt w r c b bs) (hb : Below B w w') (hB : w.heap.size ≤ B) : WwAt w' r c b bs :=
  ⟨h.1.below hb hB, h.2.1, (hb.block b (Nat.lt_of_lt_of_le h.lt hB)).trans h.2.2⟩

set_option maxHeartbeats 1000000 in
set_option maxRecDepth 100000 in
theorem wwRaw_calls (w : World) (r c b : Nat) (bs : List UInt8) (s : ByteArray) (hW : WwAt w r c b bs) (hlen : bs.length + s.size ≤ 4096) :
    Calls Tryz.prog 133 #[.pointer (some ⟨b, 0, none⟩), .string s] w fun e w' => e = .returned (.tuple #[]) ∧ WwAt w' r c b (bs ++ s.data.toList) ∧ Below c w w' ∧ (∀ k o, w.heap[k]? = some o → k ≠ c → k ≠ b → (∀ d fz, o ≠ .cells d 5 fz) → w'.heap[k]? = some o) := by
  obtain ⟨hC, hcb, hk⟩ := hW
  have k0 : w.cell? ⟨b, 0, none⟩ = some (.pointer (some ⟨c, 0, none⟩)) := by rw [Lib.cell_of_heap hk]; rfl
  have HK := Lib.hid hk
  clear hk
  go_enter Tryz.func133, Tryz.ntmps133
  go_wp2_with (go_at_call 153; refine (cwRaw_calls _ r c bs s hC hlen).mono ?_)
  rintro e w1 ⟨rfl, hC1, hb1, ho1⟩
  have hk1 := ho1 b _ HK.out (fun e => by have := Option.some.inj e; omega) (fun c fz e => by cases e)
  have k1 : w1.cell? ⟨b, 1, none⟩ = some (.bool false) := by rw [Lib.cell_of_heap hk1]; rfl
  have f1 : w1.frozen? ⟨b, 1, none⟩ = false := Lib.frozen_of_heap hk1 1
  have HK1 := Lib.hid hk1
  clear hk1 k0
  go_wp2
  go_end0
  have hCs := hC1
  obtain ⟨hrc, v, hkc, hown⟩ := hC1
  have hne : v.ownBlock ≠ some b := fun e => by
    obtain ⟨d, fz, hd⟩ := own_kind hown b e
    rw [HK1.out] at hd
    cases hd
  refine ⟨rfl, ⟨⟨hrc, v, (Below.heap_setCell _ _ _ _ (by show c ≠ b; omega)).trans hkc, ownsRow_setCell_other hown hne _⟩, hcb, Lib.heap_setCell_same HK1.out _⟩, hb1.setCell (p := ⟨b, 1, none⟩) (by show c ≤ b; omega) _, fun k o hk hkc hkb ho => (Below.heap_setCell _ _ _ _ hkb).trans (ho1 k o hk (fun e => hkc (Option.some.inj e)) ho)⟩

set_option maxHeartbeats 1000000 in
set_option maxRecDepth 100000 in
theorem cwAll_calls (w : World) (r c : Nat) (bs : List UInt8) (hC : CwAt w r c bs) :
    Calls Tryz.prog 137 #[.pointer (some ⟨c, 0, none⟩)] w fun e w' => e = .returned (.string (txt bs)) ∧ w = w' := by
  obtain ⟨hrc, v, hk, hown⟩ := hC
  obtain ⟨vo, vc, rfl⟩ := own_form hown
  have c0 : w.cell? ⟨c, 0, none⟩ = some (.slice vo bs.length vc) := by rw [Lib.cell_of_heap hk]; rfl
  have hcv := own_conv hown
  have HK := Lib.hid hk
  clear hk
  go_enter Tryz.func137, Tryz.ntmps137
  go_wp2
  go_ret
  exact ⟨rfl, rfl⟩
end Go.Proofs.YtolbfeggceemfaaGreatDoor
