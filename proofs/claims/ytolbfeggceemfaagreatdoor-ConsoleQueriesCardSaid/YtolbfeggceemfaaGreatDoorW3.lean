/-
  The walk of (*comp.Writer).Name, the map still empty, or the name the root. Condition: the name is one; the bytes stay within a message's greatest length.
-/
import Derived.Test.YtolbfeggceemfaaGreatDoorW2
namespace Go.Proofs.YtolbfeggceemfaaGreatDoor
open Go.RowKit

theorem map206_insert (w : World) (r : Nat) (l : List (ByteArray × Value)) (s : ByteArray) (v : Value) (h : MapIs w r l) (hf : found s l = none) :
    (Instr.mapUpdate 206 (.map (some r)) (.string s) v).run Tryz.prog w = .ok () (mapWorld w r (l ++ [(s, v)])) := by
  obtain ⟨k, hk⟩ := findNow_ents s l 0 0
  rw [hf, Option.map_none] at hk
  have hc : (Instr.checkKey false 10000 9 (.string s)).run Tryz.prog w = .ok () w := MapKept.run_checkKey (k := .string s) Tryz.underlying9 (by simp [MapKept.IsKey]) false 9999
  have e : (ents 0 l).toArray.push { key := .string s, val := v, born := l.length } = (ents 0 (l ++ [(s, v)])).toArray := by
    rw [ents_append, Nat.zero_add]; simp
  simp [Instr.mapUpdate, run_underlying Tryz.underlying206, MapKept.run_getObj_map h, hc, MapKept.run_findKey Tryz.underlying9 hk, MapKept.run_setObj_map _ h, Result.andThen, mapWorld, e]
theorem map206_lookup_not (w : World) (r : Nat) (l : List (ByteArray × Value)) (s : ByteArray) (h : MapIs w r l) (hf : found s l = none) :
    (Instr.lookup 206 (.map (some r)) (.string s) true).run Tryz.prog w = .ok (.tuple #[.int .i64 0, .bool false]) w := by
  obtain ⟨k, hk⟩ := findNow_ents s l 0 0
  rw [hf, Option.map_none] at hk
  have hc : ∀ e, (Instr.checkKey e 10000 9 (.string s)).run Tryz.prog w = .ok () w := fun e => MapKept.run_checkKey (k := .string s) Tryz.underlying9 (by simp [MapKept.IsKey]) e 9999
  simp [Instr.lookup, run_underlying Tryz.underlying206, MapKept.run_getObj_map h, hc, MapKept.run_findKey Tryz.underlying9 hk, Result.andThen]

theorem own_cap {w : World} {B n m g cap : Nat} {e : TypeId} {xs : List Value} (h : w.ownsRow B e m (.slice (some ⟨g, 0, none⟩) n cap) n xs) : n ≤ cap := by
  rcases h.2 with ⟨hv, _⟩ | ⟨g', cap', cur, hv, _, _, hc, _⟩
  · cases hv
  · cases hv
    exact hc
theorem own_same {w w' : World} {B n m : Nat} {e : TypeId} {v : Value} {xs : List Value} (h : w.ownsRow B e m v n xs) (hk : ∀ g, B ≤ g → w'.heap[g]? = w.heap[g]?) : w'.ownsRow B e m v n xs := by
  refine ⟨h.1, ?_⟩
  rcases h.2 with hn | ⟨g, cap, cur, rfl, hg, hgg, rest⟩
  · exact .inl hn
  · exact .inr ⟨g, cap, cur, rfl, hg, by rw [hk g hg]; exact hgg, rest⟩
theorem found_none {s : ByteArray} : ∀ {l : List (ByteArray × Value)}, (∀ y ∈ l, y.1 ≠ s) → found s l = none
  | [], _ => rfl
  | (t, v) :: r, h => by
    rw [found, if_neg (h (t, v) (by simp))]
    exact found_none fun y hy => h y (by simp [hy])
theorem cell_same {w w' : World} {p : Addr} (h : w'.heap[p.block]? = w.heap[p.block]?) : w'.cell? p = w.cell? p := World.cell?_of_block (w := w) h
theorem below_others {w w' : World} {b : Option Nat} (h : Below w.heap.size w w') : Lib.OthersKept 5 b w w' := fun k _ hk _ _ => (h.block k (Array.getElem?_eq_some_iff.1 hk).1).trans hk

set_option maxHeartbeats 2000000 in
set_option maxRecDepth 100000 in
theorem cwRoot_calls (w : World) (r c : Nat) (bs : List UInt8) (hC : CwAt w r c bs) (hlen : bs.length + 1 ≤ 4096) :
    Calls Tryz.prog 154 #[.pointer (some ⟨c, 0, none⟩), .string (txt [0])] w fun e w' => e = .returned (.int .i64 0) ∧ CwAt w' r c (bs ++ [0]) ∧ Below c w w' ∧ Lib.OthersKept 5 (some c) w w' := by
  obtain ⟨i0, hi, hz0, hz1, hz2⟩ := info_parts Tryz.info5
  have hlt := hC.lt
  have hp := fun W => places_yes (txt [0]) [] (by rw [txt_data]; rfl) W (by rw [txt_size]; decide)
  have HP := Lib.hid hp
  have HC := Lib.hid hC
  clear hp hC
  go_enter Tryz.func154, Tryz.ntmps154
  go_wp2_with (go_at_call 57; refine (HP.out _).mono ?_; rintro e w1 ⟨g, cap, rfl, hg, hg2, _, _, hb1⟩)
  have hC1 := HC.out.below hb1 (Nat.le_refl _)
  have hlt1 := hC1.lt
  obtain ⟨hrc, v, hk, hown⟩ := hC1
  obtain ⟨vo, vc, rfl⟩ := own_form hown
  have c0 : w1.cell? ⟨c, 0, none⟩ = some (.slice vo bs.length vc) := by rw [Lib.cell_of_heap hk]; rfl
  have hts : (txt [0]).size = 1 := rfl
  have q : ((4096 : Int) - (bs.length : Int) < 1) = False := by simp; omega
  have HK := Lib.hid hk
  clear hk
  refine wp_loop_rounds 1 ?_
  rw [rounds_succ]
  go_wp2_with fail
  refine wp_loop_rounds 1 ?_
  rw [rounds_succ]
  go_wp2_with (at_builtin; refine Lib.wpList_append_own_string _ rfl _ _ 47 9 rfl (c + 1) 5 i0 Tryz.underlying47 Tryz.underlying9 hi hz0 hz1 hz2 _ _ _ rfl hown (txt [0]) rfl ?c3 ?c4 ?c5 ?_)
  case c3 => unfold maxLen; omega
  case c4 => omega
  case c5 => omega
  intro v' w2 hown' hgrow _
  have hne : (Value.slice vo bs.length vc).ownBlock ≠ some c := fun e => by have := (hown.lt c e).1; omega
  have hb2 := below_app0 (hb1.mono (B' := c) (by omega)) (Nat.le_succ c) (by omega) hown hgrow
  have hk2 : w2.heap[c]? = some (.cells #[.slice vo bs.length vc, .map (some r)] 208 (0, 0)) := by
    rw [hgrow.block c hlt1 (fun e => hne e.symm)]
    exact HK.out
  have c2 : w2.cell? ⟨c, 0, none⟩ = some (.slice vo bs.length vc) := by rw [Lib.cell_of_heap hk2]; rfl
  have f2 : w2.frozen? ⟨c, 0, none⟩ = false := Lib.frozen_of_heap hk2 0
  have hok : Lib.OthersKept 5 (some c) w w2 := (below_others hb1).grown hgrow (own_kind hown)
  obtain ⟨vo', vc', rfl⟩ := own_form hown'
  have HK2 := Lib.hid hk2
  have HG := Lib.hid hgrow
  clear hk2 hgrow c0 q
  go_wp2
  go_ret
  refine ⟨rfl, ⟨hrc, .slice vo' (bs.length + 1) vc', Lib.heap_setCell_same HK2.out _, ownsRow_setCell_below ?_ (Nat.lt_succ_self c) _⟩, hb2.setCell (p := ⟨c, 0, none⟩) (Nat.le_refl _) _, hok.setCell ⟨c, 0, none⟩ rfl _⟩
  have := own_bytes (s := txt [0]) hown'
  rwa [txt_data] at this

set_option maxHeartbeats 4000000 in
set_option maxRecDepth 100000 in
theorem cwName_calls (w : World) (r c : Nat) (n : List UInt8) (ls : List (List UInt8)) (bs : List UInt8) (hC : CwAt w r c bs) (hM : MapIs w r []) (hls : Nm.labels n = some ls) (hlen : bs.length + n.length ≤ 4096) :
    Calls Tryz.prog 154 #[.pointer (some ⟨c, 0, none⟩), .string (txt n)] w fun e w' => e = .returned (.int .i64 0) ∧ CwAt w' r c (bs ++ n) ∧ Below r w w' ∧ (∀ k o, w.heap[k]? = some o → k ≠ r → k ≠ c → (∀ d fz, o ≠ .cells d 5 fz) → w'.heap[k]? = some o) := by
  obtain ⟨i0, hi, hz0, hz1, hz2⟩ := info_parts Tryz.info5
  have hlt := hC.lt
  have hrc := hC.1
  have hp := fun W => places_yes (txt n) ls (by rw [txt_data]; exact hls) W (by rw [txt_size]; omega)
  have hfacts := Nm.labels_some hls
  have hnl : n.length = (Nm.enc ls).length + 1 := by rw [hfacts.1]; simp [Nm.wire]
  have hnl1 : (Nm.enc ls).length < n.length := by omega
  have hll := Nm.enc_length_pos ls
  have hoff : ∀ k, k ≤ ls.length → (Nm.offs 0 ls)[k]? = some (Nm.enc (ls.take k)).length := fun k hk => by
    have := Nm.offs_get ls 0 k hk
    rwa [Nat.zero_add] at this
  have hts : (txt n).size = n.length := txt_size n
  have HP := Lib.hid hp
  have HC := Lib.hid hC
  have HF := Lib.hid hfacts
  have HM := Lib.hid hM
  have HO := Lib.hid hoff
  clear hp hC hfacts hM hls hoff hnl
  go_enter Tryz.func154, Tryz.ntmps154
  go_wp2_with (go_at_call 57; refine (HP.out _).mono ?_; rintro e w1 ⟨g, cap, rfl, hg, hg2, hown, hps, hb1⟩; have hcap := own_cap hown; have HPS := Lib.hid hps; clear hps hown)
  go_loopg [7, 8, 35] ls.length (fun gg v7 v8 v35 wx => ∃ (k : Nat), v7 = .string (txt n) ∧ v8 = .int .i64 (ls.length : Int) ∧ v35 = .int .i64 (k : Int) ∧ k + gg = ls.length ∧ ∃ q, wx = w1.drewN q)
  case atStart => exact ⟨0, rfl, rfl, rfl, by omega, 0, rfl⟩
  case round =>
    obtain ⟨k, rfl, rfl, rfl, hk, q, rfl⟩ := hrel
    cases gk with
    | zero =>
      have hnk : ((k : Int) < (ls.length : Int)) = False := by simp; omega
      clear hk
      have hC1 := HC.out.below hb1 (Nat.le_refl _)
      have hlt1 := hC1.lt
      obtain ⟨_, v, hk, hown⟩ := hC1
      obtain ⟨vo, vc, rfl⟩ := own_form hown
      have c0 : w1.cell? ⟨c, 0, none⟩ = some (.slice vo bs.length vc) := by rw [Lib.cell_of_heap hk]; rfl
      have q : ((4096 : Int) - (bs.length : Int) < (n.length : Int)) = False := by simp; omega
      have HK := Lib.hid hk
      clear hk
      have cm : w1.cell? ⟨c, 1, none⟩ = some (.map (some r)) := by rw [Lib.cell_of_heap HK.out]; rfl
      have hM1 := (hb1.block r (by omega)).trans HM.out
      have HM1 := Lib.hid hM1
      clear hM1
      go_wp2_with fail
      go_loopg [74] ls.length (fun gg v74 wx => ∃ (k : Nat) (l : List (ByteArray × Value)), v74 = .int .i64 (k : Int) ∧ k + gg = ls.length ∧ MapIs wx r l ∧ Below r w1 wx ∧ Aside (∀ j, j ≠ r → wx.heap[j]? = w1.heap[j]?) ∧ wx.heap.size = w1.heap.size ∧ Aside (∀ y ∈ l, n.length < y.1.size + (Nm.enc (ls.take k)).length))
      case atStart => exact ⟨0, [], rfl, by omega, HM1.out, below_drewN' (Below.refl _ _) _, fun _ _ => rfl, rfl, by intro y hy; cases hy⟩
      case round =>
        obtain ⟨k2, l, rfl, hk2, hMr, hbr, HS, hsz, HL⟩ := hrel
        have hk3 := (HS.out c (by omega)).trans HK.out
        have c0r : wr.cell? ⟨c, 0, none⟩ = some (.slice vo bs.length vc) := by rw [Lib.cell_of_heap hk3]; rfl
        have cmr : wr.cell? ⟨c, 1, none⟩ = some (.map (some r)) := by rw [Lib.cell_of_heap hk3]; rfl
        have hownr : wr.ownsRow (c + 1) 5 1 (.slice vo bs.length vc) bs.length (Lib.byteCells bs) := own_same hown fun g hg => HS.out g (by omega)
        have HK3 := Lib.hid hk3
        have HSZ := Lib.hid hsz
        have hsz2 : c + 1 ≤ wr.heap.size := by omega
        clear hk3 c0 cm hsz
        cases gk with
        | zero =>
          have hnk2 : ((k2 : Int) < (ls.length : Int)) = False := by simp; omega
          clear hk2
          go_wp2_with (at_builtin; refine Lib.wpList_append_own_string _ rfl _ _ 47 9 rfl (c + 1) 5 i0 Tryz.underlying47 Tryz.underlying9 hi hz0 hz1 hz2 _ _ _ rfl hownr (txt n) rfl ?c3 ?c4 ?c5 ?_)
          case c3 => unfold maxLen; omega
          case c4 => omega
          case c5 => omega
          intro v' w2 hown' hgrow _
          have hne : (Value.slice vo bs.length vc).ownBlock ≠ some c := fun e => by have := (hownr.lt c e).1; omega
          have hb2 := below_app0 (hbr.trans (Below.refl r wr)) (show r ≤ c + 1 by omega) (by omega) hownr hgrow
          have hk2 : w2.heap[c]? = some (.cells #[.slice vo bs.length vc, .map (some r)] 208 (0, 0)) := by
            rw [hgrow.block c (by omega) (fun e => hne e.symm)]
            exact HK3.out
          have c2 : w2.cell? ⟨c, 0, none⟩ = some (.slice vo bs.length vc) := by rw [Lib.cell_of_heap hk2]; rfl
          have f2 : w2.frozen? ⟨c, 0, none⟩ = false := Lib.frozen_of_heap hk2 0
          have hok : Lib.OthersKept 5 (some r) wr w2 := (Lib.OthersKept.refl 5 (some r) wr).grown hgrow (own_kind hownr)
          obtain ⟨vo', vc', rfl⟩ := own_form hown'
          have HK2 := Lib.hid hk2
          have HG := Lib.hid hgrow
          have HOW := Lib.hid (own_bytes (s := txt n) hown')
          clear hk2 hgrow c0r cmr q hown'
          go_wp2
          go_ret
          have hown'' := HOW.out
          rw [txt_data] at hown''
          refine ⟨rfl, ⟨hrc, .slice vo' (bs.length + n.length) vc', Lib.heap_setCell_same HK2.out _, ownsRow_setCell_below (by simpa [hts] using hown'') (Nat.lt_succ_self c) _⟩, ((hb1.mono (B' := r) (by omega)).trans hb2).setCell (p := ⟨c, 0, none⟩) (by show r ≤ c; omega) _, ?_⟩
          intro j o hj hjr hjc ho
          rw [Below.heap_setCell _ _ _ _ hjc]
          refine hok j o ?_ (fun e => hjr (Option.some.inj e)) ho
          rw [HS.out j hjr, hb1.block j (Array.getElem?_eq_some_iff.1 hj).1]
          exact hj
        | succ g3 =>
          have hk' : k2 < ls.length := by omega
          have hpo := HO.out k2 (by omega)
          have hpl := Nm.enc_take_le ls k2
          have hcx := HPS.out k2 _ hpo
          have hps := Nm.enc_take_succ ls k2 hk'
          generalize hpp : (Nm.enc (ls.take k2)).length = p at *
          have c0g : wr.cell? ⟨g, k2, none⟩ = some (.int .i64 (p : Int)) := (cell_same (HS.out g (by omega))).trans hcx
          have hX : ((txt n).extract p n.length).size = n.length - p := by simp only [ByteArray.size_extract]; omega
          obtain ⟨X, hXe⟩ : ∃ X, (txt n).extract p n.length = X := ⟨_, rfl⟩
          rw [hXe] at hX
          have hfn : found X l = none := found_none fun y hy e => by
            have := HL.out y hy
            rw [e, hX] at this
            omega
          have hmu := map206_insert wr.drew r l X (.int .i64 ((bs.length : Int) + (p : Int))) hMr hfn
          have hkeep : (mapWorld wr.drew r (l ++ [(X, .int .i64 ((bs.length : Int) + (p : Int)))])).cell? ⟨c, 1, none⟩ = some (.map (some r)) :=
            (cell_same (w := wr) (mapWorld_block _ _ _ _ (by show c ≠ r; omega))).trans cmr
          rw [← hXe] at hmu hkeep hX
          have hle : ((bs.length : Int) + (p : Int) ≤ 16383) = True := by simp; omega
          have hpn : (p : Int) ≤ (n.length : Int) := by omega
          have HPX := Lib.hid (And.intro hps hX)
          clear hpo hcx hps hfn hX hXe hpp
          go_wp2_with fail
          go_region_held3 (fun w' => w'.cell? ⟨c, 1, none⟩ = some (.map (some r))) (first | assumption | exact cmr | exact hkeep) (fail)
          clear hmu
          go_wp2
          go_roundg g3
          case measure => omega
          case rel =>
            obtain ⟨hps, hX⟩ := HPX.out
            refine ⟨k2 + 1, l ++ [((txt n).extract p n.length, .int .i64 ((bs.length : Int) + (p : Int)))], by simp, by omega, mapWorld_is _ _ _ (Nat.lt_trans hrc (by show c < wr.heap.size; omega)), mapWorld_below hbr.drew (Nat.le_refl _), ?_, ?_, ?_⟩
            · intro j hj
              rw [mapWorld_block _ _ _ _ hj]
              exact HS.out j hj
            · rw [mapWorld_size]; exact HSZ.out
            · intro y hy
              rcases List.mem_append.1 hy with h | h
              · have := HL.out y h
                omega
              · simp at h
                subst h
                simp only [hX]
                omega
    | succ gg =>
      have hk' : k < ls.length := by omega
      have hpo := HO.out k (by omega)
      have hpl := Nm.enc_take_le ls k
      have hcx := HPS.out k _ hpo
      generalize (Nm.enc (ls.take k)).length = p at *
      have c0 : w1.cell? ⟨g, k, none⟩ = some (.int .i64 (p : Int)) := hcx
      have cc : ∀ W : Cls (fun w' => ∃ q, w' = w1.drewN q), W.w.cell? ⟨c, 1, none⟩ = some (.map (some r)) := fun W => by
        obtain ⟨q, hq⟩ := W.h
        obtain ⟨_, v, hk, _⟩ := HC.out
        rw [hq]
        show w1.cell? _ = _
        rw [hb1.cell (p := ⟨c, 1, none⟩) hlt, Lib.cell_of_heap hk]; rfl
      have lk : ∀ W : Cls (fun w' => ∃ q, w' = w1.drewN q), (Instr.lookup 206 (.map (some r)) (.string ((txt n).extract p n.length)) true).run Tryz.prog W.w = .ok (.tuple #[.int .i64 0, .bool false]) W.w := fun W => by
        refine map206_lookup_not W.w r [] _ ?_ rfl
        obtain ⟨q, hq⟩ := W.h
        rw [hq]
        exact (hb1.block r (by omega)).trans HM.out
      have hpn : (p : Int) ≤ (n.length : Int) := by omega
      clear hpo hcx
      go_wp2_with fail
      refine region_cls (fun w' => ∃ q, w' = w1.drewN q) (by kernel_rfl) (by kernel_rfl) ⟨q + 1, rfl⟩ (fun hne => ?_)
      repeat (go_big_quiet_step (fail))
      refine wpQuiet_nil ?_
      rintro w2 ⟨q2, rfl⟩
      clear cc lk
      go_wp2
      go_roundg gg
      case measure => omega
      case rel => exact ⟨k + 1, rfl, rfl, by simp, by omega, q2, rfl⟩
end Go.Proofs.YtolbfeggceemfaaGreatDoor
