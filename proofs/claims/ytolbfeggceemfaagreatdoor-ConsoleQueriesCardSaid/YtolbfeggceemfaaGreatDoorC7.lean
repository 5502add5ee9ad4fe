/-
  The walk of console.tells, what the commands tell left open. Condition: the map of commands is laid; the words are of at most a million bytes each, at most 100000 in number.
-/
import Derived.Test.YtolbfeggceemfaaGreatDoorC6
import Derived.Laws.EntriesVeiled
namespace Go.Proofs.YtolbfeggceemfaaGreatDoor
open Go.RowKit

/-- What the words of a command have been read to. -/
structure St where
  ns : List Nat
  names : List (List UInt8)
  bs : List UInt8
namespace Nu
def readOne (f : Nat) (a : List UInt8) (st : St) : Except Int St :=
  if f = 34 then (match number a with | some n => .ok { st with ns := st.ns ++ [n] } | none => .error 2800)
  else if f = 35 then (match Nm.parse a with | some n => .ok { st with names := st.names ++ [n] } | none => .error 100)
  else (match hex a with | some l => .ok { st with bs := l } | none => .error 2800)
def readAll : List Nat → List (List UInt8) → St → Except Int St
  | f :: fs, a :: r, st => (match readOne f a st with | .ok st' => readAll fs r st' | .error e => .error e)
  | _, _, st => .ok st
/-- What a line of words comes to, told by T. -/
def tells (T : Nat → St → List UInt8) : List (List UInt8) → List UInt8
  | [] => []
  | key :: args => match cmdOf (txt key) cmds with
    | none => told [] 2800
    | some c => if args.length ≠ c.reads.length then told [] 2800 else match readAll c.reads args ⟨[], [], []⟩ with
      | .ok st => T c.tell st
      | .error e => told [] e
end Nu

def StAt (w : World) (b : Nat) (st : St) : Prop := WordsAt w b st.ns st.names st.bs
def ReadPost (o : Except Int St) (b : Nat) (w : World) (e : Ending) (w' : World) : Prop :=
  Below b w w' ∧ match o with
    | .ok st => e = .returned (.int .i64 0) ∧ StAt w' b st
    | .error c => e = .returned (.int .i64 c) ∧ 0 < c ∧ c ≤ 2800
theorem read_calls (f : Nat) (hf : f = 34 ∨ f = 35 ∨ f = 36) (s : ByteArray) (w : World) (b : Nat) (st : St) (hs : s.size ≤ 1000000) (hW : StAt w b st) (hn : st.ns.length ≤ 1000) (hm : st.names.length ≤ 1000) (hV : Vars w) :
    Calls Tryz.prog f #[.pointer (some ⟨b, 0, none⟩), .string s] w (ReadPost (Nu.readOne f s.data.toList st) b w) := by
  rcases hf with rfl | rfl | rfl
  · refine (number_calls s w b _ _ _ hs hW hn hV).mono ?_
    rintro e w' ⟨hb, h⟩
    rw [Nu.readOne, if_pos rfl]
    cases hx : Nu.number s.data.toList with
    | some n => rw [hx] at h; exact ⟨hb, h.1, h.2⟩
    | none => rw [hx] at h; exact ⟨hb, h, by decide, by decide⟩
  · refine (name_calls s w b _ _ _ hs hW hm).mono ?_
    rintro e w' ⟨hb, h⟩
    rw [Nu.readOne, if_neg (by decide), if_pos rfl]
    cases hx : Nm.parse s.data.toList with
    | some n => rw [hx] at h; exact ⟨hb, h.1, h.2⟩
    | none => rw [hx] at h; exact ⟨hb, h, by decide, by decide⟩
  · refine (hex_calls s w b _ _ _ hs hW).mono ?_
    rintro e w' ⟨hb, h⟩
    rw [Nu.readOne, if_neg (by decide), if_neg (by decide)]
    cases hx : Nu.hex s.data.toList with
    | some n => rw [hx] at h; exact ⟨hb, h.1, h.2⟩
    | none => rw [hx] at h; exact ⟨hb, h, by decide, by decide⟩

theorem below_alloc8 (w : World) (_h : 8 ≤ w.heap.size) (o : Obj) : Below w.heap.size w (w.alloc o) := (Below.refl _ w).alloc (Nat.le_refl _) _
theorem Tryz.z74 (w : World) : (zeroValue 74).run Tryz.prog w = .ok (.agg #[.slice none 0 0, .nilFunc]) w := by kernel_rfl

set_option maxHeartbeats 1000000 in
set_option maxRecDepth 100000 in
theorem tells_none (w : World) (r : Nat) (l : List (ByteArray × Value)) (hM : MapIs w r l) (hV : Vars w) (g n cap : Nat) (key : ByteArray) (hc : w.cell? ⟨g, 0, none⟩ = some (.string key)) (hn : 0 < n) (hf : found key l = none) :
    Calls Tryz.prog 26 #[.map (some r), .slice (some ⟨g, 0, none⟩) n cap] w fun e w' => e = .returned (.string (txt (Nu.told [] 2800))) ∧ Below w.heap.size w w' := by
  have hlk := map_lookup_not w r l key _ hM hf (Tryz.z74 w)
  have HT := Lib.hid (fun W (hV : Vars W) => told_calls [] 2800 W hV (by omega) (by omega))
  have HV := Lib.hid hV
  have h8 := hV.size
  clear hV hM hf
  go_enter Tryz.func26, Tryz.ntmps26
  go_wp2_with (go_at_call 50; refine (HT.out _ (HV.out.below (below_alloc8 w h8 _) h8)).mono ?_; rintro e w2 ⟨rfl, hb2⟩)
  go_ret
  exact ⟨rfl, (below_alloc8 w h8 _).trans (hb2.mono (by simp))⟩

set_option maxHeartbeats 1000000 in
set_option maxRecDepth 100000 in
theorem tells_count (w : World) (r : Nat) (l : List (ByteArray × Value)) (c : Cmd) (hB : Built w r cmds l) (hV : Vars w) (g n cap : Nat) (key : ByteArray) (hc : w.cell? ⟨g, 0, none⟩ = some (.string key)) (hn : 0 < n) (hn2 : n ≤ 1000000) (hf : cmdOf key cmds = some c) (hne : n ≠ c.reads.length + 1) :
    Calls Tryz.prog 26 #[.map (some r), .slice (some ⟨g, 0, none⟩) n cap] w fun e w' => e = .returned (.string (txt (Nu.told [] 2800))) ∧ Below w.heap.size w w' := by
  have h1 := hB.2 key
  rw [hf] at h1
  obtain ⟨b, hfb, _, _⟩ := h1
  have hlk := map_lookup w r l key _ hB.1 hfb
  have HT := Lib.hid (fun W (hV : Vars W) => told_calls [] 2800 W hV (by omega) (by omega))
  have HV := Lib.hid hV
  have h8 := hV.size
  have hq : ((n : Int) - 1 != (c.reads.length : Int)) = true := by simp; omega
  clear hV hB hf hfb
  simp only [cmdVal, fn] at hlk
  generalize c.reads.length = m at *
  go_enter Tryz.func26, Tryz.ntmps26
  go_wp2_with (go_at_call 50; refine (HT.out _ (HV.out.below (below_alloc8 w h8 _) h8)).mono ?_; rintro e w2 ⟨rfl, hb2⟩)
  go_ret
  exact ⟨rfl, (below_alloc8 w h8 _).trans (hb2.mono (by simp))⟩

theorem readOne_err {f : Nat} {a : List UInt8} {st : St} {c : Int} (h : Nu.readOne f a st = .error c) : 0 < c ∧ c ≤ 2800 := by
  unfold Nu.readOne at h
  split at h
  · split at h <;> cases h
    decide
  · split at h
    · split at h <;> cases h
      decide
    · split at h <;> cases h
      decide
theorem enter_of {f : FuncId} {fn : Func} (hf : Tryz.prog.funcs[f]? = some fn) (hname : (fn.name == "runtime.NumGoroutine") = false) (hb : fn.body.isSome = true) (args : Array Value) (w : World) :
    (callFunc f args).run Tryz.prog w = .ok (.enter f args) w := by
  have h1 : fn.name ≠ "runtime.NumGoroutine" := by simpa using hname
  obtain ⟨c, hc⟩ := Option.isSome_iff_exists.1 hb
  simp [callFunc, hf, h1, hc]
theorem enter_reads {f : Nat} (h : f = 34 ∨ f = 35 ∨ f = 36) (args : Array Value) (w : World) : (callFunc f args).run Tryz.prog w = .ok (.enter f args) w := by
  rcases h with rfl | rfl | rfl
  · exact enter_of Tryz.func34 (by kernel_rfl) (by kernel_rfl) args w
  · exact enter_of Tryz.func35 (by kernel_rfl) (by kernel_rfl) args w
  · exact enter_of Tryz.func36 (by kernel_rfl) (by kernel_rfl) args w

def tellsOf (T : Nat → St → List UInt8) (t : Nat) : Except Int St → List UInt8
  | .ok st => T t st
  | .error e => Nu.told [] e

theorem readOne_len {f : Nat} {a : List UInt8} {st st' : St} (h : Nu.readOne f a st = .ok st') : st'.ns.length ≤ st.ns.length + 1 ∧ st'.names.length ≤ st.names.length + 1 := by
  unfold Nu.readOne at h
  split at h
  · split at h <;> cases h
    simp
  · split at h
    · split at h <;> cases h
      simp
    · split at h <;> cases h
      simp

set_option maxHeartbeats 2000000 in
set_option maxRecDepth 100000 in
theorem tells_known (T : Nat → St → List UInt8) (w : World) (r : Nat) (l : List (ByteArray × Value)) (c : Cmd) (hB : Built w r cmds l) (hV : Vars w) (g cap : Nat) (key : ByteArray) (args : List (List UInt8))
    (hc : w.cell? ⟨g, 0, none⟩ = some (.string key)) (ha : ∀ (j : Nat) x, args[j]? = some x → w.cell? ⟨g, j + 1, none⟩ = some (.string (txt x))) (hg : g < w.heap.size)
    (hsz : ∀ x ∈ args, x.length ≤ 1000000) (hf : cmdOf key cmds = some c) (hlen : args.length = c.reads.length) (hreads : ∀ f ∈ c.reads, f = 34 ∨ f = 35 ∨ f = 36) (hcl : c.reads.length ≤ 4) (hte : ∀ args w, (callFunc c.tell args).run Tryz.prog w = .ok (.enter c.tell args) w)
    (hT : ∀ st, Nu.readAll c.reads args ⟨[], [], []⟩ = .ok st → ∀ W b, StAt W b st → Vars W → Calls Tryz.prog c.tell #[.pointer (some ⟨b, 0, none⟩)] W fun e w' => e = .returned (.string (txt (T c.tell st))) ∧ Below W.heap.size W w') :
    Calls Tryz.prog 26 #[.map (some r), .slice (some ⟨g, 0, none⟩) (c.reads.length + 1) cap] w fun e w' => e = .returned (.string (txt (tellsOf T c.tell (Nu.readAll c.reads args ⟨[], [], []⟩)))) ∧ Below w.heap.size w w' := by
  have h1 := hB.2 key
  rw [hf] at h1
  obtain ⟨b, hfb, _, hbk⟩ := h1
  have hblt : b < w.heap.size := (Array.getElem?_eq_some_iff.1 hbk).1
  have hrc : ∀ (j : Nat) f, c.reads[j]? = some f → w.cell? ⟨b, j, none⟩ = some (fn f) := fun j f hj => by
    rw [Lib.cell_of_heap hbk]; simp [hj]
  have hlk := map_lookup w r l key _ hB.1 hfb
  have HV := Lib.hid hV
  have h8 := hV.size
  have HL := Lib.hid hlen
  simp only [cmdVal, fn] at hlk
  obtain ⟨key', reads, t⟩ := c
  simp only at *
  obtain ⟨res, hres⟩ : ∃ res, Nu.readAll reads args ⟨[], [], []⟩ = res := ⟨_, rfl⟩
  rw [hres] at hT ⊢
  have hq : ((reads.length : Int) != (reads.length : Int)) = false := by simp
  have HR := Lib.hid hres
  have HT := Lib.hid hT
  have HRC := Lib.hid hrc
  have HA := Lib.hid ha
  have HS := Lib.hid hsz
  have HF := Lib.hid hreads
  clear hV hB hf hfb hbk hrc ha hlen hsz hreads hres hT
  go_enter Tryz.func26, Tryz.ntmps26
  go_wp2_with fail
  obtain ⟨w0, hw0⟩ : ∃ w0, (w.alloc (.cells #[.slice (some ⟨b, 0, none⟩) reads.length reads.length, .func (Fn.func t) #[] #[]] 74)).alloc (.cells #[.slice none 0 0, .slice none 0 0, .string ⟨#[]⟩] 71) = w0 := ⟨_, rfl⟩
  have hb0 : Below w.heap.size w w0 := by rw [← hw0]; exact ((Below.refl _ w).alloc (Nat.le_refl _) _).alloc (by simp) _
  have hbx : w0.heap[w.heap.size]? = some (.cells #[.slice (some ⟨b, 0, none⟩) reads.length reads.length, .func (Fn.func t) #[] #[]] 74 (0, 0)) := by
    rw [← hw0, Lib.alloc_old _ _ _ (by simp)]; exact heap_alloc_new w _
  have hst0 : StAt w0 (w.heap.size + 1) ⟨[], [], []⟩ := by
    refine ⟨.slice none 0 0, .slice none 0 0, ?_, World.ownsRow_nil _ _ _ _, World.ownsRow_nil _ _ _ _, .inl rfl⟩
    rw [← hw0]
    have := heap_alloc_new (w.alloc (.cells #[.slice (some ⟨b, 0, none⟩) reads.length reads.length, .func (Fn.func t) #[] #[]] 74)) (.cells #[.slice none 0 0, .slice none 0 0, .string ⟨#[]⟩] 71)
    have e : (w.alloc (.cells #[.slice (some ⟨b, 0, none⟩) reads.length reads.length, .func (Fn.func t) #[] #[]] 74)).heap.size = w.heap.size + 1 := by simp
    rw [e] at this
    exact this
  have hz0 : w0.heap.size = w.heap.size + 2 := by rw [← hw0]; simp
  have HBX := Lib.hid hbx
  have HST := Lib.hid hst0
  have HZ := Lib.hid hz0
  rw [hw0]
  clear hbx hst0 hz0 hw0
  go_loopg [36] reads.length (fun gg v36 wx => ∃ (i : Nat) (st : St), v36 = .int .i64 (i : Int) ∧ i + gg = reads.length ∧ StAt wx (w.heap.size + 1) st ∧ Below (w.heap.size + 1) w0 wx ∧ st.ns.length ≤ i ∧ st.names.length ≤ i ∧ Aside (Nu.readAll (reads.drop i) (args.drop i) st = res))
  case atStart => exact ⟨0, ⟨[], [], []⟩, rfl, by omega, HST.out, Below.refl _ _, Nat.le_refl _, Nat.le_refl _, HR.out⟩
  case round =>
    obtain ⟨i, st, rfl, hi, hS, hb, hn1, hn2, HR1⟩ := hrel
    have hbw : Below w.heap.size w wr := hb0.trans (hb.mono (by omega))
    cases gk with
    | zero =>
      have hres : res = .ok st := by
        have h1 := HR1.out
        rw [List.drop_eq_nil_of_le (by omega)] at h1
        exact h1.symm
      have hTC := HT.out st hres wr (w.heap.size + 1) hS (HV.out.below hbw h8)
      have HRES := Lib.hid hres
      have HTC := Lib.hid hTC
      have cx : wr.cell? ⟨w.heap.size, 1, none⟩ = some (.func (Fn.func t) #[] #[]) := by
        rw [hb.cell (p := ⟨w.heap.size, 1, none⟩) (Nat.lt_succ_self _), Lib.cell_of_heap HBX.out]; rfl
      clear hres hTC
      go_wp2_with (refine HTC.out.mono ?_; rintro e wf ⟨rfl, hbf⟩)
      go_ret
      rw [HRES.out]
      exact ⟨rfl, hbw.trans (hbf.mono hbw.size)⟩
    | succ gg =>
      have hir : i < reads.length := by omega
      have hia : i < args.length := by rw [HL.out]; omega
      have cr : wr.cell? ⟨b, i, none⟩ = some (fn reads[i]) := by
        rw [hbw.cell (p := ⟨b, i, none⟩) hblt]; exact HRC.out i _ (List.getElem?_eq_getElem hir)
      have ca : wr.cell? ⟨g, i + 1, none⟩ = some (.string (txt args[i])) := by
        rw [hbw.cell (p := ⟨g, i + 1, none⟩) hg]; exact HA.out i _ (List.getElem?_eq_getElem hia)
      have hrf := HF.out _ (List.getElem_mem hir)
      have hCALL := read_calls reads[i] hrf (txt args[i]) wr (w.heap.size + 1) st (by rw [txt_size]; exact HS.out _ (List.getElem_mem hia)) hS (by omega) (by omega) (HV.out.below hbw h8)
      rw [txt_data] at hCALL
      have hnext : Nu.readAll (reads.drop i) (args.drop i) st = match Nu.readOne reads[i] args[i] st with | .ok st' => Nu.readAll (reads.drop (i + 1)) (args.drop (i + 1)) st' | .error e => .error e := by
        rw [List.drop_eq_getElem_cons hir, List.drop_eq_getElem_cons hia]; rfl
      obtain ⟨q, hqi⟩ : ∃ q, q = i + 1 := ⟨_, rfl⟩
      have hidx : (1 : Int) + (i : Int) = (q : Int) := by omega
      have hql : q ≤ reads.length := by omega
      rw [← hqi] at ca
      have HQ := Lib.hid hqi
      clear hqi
      have HN := Lib.hid hnext
      have HC := Lib.hid hCALL
      have HE1 := Lib.hid (fun c (h : Nu.readOne reads[i] args[i] st = .error c) => readOne_err h)
      have HL1 := Lib.hid (fun st' (h : Nu.readOne reads[i] args[i] st = .ok st') => readOne_len h)
      generalize Nu.readOne reads[i] args[i] st = ro at *
      generalize txt args[i] = ta at *
      generalize reads[i] = f at *
      simp only [fn] at cr
      have hent := enter_reads hrf
      clear hnext hCALL hrf
      cases ro with
      | error c =>
        obtain ⟨hc1, hc2⟩ := HE1.out c rfl
        have hq2 : (c != 0) = true := by simp; omega
        have hres : res = .error c := by
          have h1 := HR1.out
          rw [HN.out] at h1
          exact h1.symm
        have HRES := Lib.hid hres
        clear hres
        have HD := Lib.hid (fun W (hV : Vars W) => told_calls [] c W hV (by omega) (by omega))
        go_wp2_with (first | (go_at_call 50; refine (HD.out _ (HV.out.below (hbw.trans (hbf.mono (by omega))) h8)).mono ?_; rintro e w5 ⟨rfl, hb5⟩) | (refine HC.out.mono ?_; rintro e wf ⟨hbf, rfl, _, _⟩))
        go_ret
        rw [HRES.out]
        have hbf2 := hbw.trans (hbf.mono (by omega))
        exact ⟨rfl, hbf2.trans (hb5.mono hbf2.size)⟩
      | ok st' =>
        go_wp2_with (refine HC.out.mono ?_; rintro e wf ⟨hbf, rfl, hsf⟩)
        obtain ⟨hn3, hn4⟩ := HL1.out st' rfl
        have hq := HQ.out
        go_roundg gg
        case measure => omega
        case rel =>
          refine ⟨i + 1, st', by simp, by omega, hsf, hb.trans hbf, by omega, by omega, ?_⟩
          have h1 := HR1.out
          rw [HN.out] at h1
          exact h1
end Go.Proofs.YtolbfeggceemfaaGreatDoor
