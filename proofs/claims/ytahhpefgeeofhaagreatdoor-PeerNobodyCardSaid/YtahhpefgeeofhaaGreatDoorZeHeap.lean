/-
  Things that may change, by names: what each holds (Hp), how it lies in memory, and what stays.
-/
import Derived.Test.YtahhpefgeeofhaaGreatDoorZdReg
import Derived.Laws.CopyRow
import Derived.Laws.CopyOwn
set_option linter.unusedSimpArgs false
set_option linter.unusedVariables false
namespace Go.Ab

/-- An entry of a map. -/
structure MEnt where
  key : D
  val : D
  born : Nat

inductive Ob where
  /-- cells one behind the other (there may be more cells behind them) -/
  | cells (cs : List D)
  | map (es : List MEnt) (clock : Nat)
  /-- a walk over a map's entries -/
  | iter (m : Option Nm) (since : Nat) (seen : List Nat) (stepped : Nat)
  /-- a loop over a function: the temporaries when it began, its code, where it stands -/
  | loop (env : Env) (ps : Array Tmp) (assign body : Code) (st : LoopState) (pend : Option Code)
  /-- the deferred calls of a loop's rounds: none -/
  | dfr

abbrev Hp := Nm → Option Ob
/-- What an operation changes. -/
abbrev Pt := Nm → Option (Option Ob)
def Hp.app (h : Hp) (p : Pt) : Hp := fun n => (p n).getD (h n)
abbrev Up := List (Nm × Option Ob)
def Up.pt : Up → Pt
  | [], _ => none
  | (m, o) :: us, n => match Up.pt us n with
    | some x => some x
    | none => if n = m then some o else none

/-- The block of a thing. -/
def blkV : Value → Option Nat
  | .pointer (some a) => some a.block
  | .map (some r) => some r
  | _ => none
def blk (g : G) (n : Nm) : Option Nat := (g.val n).bind blkV

def RelM (g : G) (w : World) : List MEnt → List MapEntry → Prop
  | [], xs => xs = []
  | e :: es, xs => ∃ x ys, xs = x :: ys ∧ Rel g w e.key x.key ∧ Rel g w e.val x.val ∧ x.born = e.born ∧ RelM g w es ys

/-- The map that is walked over. -/
def IterM (g : G) : Option Nm → Option Nat → Prop
  | none, mm => mm = none
  | some k, mm => ∃ q, mm = some q ∧ g.val k = some (.map (some q))

/-- How a thing lies in memory (outside the blocks K). -/
def ORel (K : Nat → Prop) (g : G) (w : World) (n : Nm) : Ob → Prop
  | .cells cs => ∃ (b m : Nat) (T : TypeId) (pre vs post : List Value), g.val n = some (.pointer (some ⟨b, m, none⟩)) ∧ w.heap[b]? = some (.cells (pre ++ vs ++ post).toArray T (0, 0)) ∧ pre.length = m ∧ RelL g w cs vs ∧ g.lim b = 0 ∧ ¬ K b
  | .map es clock => ∃ (r : Nat) (xs : List MapEntry), g.val n = some (.map (some r)) ∧ w.heap[r]? = some (.map xs.toArray clock) ∧ RelM g w es xs ∧ g.lim r = 0 ∧ ¬ K r
  | .iter m since seen stepped => ∃ (r : Nat) (mm : Option Nat), g.val n = some (.pointer (some ⟨r, 0, none⟩)) ∧ w.heap[r]? = some (.mapIter mm since seen.toArray stepped) ∧ IterM g m mm ∧ g.lim r = 0 ∧ ¬ K r
  | .loop env ps assign body st pend => ∃ (l fn : Nat) (tmps : Array Value) (dl : Nat), g.val n = some (.pointer (some ⟨l, 0, none⟩)) ∧ w.heap[l]? = some (.loop { state := st, pending := pend, fn, tmps, params := ps, assign, body, defers := dl }) ∧
      (SimE g w ⟨tmps, []⟩ env ∧ env.length = tmps.size) ∧ g.lim l = 0 ∧ ¬ K l
  | .dfr => ∃ r : Nat, g.val n = some (.pointer (some ⟨r, 0, none⟩)) ∧ w.heap[r]? = some (.deferred (some [])) ∧ g.lim r = 0 ∧ ¬ K r

/-- What is kept: the blocks kp are as they are in w0. -/
structure Base where
  w0 : World
  kp : Nat → Prop
  lm : Nat → Nat

/-- How the things lie in memory. -/
structure HeapR (tb : Nat → Option (List D)) (B : Base) (hp : Hp) (free : Nm → Prop) (w : World) (g : G) : Prop where
  os : w.os = B.w0.os
  tape : w.tape = B.w0.tape
  output : w.output = B.w0.output
  size : B.w0.heap.size ≤ w.heap.size
  kept : ∀ b, B.kp b → b < B.w0.heap.size ∧ w.heap[b]? = B.w0.heap[b]? ∧ g.lim b = B.lm b
  tight : Tight g w
  free : ∀ n, free n → g.val n = none
  tab : Tab tb g w
  objs : ∀ n o, hp n = some o → ORel B.kp g w n o
  sep : ∀ n m, n ≠ m → hp n ≠ none → hp m ≠ none → ∀ b, blk g n = some b → blk g m ≠ some b

/-- A frame's deferred calls: marks of loops over functions alone. -/
def Marks (g : G) : List Nm → List Deferred → Prop
  | [], ds => ds = []
  | m :: ms, ds => ∃ (d : Deferred) (ds' : List Deferred) (r : Nat), ds = d :: ds' ∧ d.target = .collected r ∧ g.val m = some (.pointer (some ⟨r, 0, none⟩)) ∧ Marks g ms ds'

/-- Where a frame stands: g1, w1: what was when it began. -/
structure Hat (tb : Nat → Option (List D)) (B : Base) (g1 : G) (w1 : World) (ms : List Nm) (env : Env) (hp : Hp) (free : Nm → Prop) (a : Act) (w : World) (g : G) : Prop where
  mem : HeapR tb B hp free w g
  ext : Ext g1 w1 g w
  sim : SimE g w a env
  len : env.length = a.tmps.size
  dfs : Marks g ms a.defers

section
variable {P : Program} {tb : Nat → Option (List D)} {g1 g g' : G} {B : Base} {ms : List Nm} {w1 w w' : World} {env : Env} {hp : Hp} {free : Nm → Prop} {a : Act}

theorem Marks.ext (e : Ext g w g' w') : ∀ {ms : List Nm} {ds : List Deferred}, Marks g ms ds → Marks g' ms ds
  | [], ds, h => h
  | m :: ms, ds, h => by
    obtain ⟨d, ds', r, h1, h2, h3, h4⟩ := h
    exact ⟨d, ds', r, h1, h2, e.val _ _ h3, Marks.ext e h4⟩

theorem RelM.ext (e : Ext g w g' w') : ∀ {es : List MEnt} {xs : List MapEntry}, RelM g w es xs → RelM g' w' es xs
  | [], xs, h => h
  | d :: es, xs, h => by
    obtain ⟨x, ys, h1, h2, h3, h4, h5⟩ := h
    exact ⟨x, ys, h1, Rel.ext e _ _ h2, Rel.ext e _ _ h3, h4, RelM.ext e h5⟩

theorem ORel.blk_lt {K : Nat → Prop} {n : Nm} {o : Ob} (h : ORel K g w n o) {b : Nat} (hb : blk g n = some b) : b < w.heap.size ∧ ¬ K b ∧ g.lim b = 0 := by
  cases o with
  | cells cs =>
    obtain ⟨b', m, T, pre, vs, post, h1, h2, _, _, h5, h6⟩ := h
    simp [blk, h1, blkV] at hb
    subst hb
    exact ⟨(Array.getElem?_eq_some_iff.1 h2).1, h6, h5⟩
  | map es clock =>
    obtain ⟨r, xs, h1, h2, _, h5, h6⟩ := h
    simp [blk, h1, blkV] at hb
    subst hb
    exact ⟨(Array.getElem?_eq_some_iff.1 h2).1, h6, h5⟩
  | iter m since seen stepped =>
    obtain ⟨r, mm, h1, h2, _, h5, h6⟩ := h
    simp [blk, h1, blkV] at hb
    subst hb
    exact ⟨(Array.getElem?_eq_some_iff.1 h2).1, h6, h5⟩
  | loop env ps assign body st pend =>
    obtain ⟨l, fn, tmps, dl, h1, h2, _, h5, h6⟩ := h
    simp [blk, h1, blkV] at hb
    subst hb
    exact ⟨(Array.getElem?_eq_some_iff.1 h2).1, h6, h5⟩
  | dfr =>
    obtain ⟨r, h1, h2, h5, h6⟩ := h
    simp [blk, h1, blkV] at hb
    subst hb
    exact ⟨(Array.getElem?_eq_some_iff.1 h2).1, h6, h5⟩

/-- A thing whose block is as it was stands as it stood. -/
theorem ORel.keep {K : Nat → Prop} {n : Nm} {o : Ob} (h : ORel K g w n o) (e : Ext g w g' w') (hb : ∀ b, blk g n = some b → w'.heap[b]? = w.heap[b]? ∧ g'.lim b = g.lim b) : ORel K g' w' n o := by
  cases o with
  | cells cs =>
    obtain ⟨b, m, T, pre, vs, post, h1, h2, h3, h4, h5, h6⟩ := h
    obtain ⟨k1, k2⟩ := hb b (by simp [blk, h1, blkV])
    exact ⟨b, m, T, pre, vs, post, e.val _ _ h1, by rw [k1]; exact h2, h3, RelL.ext e _ _ h4, by rw [k2]; exact h5, h6⟩
  | map es clock =>
    obtain ⟨r, xs, h1, h2, h3, h4, h5⟩ := h
    obtain ⟨k1, k2⟩ := hb r (by simp [blk, h1, blkV])
    exact ⟨r, xs, e.val _ _ h1, by rw [k1]; exact h2, h3.ext e, by rw [k2]; exact h4, h5⟩
  | iter m since seen stepped =>
    obtain ⟨r, mm, h1, h2, h3, h4, h5⟩ := h
    obtain ⟨k1, k2⟩ := hb r (by simp [blk, h1, blkV])
    refine ⟨r, mm, e.val _ _ h1, by rw [k1]; exact h2, ?_, by rw [k2]; exact h4, h5⟩
    cases m with
    | none => exact h3
    | some k =>
      obtain ⟨q, h6, h7⟩ := h3
      exact ⟨q, h6, e.val _ _ h7⟩
  | loop env ps assign body st pend =>
    obtain ⟨l, fn, tmps, dl, h1, h2, h3, h4, h5⟩ := h
    obtain ⟨k1, k2⟩ := hb l (by simp [blk, h1, blkV])
    exact ⟨l, fn, tmps, dl, e.val _ _ h1, by rw [k1]; exact h2, ⟨h3.1.ext e, h3.2⟩, by rw [k2]; exact h4, h5⟩
  | dfr =>
    obtain ⟨r, h1, h2, h4, h5⟩ := h
    obtain ⟨k1, k2⟩ := hb r (by simp [blk, h1, blkV])
    exact ⟨r, e.val _ _ h1, by rw [k1]; exact h2, by rw [k2]; exact h4, h5⟩

theorem ORel.named {K : Nat → Prop} {n : Nm} {o : Ob} (h : ORel K g w n o) : ∃ b, blk g n = some b := by
  cases o with
  | cells cs => obtain ⟨b, m, T, pre, vs, post, h1, _⟩ := h; exact ⟨b, by simp [blk, h1, blkV]⟩
  | map es clock => obtain ⟨r, xs, h1, _⟩ := h; exact ⟨r, by simp [blk, h1, blkV]⟩
  | iter m since seen stepped => obtain ⟨r, mm, h1, _⟩ := h; exact ⟨r, by simp [blk, h1, blkV]⟩
  | loop env ps assign body st pend => obtain ⟨l, fn, tmps, dl, h1, _⟩ := h; exact ⟨l, by simp [blk, h1, blkV]⟩
  | dfr => obtain ⟨r, h1, _⟩ := h; exact ⟨r, by simp [blk, h1, blkV]⟩

theorem HeapR.weaken {free' : Nm → Prop} (h : HeapR tb B hp free w g) (hf : ∀ n, free' n → free n) : HeapR tb B hp free' w g := { h with free := fun n hn => h.free n (hf n hn) }
theorem Hat.weaken {free' : Nm → Prop} (h : Hat tb B g1 w1 ms env hp free a w g) (hf : ∀ n, free' n → free n) : Hat tb B g1 w1 ms env hp free' a w g := { h with mem := h.mem.weaken hf }

theorem HeapR.blk_lt (h : HeapR tb B hp free w g) {n : Nm} (hn : hp n ≠ none) {b : Nat} (hb : blk g n = some b) : b < w.heap.size ∧ ¬ B.kp b ∧ g.lim b = 0 := by
  cases ho : hp n with
  | none => exact absurd ho hn
  | some o => exact (h.objs n o ho).blk_lt hb

theorem HeapR.fresh (h : HeapR tb B hp free w g) : ¬ B.kp w.heap.size := fun hk => by
  have h1 := (h.kept _ hk).1
  have h2 := h.size
  omega

theorem pt_none {n : Nm} : Up.pt [] n = none := rfl
theorem app_nil : hp.app (Up.pt []) = hp := rfl

/-- Memory behind a step that lets all things stand. -/
theorem HeapR.pure (h : HeapR tb B hp free w g) (hn : New g w g' w') : HeapR tb B hp free w' g' := by
  have he := hn.ext h.tight
  have hv : ∀ n, g'.val n = g.val n := fun n => by rw [hn.val]
  refine ⟨hn.below.os.trans h.os, hn.below.tape.trans h.tape, hn.below.output.trans h.output, Nat.le_trans h.size hn.below.size, fun b hb => by
    obtain ⟨k1, k2, k3⟩ := h.kept b hb
    have hlt := Nat.lt_of_lt_of_le k1 h.size
    exact ⟨k1, (hn.below.block b hlt).trans k2, (hn.lim b hlt).trans k3⟩, hn.fresh, fun n hf => by rw [hv]; exact h.free n hf, h.tab.ext he, ?_, ?_⟩
  · intro n o ho
    have h1 := h.objs n o ho
    exact h1.keep he fun b hb => ⟨hn.below.block b (h1.blk_lt hb).1, hn.lim b (h1.blk_lt hb).1⟩
  · intro n m hnm h1 h2 b hb
    have e1 : blk g' n = blk g n := by simp [blk, hv]
    have e2 : blk g' m = blk g m := by simp [blk, hv]
    rw [e1] at hb; rw [e2]
    exact h.sep n m hnm h1 h2 b hb

/-- A frame behind an operation, from what memory is then. -/
theorem Hat.step {hp' : Hp} {free' : Nm → Prop} (h : Hat tb B g1 w1 ms env hp free a w g) (hm : HeapR tb B hp' free' w' g') (he : Ext g w g' w') {d : D} {v : Value} (hr : Rel g' w' d v) (dst : Option Tmp) :
    Hat tb B g1 w1 ms (putE env dst d) hp' free' (a.put dst v) w' g' :=
  ⟨hm, h.ext.trans he, (h.sim.ext he).put hr h.len dst, by rw [putE_length, put_size]; exact h.len, by cases dst <;> exact h.dfs.ext he⟩

theorem Hat.pure (h : Hat tb B g1 w1 ms env hp free a w g) (hn : New g w g' w') {d : D} {v : Value} (hr : Rel g' w' d v) (dst : Option Tmp) :
    Hat tb B g1 w1 ms (putE env dst d) hp free (a.put dst v) w' g' := h.step (h.mem.pure hn) (hn.ext h.mem.tight) hr dst

/-- A name for a value. -/
def G.name (g : G) (n : Nm) (x : Value) : G := { g with val := fun m => if m = n then some x else g.val m }

theorem G.name_val_ne {n m : Nm} {x : Value} (h : m ≠ n) : (g.name n x).val m = g.val m := by simp [G.name, h]
theorem G.name_val_eq {n : Nm} {x : Value} : (g.name n x).val n = some x := by simp [G.name]

theorem Ext.name {n : Nm} {x : Value} (h : g.val n = none) : Ext g w (g.name n x) w :=
  ⟨fun _ => Nat.le_refl _, fun _ _ _ => rfl, (fun m y hy => by rw [G.name_val_ne]; exact hy; intro e; subst e; rw [h] at hy; cases hy), fun _ _ h => h⟩

/-- What stays when a new block comes. -/
theorem Ext.alloc (ht : Tight g w) (o : Obj) : Ext g w g (w.alloc o) := by
  have hblk : ∀ k, k < w.heap.size → (w.alloc o).heap[k]? = w.heap[k]? := fun k hk => RowKit.Below.heap_alloc _ _ _ hk
  refine ⟨fun _ => Nat.le_refl _, fun b k hk => ?_, fun _ _ h => h, fun b n hr => ?_⟩
  · have hb : b < w.heap.size := by
      rcases Nat.lt_or_ge b w.heap.size with h' | h'
      · exact h'
      · rw [ht b h'] at hk; omega
    exact World.cell?_of_block (w := w) (hblk b hb)
  · obtain ⟨cs, T, fr, h1, h2⟩ := hr
    exact ⟨cs, T, fr, by rw [hblk b (Array.getElem?_eq_some_iff.1 h1).1]; exact h1, h2⟩

theorem alloc_size (w : World) (o : Obj) : (w.alloc o).heap.size = w.heap.size + 1 := by show (w.heap.push o).size = _; simp
theorem alloc_at (w : World) (o : Obj) : (w.alloc o).heap[w.heap.size]? = some o := by show (w.heap.push o)[w.heap.size]? = _; simp

/-- A draw. -/
theorem new_drew (ht : Tight g w) : New g w g { w with drawn := w.drawn + 1 } := ⟨⟨rfl, rfl, rfl, Nat.le_refl _, fun _ _ => rfl⟩, fun _ _ => rfl, rfl, ht⟩

/-- Memory behind a new thing with a new name. -/
theorem HeapR.alloc (h : HeapR tb B hp free w g) {n : Nm} (hf : g.val n = none) {x : Value} {ob : Ob} {obj : Obj} (hx : blkV x = some w.heap.size)
    (ho : ORel B.kp (g.name n x) (w.alloc obj) n ob) {free' : Nm → Prop} (hfree : ∀ m, free' m → free m ∧ m ≠ n) {hp' : Hp} (hhp : ∀ m, hp' m = if m = n then some ob else hp m) :
    HeapR tb B hp' free' (w.alloc obj) (g.name n x) ∧ Ext g w (g.name n x) (w.alloc obj) := by
  have he : Ext g w (g.name n x) (w.alloc obj) := (Ext.name hf).trans (Ext.alloc (g := g.name n x) h.tight obj)
  refine ⟨⟨h.os, h.tape, h.output, by rw [alloc_size]; exact Nat.le_succ_of_le h.size, fun b hb => by
    obtain ⟨k1, k2, k3⟩ := h.kept b hb
    exact ⟨k1, (RowKit.Below.heap_alloc _ _ _ (Nat.lt_of_lt_of_le k1 h.size)).trans k2, k3⟩, fun b hb => h.tight b (by rw [alloc_size] at hb; omega), fun m hm => ?_, h.tab.ext he, ?_, ?_⟩, he⟩
  · rw [G.name_val_ne (hfree m hm).2]; exact h.free m (hfree m hm).1
  · intro m o hm
    rw [hhp] at hm
    by_cases e : m = n
    · subst e
      simp only [if_true] at hm
      cases hm
      exact ho
    · simp only [e, if_false] at hm
      have h1 := h.objs m o hm
      exact h1.keep he fun b hb => ⟨RowKit.Below.heap_alloc _ _ _ (h1.blk_lt hb).1, rfl⟩
  · intro m1 m2 hne h1 h2 b hb hb2
    have key : ∀ m, m ≠ n → hp' m ≠ none → blk (g.name n x) m = blk g m ∧ ∀ b, blk g m = some b → b < w.heap.size := by
      intro m hm hs
      rw [hhp, if_neg hm] at hs
      exact ⟨by simp [blk, G.name_val_ne hm], fun b hb => (h.blk_lt hs hb).1⟩
    have eqn : blk (g.name n x) n = some w.heap.size := by simp [blk, G.name_val_eq, hx]
    by_cases e1 : m1 = n
    · subst e1
      obtain ⟨k1, k2⟩ := key m2 (Ne.symm hne) h2
      rw [eqn] at hb; cases hb
      rw [k1] at hb2
      have := k2 _ hb2
      omega
    · obtain ⟨k1, k2⟩ := key m1 e1 h1
      rw [k1] at hb
      by_cases e2 : m2 = n
      · subst e2
        rw [eqn] at hb2; cases hb2
        have := k2 _ hb
        omega
      · obtain ⟨k3, k4⟩ := key m2 e2 h2
        rw [k3] at hb2
        rw [hhp, if_neg e1] at h1
        rw [hhp, if_neg e2] at h2
        exact h.sep m1 m2 hne h1 h2 b hb hb2

/-- The one block that a write turns. -/
structure Turned (b : Nat) (w w' : World) : Prop where
  os : w'.os = w.os
  tape : w'.tape = w.tape
  output : w'.output = w.output
  size : w'.heap.size = w.heap.size
  block : ∀ k, k ≠ b → w'.heap[k]? = w.heap[k]?
  room : ∀ n, Room w b n → Room w' b n

theorem Turned.ext {b : Nat} (h : Turned b w w') (hl : g.lim b = 0) : Ext g w g w' := by
  refine ⟨fun _ => Nat.le_refl _, fun b' o ho => ?_, fun _ _ h => h, fun b' n hr => ?_⟩
  · have : b' ≠ b := fun e => by subst e; rw [hl] at ho; omega
    exact World.cell?_of_block (w := w) (h.block b' this)
  · by_cases e : b' = b
    · subst e; exact h.room n hr
    · obtain ⟨cs, T, fr, h1, h2⟩ := hr
      exact ⟨cs, T, fr, by rw [h.block b' e]; exact h1, h2⟩

/-- Memory behind a write into a thing. -/
theorem HeapR.put (h : HeapR tb B hp free w g) {n : Nm} (hn : hp n ≠ none) {b : Nat} (hb : blk g n = some b) (ht : Turned b w w') {ob : Ob} (ho : ORel B.kp g w' n ob)
    {hp' : Hp} (hhp : ∀ m, hp' m = if m = n then some ob else hp m) : HeapR tb B hp' free w' g ∧ Ext g w g w' := by
  obtain ⟨hlt, hB, hl⟩ := h.blk_lt hn hb
  have he := ht.ext hl
  refine ⟨⟨ht.os.trans h.os, ht.tape.trans h.tape, ht.output.trans h.output, by rw [ht.size]; exact h.size, fun b' hb' => by
    obtain ⟨k1, k2, k3⟩ := h.kept b' hb'
    have hne : b' ≠ b := fun e => hB (e ▸ hb')
    exact ⟨k1, (ht.block b' hne).trans k2, k3⟩, fun b' hb' => h.tight b' (by rw [ht.size] at hb'; exact hb'), h.free, h.tab.ext he, ?_, ?_⟩, he⟩
  · intro m o hm
    rw [hhp] at hm
    by_cases e : m = n
    · subst e
      simp only [if_true] at hm
      cases hm
      exact ho
    · simp only [e, if_false] at hm
      have h1 := h.objs m o hm
      refine h1.keep he fun c hc => ⟨ht.block c ?_, rfl⟩
      intro e'
      subst e'
      exact h.sep m n e (by rw [hm]; simp) hn _ hc hb
  · intro m1 m2 hne h1 h2
    refine h.sep m1 m2 hne ?_ ?_
    · by_cases e : m1 = n
      · subst e; exact hn
      · rw [hhp, if_neg e] at h1; exact h1
    · by_cases e : m2 = n
      · subst e; exact hn
      · rw [hhp, if_neg e] at h2; exact h2

/-- Memory behind a write into a thing that gets a new name (the elder one goes). -/
theorem HeapR.move (h : HeapR tb B hp free w g) {n o : Nm} (hn : g.val n = none) (ho : hp o ≠ none) {b : Nat} (hb : blk g o = some b) (ht : Turned b w w') {x : Value} (hx : blkV x = some b) {ob : Ob} (hob : ORel B.kp (g.name n x) w' n ob)
    {free' : Nm → Prop} (hfree : ∀ m, free' m → free m ∧ m ≠ n) {hp' : Hp} (hhp : ∀ m, hp' m = if m = n then some ob else if m = o then none else hp m) : HeapR tb B hp' free' w' (g.name n x) ∧ Ext g w (g.name n x) w' := by
  obtain ⟨hlt, hB, hl⟩ := h.blk_lt ho hb
  have he : Ext g w (g.name n x) w' := (Ext.name hn).trans (ht.ext (g := g.name n x) hl)
  have hno : n ≠ o := fun e => by subst e; simp [blk, hn] at hb
  refine ⟨⟨ht.os.trans h.os, ht.tape.trans h.tape, ht.output.trans h.output, by rw [ht.size]; exact h.size, fun b' hb' => by
    obtain ⟨k1, k2, k3⟩ := h.kept b' hb'
    have hne : b' ≠ b := fun e => hB (e ▸ hb')
    exact ⟨k1, (ht.block b' hne).trans k2, k3⟩, fun b' hb' => h.tight b' (by rw [ht.size] at hb'; exact hb'), fun m hm => ?_, h.tab.ext he, ?_, ?_⟩, he⟩
  · rw [G.name_val_ne (hfree m hm).2]; exact h.free m (hfree m hm).1
  · intro m o' hm
    rw [hhp] at hm
    by_cases e : m = n
    · subst e
      simp only [if_true] at hm
      cases hm
      exact hob
    · by_cases e2 : m = o
      · simp [e, e2] at hm
        simp [hno.symm] at hm
      · simp only [e, e2, if_false] at hm
        have h1 := h.objs m o' hm
        refine h1.keep he fun c hc => ⟨ht.block c ?_, rfl⟩
        intro e'
        subst e'
        exact h.sep m o e2 (by rw [hm]; simp) ho _ hc hb
  · have eqn : blk (g.name n x) n = some b := by simp [blk, G.name_val_eq, hx]
    have key : ∀ m, m ≠ n → hp' m ≠ none → blk (g.name n x) m = blk g m ∧ hp m ≠ none ∧ m ≠ o := by
      intro m hm hs
      rw [hhp, if_neg hm] at hs
      by_cases e2 : m = o
      · simp [e2] at hs
      · rw [if_neg e2] at hs
        exact ⟨by simp [blk, G.name_val_ne hm], hs, e2⟩
    intro m1 m2 hne h1 h2 c hc hc2
    by_cases e1 : m1 = n
    · subst e1
      obtain ⟨k1, k2, k3⟩ := key m2 (Ne.symm hne) h2
      rw [eqn] at hc; cases hc
      rw [k1] at hc2
      exact h.sep m2 o k3 k2 ho _ hc2 hb
    · obtain ⟨k1, k2, k3⟩ := key m1 e1 h1
      rw [k1] at hc
      by_cases e2 : m2 = n
      · subst e2
        rw [eqn] at hc2; cases hc2
        exact h.sep m1 o k3 k2 ho _ hc hb
      · obtain ⟨k4, k5, k6⟩ := key m2 e2 h2
        rw [k4] at hc2
        exact h.sep m1 m2 hne k2 k5 c hc hc2

/-- Memory with one thing less. -/
theorem HeapR.drop (h : HeapR tb B hp free w g) {hp' : Hp} (hhp : ∀ m, hp' m = none ∨ hp' m = hp m) : HeapR tb B hp' free w g := by
  refine ⟨h.os, h.tape, h.output, h.size, h.kept, h.tight, h.free, h.tab, fun n o ho => ?_, fun n m hne h1 h2 => ?_⟩
  · rcases hhp n with e | e
    · rw [e] at ho; cases ho
    · rw [e] at ho; exact h.objs n o ho
  · refine h.sep n m hne ?_ ?_
    · rcases hhp n with e | e
      · exact absurd e h1
      · rw [← e]; exact h1
    · rcases hhp m with e | e
      · exact absurd e h2
      · rw [← e]; exact h2

/-- A cell's value may be stored. -/
def D.isCell : D → Bool
  | .agg _ | .tup _ => false
  | .v (.tuple _) => false
  | .v (.agg _) => false
  | _ => true

theorem Rel.oneCell {d : D} {v : Value} (h : Rel g w d v) (hd : d.isCell = true) : v.oneCell' = true := by
  cases d with
  | agg _ => simp [D.isCell] at hd
  | tup _ => simp [D.isCell] at hd
  | v x =>
    have := rel_v h
    subst this
    cases v <;> first | rfl | simp [D.isCell] at hd
  | list k es =>
    simp only [Rel] at h
    rcases h.2 with ⟨_, rfl⟩ | ⟨_, _, _, _, rfl, _⟩ <;> rfl
  | full k es => simp only [Rel] at h; obtain ⟨_, _, _, _, rfl, _⟩ := h; rfl
  | elem cs off => simp only [Rel] at h; obtain ⟨_, _, _, rfl, _⟩ := h; rfl
  | ptr o off => simp only [Rel] at h; obtain ⟨_, _, _, rfl⟩ := h; rfl
  | sl k o off len cap => simp only [Rel] at h; obtain ⟨_, _, _, _, _, rfl, _⟩ := h; rfl
  | own o => simp only [Rel] at h; exact h.2
  | func fn first cap => simp only [Rel] at h; obtain ⟨_, _, rfl, _⟩ := h; rfl
  | yld o => simp only [Rel] at h; obtain ⟨_, rfl, _⟩ := h; rfl
  | opq x => simp only [Rel] at h; rw [h.1]; exact h.2

theorem RelL.oneCells : ∀ {cs : List D} {vs : List Value}, RelL g w cs vs → cs.all D.isCell = true → ∀ v ∈ vs, v.oneCell' = true
  | [], vs, h, _, v, hv => by simp only [RelL] at h; subst h; cases hv
  | d :: ds, vs, h, hc, v, hv => by
    simp only [RelL] at h
    obtain ⟨x, xs, rfl, h2, h3⟩ := h
    simp only [List.all_cons, Bool.and_eq_true] at hc
    rcases List.mem_cons.1 hv with rfl | hv
    · exact h2.oneCell hc.1
    · exact RelL.oneCells h3 hc.2 v hv

theorem turned_setRow {b : Nat} {cs cs' : Array Value} {T : TypeId} {fr : Nat × Nat} (hb : w.heap[b]? = some (.cells cs T fr)) (hs : cs.size = cs'.size) : Turned b w (w.setRow b cs') := by
  refine ⟨rfl, rfl, rfl, by simp, fun k hk => setRow_other w b k _ hk, fun n hr => ?_⟩
  obtain ⟨cs2, T2, fr2, h1, h2⟩ := hr
  rw [hb] at h1
  cases h1
  exact ⟨cs', T, fr, setRow_heap w b _ _ T fr hb, by omega⟩

theorem run_store_ptr {t : TypeId} {b off : Nat} {T : TypeId} {vs us : List Value} {u : Value} (hb : w.heap[b]? = some (.cells vs.toArray T (0, 0))) (hu : u.cells.toList = us) (hi : P.info? t ≠ none) (hsz : us.length = szD P t)
    (hle : off + us.length ≤ vs.length) (h1 : ∀ v ∈ us, v.oneCell' = true) :
    (Instr.storeAt t (.pointer (some ⟨b, off, none⟩)) u).run P w = .ok () (w.setRow b (vs.take off ++ us ++ vs.drop (off + us.length)).toArray) := by
  have := run_storeCells_at (P := P) b off T us 0 vs.toArray w hb (by simp; omega) h1
  have hs : u.cells.size = szD P t := by rw [← hsz, ← hu]; simp
  simp only [Instr.storeAt, Instr.sureAddr, storeVar, Sem.run_bind, Sem.run_pure, Result.andThen_ok, run_sizeOf' hi, hs, ne_eq, not_true_eq_false, if_false, hu]
  simpa using this

theorem run_load_cells {t : TypeId} {cs : List D} {off b o : Nat} {d : D} {vs : List Value} (h : partD P t cs off = some d) (hc : ∀ i x, vs[i]? = some x → w.cell? ⟨b, o + i, none⟩ = some x) (hl : RelL g w cs vs) :
    ∃ u, (Instr.loadAt t (.pointer (some ⟨b, o + off, none⟩))).run P w = .ok u w ∧ Rel g w d u := by
  unfold partD at h
  split at h
  · cases h
  · rename_i hn
    have hu : P.underlying t ≠ none := fun e => hn (.inl e)
    have hi := underlying_of_info hu
    cases hui : P.underlying t with
    | none => exact absurd hui hu
    | some dd =>
      split at h
      · rename_i ha
        split at h
        · rename_i hle
          cases h
          have hlen := hl.length
          have hd : dd.isRow = true := by simpa [aggD, hui] using ha
          have hsz : (P.info? t).map (·.size) = some ((vs.drop off).take (szD P t)).length := by
            cases hii : P.info? t with
            | none => exact absurd hii hi
            | some i =>
              have hz : szD P t = i.size := by simp [szD, hii]
              rw [hz] at hle ⊢
              simp
              omega
          refine ⟨.agg ((vs.drop off).take (szD P t)).toArray, ?_, ?_⟩
          · refine run_loadAt_mid w b (o + off) t ((vs.drop off).take (szD P t)) dd ?_ hui hd hsz
            intro j v hj
            rw [List.getElem?_take] at hj
            split at hj
            · rw [List.getElem?_drop] at hj
              rw [Nat.add_assoc]
              exact hc _ _ hj
            · cases hj
          · simp only [Rel]
            exact ⟨_, rfl, (hl.drop off).take _⟩
        · cases h
      · rename_i ha
        obtain ⟨x, hx, hrel⟩ := hl.get h
        have ha' : aggD P t = false := by simpa using ha
        refine ⟨x, ?_, hrel⟩
        have hcell := hc off x hx
        simp [Instr.loadAt, Instr.sureAddr, loadVar, Sem.run_bind, run_isAgg' hu, ha', Result.andThen_ok, hcell]

end
end Go.Ab
