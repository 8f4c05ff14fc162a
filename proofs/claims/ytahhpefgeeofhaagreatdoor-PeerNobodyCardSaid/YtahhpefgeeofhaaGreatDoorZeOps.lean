/-
  Operations on things that may change: what each yields, changes and looks at (opH).
-/
import Derived.Test.YtahhpefgeeofhaaGreatDoorZeRun
set_option linter.unusedSimpArgs false
set_option linter.unusedVariables false
namespace Go.Ab

def elemD (P : Program) (t : TypeId) : Option (TypeId × TypeInfo × List D) :=
  match P.underlying t with
  | some (.slice e) => (match P.info? e with
    | some i => (match i.zero with
      | some z => if i.size ≠ 0 ∧ z.cells.size = i.size ∧ z.cells.toList.all noAgg = true ∧ z.cells.toList.all Value.oneCell' = true then some (e, i, z.cells.toList.map .v) else none
      | none => none)
    | none => none)
  | _ => none

/-- The elements of a slice: how many, their cells, what is looked at. -/
def srcD (hp : Hp) (k : Nat) : D → Option (Nat × List D × List Nm)
  | .sl k' o off n _ => if k' = k then (match hp o with
      | some (.cells cs) => if off + n * k ≤ cs.length then some (n, (cs.drop off).take (n * k), [o]) else none
      | _ => none) else none
  | .list k' es => if k' = k then some (es.length, es.flatMap D.cells, []) else none
  | .full k' es => if k' = k then some (es.length, es.flatMap D.cells, []) else none
  | .v (.slice none 0 0) => some (0, [], [])
  | _ => none

def newsD (P : Program) (hp : Hp) (k : Nat) (t2 : TypeId) (x : D) : Option (Nat × List D × List Nm) :=
  match P.underlying t2 with
  | some .string => (match x with
    | .v (.string s) => if k = 1 then some (s.size, s.data.toList.map byteD, []) else none
    | _ => none)
  | some (.slice _) => srcD hp k x
  | _ => none

def roomD (i : TypeInfo) (n : Nat) : Bool := decide ((n : Int) ≤ 9223372036854775807) && decide (n * i.bytes ≤ 140737488355328)

/-- What an append lays behind: how many elements, their cells, what is looked at; is it a make? -/
def laidD (P : Program) (hp : Hp) (i : TypeInfo) (zs : List D) (t2 : TypeId) (x : D) : Option (Nat × List D × List Nm × Bool) :=
  match P.underlying t2 with
  | some (.int _) => (match x with
    | .v (.int _ q) => if 0 < IntKind.i64.wrap q then some ((IntKind.i64.wrap q).toNat, (List.replicate (IntKind.i64.wrap q).toNat zs).flatten, [], true) else none
    | _ => none)
  | _ => (match newsD P hp i.size t2 x with
    | some (n, cs, rd) => some (n, cs, rd, false)
    | none => none)

/-- Append. -/
def appendD (P : Program) (hp : Hp) (nm : Nm) (t t2 : TypeId) (s x : D) : Option (D × Up × List Nm) :=
  match elemD P t with
  | none => none
  | some (_, i, zs) =>
    match laidD P hp i zs t2 x with
    | none => none
    | some (n, news, rd, zeros) =>
      match s with
      | .v (.slice none 0 0) =>
        if n = 0 then some (s, [], rd)
        else if roomD i n then some (.sl i.size nm 0 n none, [(nm, some (.cells news))], rd) else none
      | .sl k o off len cap =>
        if n = 0 then some (s, [], rd)
        else if k = i.size then (match hp o with
          | some (.cells cs) =>
            if off + len * k ≤ cs.length then (match cap with
              | some c =>
                if len + n ≤ c then
                  if zeros = false ∧ off + (len + n) * k ≤ cs.length ∧ news.all D.isCell = true then some (.sl k o off (len + n) (some c), [(o, some (.cells (spliceD cs news (off + len * k))))], o :: rd) else none
                else if roomD i (len + n) then some (.sl k nm 0 (len + n) none, [(nm, some (.cells ((cs.drop off).take (len * k) ++ news)))], o :: rd) else none
              | none =>
                if zeros = false ∧ news.all D.isCell = true ∧ roomD i (len + n) = true then some (.sl k nm 0 (len + n) none, [(nm, some (.cells ((cs.drop off).take (len * k) ++ news))), (o, none)], o :: rd) else none)
            else none
          | _ => none)
        else none
      | _ => none

section
variable {P : Program} {tb : Nat → Option (List D)} {g g' : G} {B : Base} {w w' : World} {hp : Hp} {free : Nm → Prop} {a : Act}

theorem RelL.seg {cs : List D} {vs : List Value} (h : RelL g w cs vs) (off n : Nat) : RelL g w ((cs.drop off).take n) ((vs.drop off).take n) := (h.drop off).take n

theorem cell_full {b : Nat} {full : List Value} {T : TypeId} {fr : Nat × Nat} (hb : w.heap[b]? = some (.cells full.toArray T fr)) (i : Nat) : w.cell? ⟨b, i, none⟩ = full[i]? := by
  simp [World.cell?, hb]

/-- The cells of a segment. -/
theorem cell_seg {b off n : Nat} {pre vs post : List Value} {T : TypeId} {fr : Nat × Nat} (hb : w.heap[b]? = some (.cells (pre ++ vs ++ post).toArray T fr)) {j : Nat} {v : Value} (hj : ((vs.drop off).take n)[j]? = some v) :
    w.cell? ⟨b, pre.length + off + j, none⟩ = some v := by
  rw [cell_full hb]
  rw [List.getElem?_take] at hj
  split at hj
  · rw [List.getElem?_drop] at hj
    have hlt := (List.getElem?_eq_some_iff.1 hj).1
    rw [List.append_assoc, List.getElem?_append_right (by omega), List.getElem?_append_left (by omega)]
    have : pre.length + off + j - pre.length = off + j := by omega
    rw [this]; exact hj
  · cases hj

theorem src_sound (h : HeapR tb B hp free w g) {k n : Nat} {d : D} {cs : List D} {rd : List Nm} {X : Value} (hs : srcD hp k d = some (n, cs, rd)) (hr : Rel g w d X) :
    ∃ vs, Src w k X n vs ∧ RelL g w cs vs := by
  unfold srcD at hs
  split at hs
  · rename_i k' o off n' cap
    split at hs
    · rename_i hk
      subst hk
      split at hs
      · rename_i cs' hc
        split at hs
        · rename_i hle
          cases hs
          obtain ⟨b, m, T, pre, vs, post, h1, h2, h3, h4, h5, h6⟩ := h.objs _ _ hc
          simp only [Rel] at hr
          obtain ⟨b', m', c, p, e1, e2, e3, e4, e5, e6⟩ := hr
          rw [h1] at e1
          cases e1
          have hl := h4.length
          refine ⟨(vs.drop off).take (n * k'), ⟨by simp; omega, .inr ⟨b, p, c, e2, fun j v hj => ?_⟩⟩, h4.seg off _⟩
          have hn : n * k' ≠ 0 := by
            intro h0
            rw [h0] at hj
            simp at hj
          have hc0 : c ≠ 0 := by
            intro h0
            have : n = 0 := by omega
            subst this
            simp at hn
          rw [e3 hc0, ← h3]
          exact cell_seg h2 hj
        · cases hs
      · cases hs
    · cases hs
  · rename_i k' es
    split at hs
    · rename_i hk
      subst hk
      cases hs
      simp only [Rel] at hr
      obtain ⟨hw, ⟨rfl, rfl⟩ | ⟨b, o, c, vs, rfl, hc, hcells, hE⟩⟩ := hr
      · exact ⟨[], ⟨by simp, .inl ⟨rfl, rfl⟩⟩, by simp [RelL]⟩
      · exact ⟨vs, ⟨hE.length hw, .inr ⟨b, o, c, rfl, fun j v hj => hcells.2 j v hj⟩⟩, hE.cells.up⟩
    · cases hs
  · rename_i k' es
    split at hs
    · rename_i hk
      subst hk
      cases hs
      simp only [Rel] at hr
      obtain ⟨hw, b, o, vs, rfl, hcells, hE⟩ := hr
      exact ⟨vs, ⟨hE.length hw, .inr ⟨b, o, _, rfl, fun j v hj => hcells.2 j v hj⟩⟩, hE.cells.up⟩
    · cases hs
  · cases hs
    have := rel_v hr
    subst this
    exact ⟨[], ⟨by simp, .inl ⟨rfl, rfl⟩⟩, by simp [RelL]⟩
  · cases hs

theorem relL_bytes (s : ByteArray) : RelL g w (s.data.toList.map byteD) (s.data.toList.map fun b => .int .u8 b.toNat) := by
  generalize s.data.toList = l
  induction l with
  | nil => simp [RelL]
  | cons b l ih =>
    simp only [List.map_cons, RelL]
    exact ⟨_, _, rfl, rel_v_mk rfl, ih⟩

theorem news_sound (h : HeapR tb B hp free w g) {k n : Nat} {e t2 : TypeId} {d : D} {cs : List D} {rd : List Nm} {X : Value} (hs : newsD P hp k t2 d = some (n, cs, rd)) (hr : Rel g w d X) :
    ∃ vs, News P w k e t2 X n vs ∧ RelL g w cs vs := by
  unfold newsD at hs
  split at hs
  · rename_i ht
    split at hs
    · rename_i s
      split at hs
      · rename_i hk
        subst hk
        cases hs
        have := rel_v hr
        subst this
        exact ⟨_, string_news ht, relL_bytes s⟩
      · cases hs
    · cases hs
  · rename_i e' ht
    obtain ⟨vs, h1, h2⟩ := src_sound h hs hr
    exact ⟨vs, h1.news ⟨_, ht, by simp⟩, h2⟩
  · cases hs

/-- What an operation does: its value, what it changes; nm: the name of what it makes. -/
def Runs (P : Program) (tb : Nat → Option (List D)) (B : Base) (free : Nm → Prop) (mk : Bool) (nm : Nm) (hp : Hp) (w : World) (g : G) (s : Sem Value) (d : D) (us : Up) : Prop :=
  ∃ v w' g', s.run P w = .ok v w' ∧ HeapR tb B (hp.app us.pt) (fun m => free m ∧ (mk = true → m ≠ nm)) w' g' ∧ Ext g w g' w' ∧ Rel g' w' d v

theorem app_one {n : Nm} {o : Option Ob} (m : Nm) : hp.app (Up.pt [(n, o)]) m = if m = n then o else hp m := by
  simp only [Hp.app, Up.pt]
  by_cases h : m = n <;> simp [h]

theorem app_two {n n2 : Nm} {o o2 : Option Ob} (h2 : n ≠ n2) (m : Nm) : hp.app (Up.pt [(n, o), (n2, o2)]) m = if m = n then o else if m = n2 then o2 else hp m := by
  simp only [Hp.app, Up.pt]
  by_cases h : m = n
  · subst h; simp [h2]
  · by_cases h' : m = n2
    · subst h'; simp [h]
    · simp [h, h']

theorem Runs.plain {s : Sem Value} {d : D} {mk : Bool} {nm : Nm} {v : Value} {g' : G} {w' : World} (h : HeapR tb B hp free w g) (hr : s.run P w = .ok v w') (hn : New g w g' w') (hd : Rel g' w' d v) : Runs P tb B free mk nm hp w g s d [] :=
  ⟨v, w', g', hr, (h.pure hn).weaken fun n hn => hn.1, hn.ext h.tight, hd⟩

theorem Runs.same {s : Sem Value} {d : D} {mk : Bool} {nm : Nm} {v : Value} (h : HeapR tb B hp free w g) (hr : s.run P w = .ok v w) (hd : Rel g w d v) : Runs P tb B free mk nm hp w g s d [] :=
  Runs.plain h hr (New.refl h.tight) hd

/-- A new row of cells. -/
theorem Runs.row {s : Sem Value} {nm : Nm} {cs : List D} {vs post : List Value} {T : TypeId} {d : D} {v : Value} {g0 : G} {w1 : World} (h : HeapR tb B hp free w g) (hf : free nm) (hn : New g w g0 w1) (hr : s.run P w = .ok v (w1.alloc (.cells (vs ++ post).toArray T)))
    (hl : RelL g0 w1 cs vs) (hd : ∀ g' w', g'.val nm = some (.pointer (some ⟨w1.heap.size, 0, none⟩)) → Room w' w1.heap.size (vs ++ post).length → Rel g' w' d v) : Runs P tb B free true nm hp w g s d [(nm, some (.cells cs))] := by
  have h1 := h.pure hn
  have hnone : g0.val nm = none := h1.free nm hf
  have hal : (w1.alloc (.cells (vs ++ post).toArray T)).heap[w1.heap.size]? = some (.cells (vs ++ post).toArray T (0, 0)) := alloc_at _ _
  have := h1.alloc (n := nm) hnone (x := .pointer (some ⟨w1.heap.size, 0, none⟩)) (ob := .cells cs) (obj := .cells (vs ++ post).toArray T) rfl
    ⟨w1.heap.size, 0, T, [], vs, post, G.name_val_eq, by simpa using hal, rfl, RelL.ext ((Ext.name hnone).trans (Ext.alloc (g := g0.name nm _) h1.tight _)) _ _ hl, h1.tight _ (Nat.le_refl _), h1.fresh⟩
    (free' := fun m => free m ∧ m ≠ nm) (fun m hm => hm) (hp' := hp.app (Up.pt [(nm, some (.cells cs))])) (fun m => app_one m)
  refine ⟨v, _, _, hr, this.1.weaken fun n hn => ⟨hn.1, hn.2 rfl⟩, (hn.ext h.tight).trans this.2, hd _ _ G.name_val_eq ⟨_, _, _, hal, by simp⟩⟩

theorem splice_mid {α : Type} (pre vs post us : List α) (off : Nat) (h : off + us.length ≤ vs.length) :
    (pre ++ vs ++ post).take (pre.length + off) ++ us ++ (pre ++ vs ++ post).drop (pre.length + off + us.length) = pre ++ (vs.take off ++ us ++ vs.drop (off + us.length)) ++ post := by
  rw [List.append_assoc pre vs post, List.take_length_add_append, Nat.add_assoc, List.drop_length_add_append, List.take_append_of_le_length (by omega), List.drop_append_of_le_length (by omega)]
  simp [List.append_assoc]

/-- A write into cells of a thing. -/
theorem Runs.write {s : Sem Value} {mk : Bool} {nm : Nm} {n : Nm} {cs xs : List D} {us : List Value} {off : Nat} {d : D} {v : Value} (h : HeapR tb B hp free w g) (hs : hp n = some (.cells cs)) (hx : RelL g w xs us) (hle : off + xs.length ≤ cs.length)
    (hr : ∀ b m T (full : List Value), g.val n = some (.pointer (some ⟨b, m, none⟩)) → w.heap[b]? = some (.cells full.toArray T (0, 0)) → m + off + us.length ≤ full.length →
      s.run P w = .ok v (w.setRow b (full.take (m + off) ++ us ++ full.drop (m + off + us.length)).toArray)) (hd : ∀ w', Ext g w g w' → Rel g w' d v) : Runs P tb B free mk nm hp w g s d [(n, some (.cells (spliceD cs xs off)))] := by
  obtain ⟨b, m, T, pre, vs, post, h1, h2, h3, h4, h5, h6⟩ := h.objs n _ hs
  have hlen := h4.length
  have hxl := hx.length
  have hrun := hr b m T _ h1 h2 (by simp; omega)
  subst h3
  have hsz : (pre ++ vs ++ post).toArray.size = ((pre ++ vs ++ post).take (pre.length + off) ++ us ++ (pre ++ vs ++ post).drop (pre.length + off + us.length)).toArray.size := by
    simp; omega
  have ht := turned_setRow h2 hsz
  have he := ht.ext (g := g) h5
  have ho : ORel B.kp g (w.setRow b ((pre ++ vs ++ post).take (pre.length + off) ++ us ++ (pre ++ vs ++ post).drop (pre.length + off + us.length)).toArray) n (.cells (spliceD cs xs off)) := by
    refine ⟨b, pre.length, T, pre, vs.take off ++ us ++ vs.drop (off + us.length), post, h1, ?_, rfl, RelL.ext he _ _ (h4.splice hx), h5, h6⟩
    rw [← splice_mid pre vs post us off (by omega)]
    exact setRow_heap w b _ _ T (0, 0) h2
  have := h.put (n := n) (by rw [hs]; simp) (b := b) (by simp [blk, h1, blkV]) ht ho (hp' := hp.app (Up.pt [(n, some (.cells (spliceD cs xs off)))])) (fun m => app_one m)
  exact ⟨v, _, g, hrun, this.1.weaken fun n hn => hn.1, this.2, hd _ this.2⟩

end
end Go.Ab
