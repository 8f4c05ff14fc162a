/-
  Operations on maps: what they yield and change.
-/
import Derived.Test.YtahhpefgeeofhaaGreatDoorZeMap
set_option linter.unusedSimpArgs false
set_option linter.unusedVariables false
namespace Go.Ab

def zeroD (P : Program) (t : TypeId) : Option D := match P.info? t with
  | some i => (match i.zero with
    | some z => D.ofV z
    | none => none)
  | none => none

def okD (commaOk : Bool) (v : D) (b : Bool) : D := if commaOk then .tup [v, .v (.bool b)] else v

def lookupD (P : Program) (hp : Hp) (t : TypeId) (x k : D) (commaOk : Bool) : Option (D × List Nm) :=
  match P.underlying t with
  | some (.map kt et) => if keyOK P kt k = true then (match x with
    | .v (.map none) => (zeroD P et).map fun z => (okD commaOk z false, [])
    | .own m => (match hp m with
      | some (.map es _) => (match findD P kt k es 0 with
        | some (some (_, e)) => some (okD commaOk e.val true, [m])
        | some none => (zeroD P et).map fun z => (okD commaOk z false, [m])
        | none => none)
      | _ => none)
    | _ => none) else none
  | _ => none

def mapUpdateD (P : Program) (hp : Hp) (t : TypeId) (x k v : D) : Option (Up × List Nm) :=
  match P.underlying t with
  | some (.map kt _) => if keyOK P kt k = true then (match x with
    | .own m => (match hp m with
      | some (.map es clock) => (match findD P kt k es 0 with
        | some (some (i, e)) => if sameKey e.key k = true then some ([(m, some (.map (es.set i ⟨k, v, e.born⟩) clock))], [m]) else none
        | some none => some ([(m, some (.map (es ++ [⟨k, v, clock⟩]) (clock + 1)))], [m])
        | none => none)
      | _ => none)
    | _ => none) else none
  | _ => none

def mapEntryD (P : Program) (hp : Hp) (t : TypeId) (x k : D) : Option (D × Up × List Nm) :=
  match P.underlying t with
  | some (.map kt et) => if keyOK P kt k = true then (match x with
    | .own m => (match hp m with
      | some (.map es clock) => (match findD P kt k es 0 with
        | some (some (i, e)) => if sameKey e.key k = true then some (.tup [e.val, .v (.int .i64 (e.born : Int))], [(m, some (.map (es.set i ⟨k, e.val, e.born⟩) clock))], [m]) else none
        | some none => (zeroD P et).map fun z => (.tup [z, .v (.int .i64 (clock : Int))], [(m, some (.map (es ++ [⟨k, z, clock⟩]) (clock + 1)))], [m])
        | none => none)
      | _ => none)
    | _ => none) else none
  | _ => none

def bornIdx (b : Int) : List MEnt → Nat → Option (Nat × MEnt)
  | [], _ => none
  | e :: es, i => if (e.born : Int) == b then some (i, e) else bornIdx b es (i + 1)

def entryStoreD (hp : Hp) (x s v : D) : Option (Up × List Nm) :=
  match x, s with
  | .own m, .v (.int _ b) => (match hp m with
    | some (.map es clock) => (match bornIdx b es 0 with
      | some (i, e) => some ([(m, some (.map (es.set i ⟨e.key, v, e.born⟩) clock))], [m])
      | none => none)
    | _ => none)
  | _, _ => none

def deleteD (P : Program) (hp : Hp) (t : TypeId) (x k : D) : Option (Up × List Nm) :=
  match P.underlying t with
  | some (.map kt _) => if keyOK P kt k = true then (match x with
    | .own m => (match hp m with
      | some (.map es clock) => (match findD P kt k es 0 with
        | some (some (i, _)) => some ([(m, some (.map (es.eraseIdx i) clock))], [m])
        | some none => some ([(m, some (.map es clock))], [m])
        | none => none)
      | _ => none)
    | _ => none) else none
  | _ => none

section
variable {P : Program} {tb : Nat → Option (List D)} {g g' : G} {B : Base} {w w' : World} {hp : Hp} {free : Nm → Prop} {a : Act}

theorem run_zeroD {t : TypeId} {z : D} (h : zeroD P t = some z) : ∃ v, (zeroValue t).run P w = .ok v w ∧ Rel g w z v := by
  unfold zeroD at h
  split at h
  · rename_i i hi
    split at h
    · rename_i v hv
      exact ⟨v, by simp [zeroValue, typeInfo, hi, hv], rel_ofV h⟩
    · cases h
  · cases h

theorem rel_okD {c : Bool} {z : D} {v : Value} {b : Bool} (h : Rel g w z v) : Rel g w (okD c z b) (if c then .tuple #[v, .bool b] else v) := by
  cases c with
  | false => exact h
  | true =>
    simp only [okD, if_true, Rel]
    refine ⟨[v, .bool b], rfl, ?_⟩
    simp only [RelL]
    exact ⟨v, [.bool b], rfl, h, .bool b, [], rfl, rel_v_mk rfl, rfl⟩

theorem RelM.get : ∀ {es : List MEnt} {xs : List MapEntry}, RelM g w es xs → xs.length = es.length
  | [], xs, h => by simp only [RelM] at h; simp [h]
  | e :: es, xs, h => by
    simp only [RelM] at h
    obtain ⟨x, ys, rfl, _, _, _, h4⟩ := h
    simp [h4.get]

theorem RelM.set {e : MEnt} {x : MapEntry} (h1 : Rel g w e.key x.key) (h2 : Rel g w e.val x.val) (h3 : x.born = e.born) : ∀ {es : List MEnt} {xs : List MapEntry} (i : Nat), RelM g w es xs → RelM g w (es.set i e) (xs.set i x)
  | [], xs, i, h => by simp only [RelM] at h; subst h; simp [RelM]
  | d :: es, xs, 0, h => by
    simp only [RelM] at h
    obtain ⟨y, ys, rfl, _, _, _, h4⟩ := h
    simp only [List.set_cons_zero, RelM]
    exact ⟨x, ys, rfl, h1, h2, h3, h4⟩
  | d :: es, xs, i + 1, h => by
    simp only [RelM] at h
    obtain ⟨y, ys, rfl, q1, q2, q3, h4⟩ := h
    simp only [List.set_cons_succ, RelM]
    exact ⟨y, _, rfl, q1, q2, q3, RelM.set h1 h2 h3 i h4⟩

theorem RelM.push {e : MEnt} {x : MapEntry} (h1 : Rel g w e.key x.key) (h2 : Rel g w e.val x.val) (h3 : x.born = e.born) : ∀ {es : List MEnt} {xs : List MapEntry}, RelM g w es xs → RelM g w (es ++ [e]) (xs ++ [x])
  | [], xs, h => by
    simp only [RelM] at h; subst h
    simp only [List.nil_append, RelM]
    exact ⟨x, [], rfl, h1, h2, h3, rfl⟩
  | d :: es, xs, h => by
    simp only [RelM] at h
    obtain ⟨y, ys, rfl, q1, q2, q3, h4⟩ := h
    simp only [List.cons_append, RelM]
    exact ⟨y, _, rfl, q1, q2, q3, RelM.push h1 h2 h3 h4⟩

theorem RelM.erase : ∀ {es : List MEnt} {xs : List MapEntry} (i : Nat), RelM g w es xs → RelM g w (es.eraseIdx i) (xs.eraseIdx i)
  | [], xs, i, h => by simp only [RelM] at h; subst h; simp [RelM]
  | d :: es, xs, 0, h => by
    simp only [RelM] at h
    obtain ⟨y, ys, rfl, _, _, _, h4⟩ := h
    simpa using h4
  | d :: es, xs, i + 1, h => by
    simp only [RelM] at h
    obtain ⟨y, ys, rfl, q1, q2, q3, h4⟩ := h
    simp only [List.eraseIdx_cons_succ, RelM]
    exact ⟨y, _, rfl, q1, q2, q3, RelM.erase i h4⟩

/-- A map as memory has it. -/
theorem map_at (h : HeapR tb B hp free w g) {m : Nm} {es : List MEnt} {clock : Nat} (hm : hp m = some (.map es clock)) {X : Value} (hX : Rel g w (.own m) X) :
    ∃ r xs, X = .map (some r) ∧ g.val m = some (.map (some r)) ∧ w.heap[r]? = some (.map xs.toArray clock) ∧ RelM g w es xs := by
  obtain ⟨r, xs, h1, h2, h3, h4, h5⟩ := h.objs m _ hm
  simp only [Rel] at hX
  rw [h1] at hX
  exact ⟨r, xs, by have := hX.1; simpa using this.symm, h1, h2, h3⟩

theorem run_getObj' {r : Nat} {o : Obj} (hb : w.heap[r]? = some o) (hn : ∀ c t f, o ≠ .cells c t f) : (getObj r).run P w = .ok o w := by
  cases o <;> first
    | (simp [getObj, Sem.run, hb]; done)
    | exact absurd rfl (hn _ _ _)

def setW (w : World) (r : Nat) (o : Obj) : World := { w with heap := w.heap.setIfInBounds r o }

theorem run_setObj' {r : Nat} {o : Obj} (o' : Obj) (hb : w.heap[r]? = some o) (hn : ∀ c t f, o ≠ .cells c t f) : (setObj r o').run P w = .ok () (setW w r o') := by
  cases o <;> first
    | (simp [setObj, Sem.run, hb, setW]; done)
    | exact absurd rfl (hn _ _ _)

theorem turned_setW {r : Nat} {o o' : Obj} (hb : w.heap[r]? = some o) (hn : ∀ c t f, o ≠ .cells c t f) : Turned r w (setW w r o') := by
  refine ⟨rfl, rfl, rfl, by simp [setW], fun k hk => by simp [setW, Ne.symm hk], fun n hr => ?_⟩
  obtain ⟨cs, T, fr, h1, _⟩ := hr
  rw [hb] at h1
  cases h1
  exact absurd rfl (hn _ _ _)

theorem setW_at {r : Nat} {o o' : Obj} (hb : w.heap[r]? = some o) : (setW w r o').heap[r]? = some o' := by
  have hlt : r < w.heap.size := (Array.getElem?_eq_some_iff.1 hb).1
  simp [setW, hlt]

/-- Behind a write into a map. -/
theorem HeapR.mapSet (h : HeapR tb B hp free w g) {m : Nm} {es es' : List MEnt} {clock clock' : Nat} (hm : hp m = some (.map es clock)) {r : Nat} {xs xs' : List MapEntry} (hv : g.val m = some (.map (some r))) (hb : w.heap[r]? = some (.map xs.toArray clock)) (hx : RelM g w es' xs') :
    HeapR tb B (hp.app (Up.pt [(m, some (.map es' clock'))])) free (setW w r (.map xs'.toArray clock')) g ∧ Ext g w g (setW w r (.map xs'.toArray clock')) := by
  have hn : ∀ c t f, (Obj.map xs.toArray clock) ≠ .cells c t f := by intro c t f e; cases e
  obtain ⟨r', xs2, q1, q2, q3, q4, q5⟩ := h.objs m _ hm
  rw [hv] at q1
  cases q1
  have ht := turned_setW (o' := .map xs'.toArray clock') hb hn
  have he := ht.ext (g := g) q4
  have ho : ORel B.kp g (setW w r (.map xs'.toArray clock')) m (.map es' clock') := ⟨r, xs', hv, setW_at hb, hx.ext he, q4, q5⟩
  exact h.put (n := m) (by rw [hm]; simp) (b := r) (by simp [blk, hv, blkV]) ht ho (fun m' => app_one m')

theorem lookup_sound (h : HeapR tb B hp free w g) {t : TypeId} {x k r : D} {c : Bool} {rd : List Nm} {X K : Value} (hl : lookupD P hp t x k c = some (r, rd)) (hx : Rel g w x X) (hk : Rel g w k K) :
    ∃ v, (Instr.lookup t X K c).run P w = .ok v w ∧ Rel g w r v := by
  unfold lookupD at hl
  split at hl
  · rename_i kt et ht
    split at hl
    · rename_i hok
      have hck := fun em => run_checkKey_ok (P := P) (w := w) hok hk em 9998
      split at hl
      · have := rel_v hx; subst this
        simp only [Option.map_eq_some_iff] at hl
        obtain ⟨z, hz, heq⟩ := hl
        cases heq
        obtain ⟨v, h1, h2⟩ := run_zeroD (P := P) (g := g) (w := w) hz
        refine ⟨_, ?_, rel_okD (c := c) (b := false) h2⟩
        have hf := run_findKey_asking (P := P) (w := w) (t := kt) (K := K) hok (xs := []) (r := none) (by simp [Instr.findAsking])
        have hc := hck true
        simp only [Nat.reduceAdd] at hc
        simp only [Instr.lookup, Sem.run_bind, run_underlying ht, Result.andThen_ok, Sem.run_pure]
        simp [hc, hf, h1]
      · rename_i m
        split at hl
        · rename_i es clock hm
          obtain ⟨r', xs, rfl, q1, q2, q3⟩ := map_at h hm hx
          have hg := run_getObj' (P := P) q2 (by intro c t f e; cases e)
          split at hl
          · rename_i i e hfd
            cases hl
            have := find_asking hk hfd q3
            obtain ⟨y, p1, p2, p3, p4, p5, p6, p7, p8⟩ := this
            have hf := run_findKey_asking (P := P) hok p8
            refine ⟨_, ?_, rel_okD (c := c) (b := true) p5⟩
            have hc := hck xs.toArray.isEmpty
            simp only [Nat.reduceAdd] at hc
            simp only [Instr.lookup, Sem.run_bind, run_underlying ht, Result.andThen_ok, Sem.run_pure, hg]
            simp only [hc, Result.andThen_ok, hf, Sem.run_pure, Sem.run_bind]
          · rename_i hfd
            simp only [Option.map_eq_some_iff] at hl
            obtain ⟨z, hz, heq⟩ := hl
            cases heq
            obtain ⟨v, h1, h2⟩ := run_zeroD (P := P) (g := g) (w := w) hz
            have hf := run_findKey_asking (P := P) hok (find_asking hk hfd q3)
            refine ⟨_, ?_, rel_okD (c := c) (b := false) h2⟩
            have hc := hck xs.toArray.isEmpty
            simp only [Nat.reduceAdd] at hc
            simp only [Instr.lookup, Sem.run_bind, run_underlying ht, Result.andThen_ok, Sem.run_pure, hg]
            simp only [hc, Result.andThen_ok, hf, Sem.run_bind, h1, Sem.run_pure]
          · cases hl
        · cases hl
      · cases hl
    · cases hl
  · cases hl


theorem sameV_bits {x y : D} {X Y : Value} (h : sameV x y = true) (hx : Rel g w x X) (hy : Rel g w y Y) (n : Nat) : Instr.sameBits n X Y = true := by
  unfold sameV at h
  split at h
  · have := rel_v hx; subst this; have := rel_v hy; subst this
    simpa [Instr.sameBits] using h
  · have := rel_v hx; subst this; have := rel_v hy; subst this
    simpa [Instr.sameBits] using h
  · have := rel_v hx; subst this; have := rel_v hy; subst this
    simpa [Instr.sameBits] using h
  · cases h

theorem sameVs_bits (n : Nat) : ∀ {xs ys : List D} {us vs : List Value}, ((xs.zip ys).all fun p => sameV p.1 p.2) = true → xs.length = ys.length → RelL g w xs us → RelL g w ys vs → ((us.zip vs).all fun p => Instr.sameBits n p.1 p.2) = true
  | [], [], us, vs, _, _, hx, hy => by simp only [RelL] at hx hy; subst hx; subst hy; rfl
  | [], _ :: _, _, _, _, hl, _, _ => by simp at hl
  | _ :: _, [], _, _, _, hl, _, _ => by simp at hl
  | x :: xs, y :: ys, us, vs, h, hl, hx, hy => by
    simp only [RelL] at hx hy
    obtain ⟨u, us, rfl, r1, r2⟩ := hx
    obtain ⟨v, vs, rfl, r3, r4⟩ := hy
    simp only [List.zip_cons_cons, List.all_cons, Bool.and_eq_true] at h ⊢
    exact ⟨sameV_bits h.1 r1 r3 n, sameVs_bits n h.2 (by simpa using hl) r2 r4⟩

theorem sameKey_bits {x y : D} {X Y : Value} (h : sameKey x y = true) (hx : Rel g w x X) (hy : Rel g w y Y) (n : Nat) : Instr.sameBits (n + 1) X Y = true := by
  unfold sameKey at h
  split at h
  · rename_i xs ys
    simp only [Bool.and_eq_true, beq_iff_eq] at h
    simp only [Rel] at hx hy
    obtain ⟨us, rfl, h1⟩ := hx
    obtain ⟨vs, rfl, h2⟩ := hy
    have := sameVs_bits n h.2 h.1 h1 h2
    have hlen : us.length = vs.length := by rw [h1.length, h2.length, h.1]
    simp only [Instr.sameBits, Bool.and_eq_true, beq_iff_eq, List.size_toArray]
    exact ⟨hlen, this⟩
  · exact sameV_bits h hx hy _

theorem run_keyStays {x y : D} {X Y : Value} (h : sameKey x y = true) (hx : Rel g w x X) (hy : Rel g w y Y) : (Instr.keyThatStays X Y).run P w = .ok Y w := by
  have := sameKey_bits h hx hy 9999
  simp only [Nat.reduceAdd] at this
  simp [Instr.keyThatStays, this]

theorem modify_set {α : Type} (xs : List α) (i : Nat) (x : α) (f : α → α) (hx : xs[i]? = some x) : (xs.toArray.modify i f) = (xs.set i (f x)).toArray := by
  apply Array.ext'
  simp only [Array.toList_modify]
  apply List.ext_getElem?
  intro j
  simp only [List.getElem?_modify, List.getElem?_set]
  have hlt := (List.getElem?_eq_some_iff.1 hx).1
  by_cases h : i = j
  · subst h
    have hx' := (List.getElem?_eq_some_iff.1 hx).2
    simp [hx, hlt]
    rw [hx']
  · simp [h]

theorem mapUpdate_sound (h : HeapR tb B hp free w g) {t : TypeId} {x k v : D} {us : Up} {rd : List Nm} {X K V : Value} (hl : mapUpdateD P hp t x k v = some (us, rd)) (hx : Rel g w x X) (hk : Rel g w k K) (hv : Rel g w v V) :
    ∃ w', (Instr.mapUpdate t X K V).run P w = .ok () w' ∧ HeapR tb B (hp.app us.pt) free w' g ∧ Ext g w g w' := by
  unfold mapUpdateD at hl
  split at hl
  · rename_i kt et ht
    split at hl
    · rename_i hok
      have hck := run_checkKey_ok (P := P) (w := w) hok hk false 9998
      simp only [Nat.reduceAdd] at hck
      split at hl
      · rename_i m
        split at hl
        · rename_i es clock hm
          obtain ⟨r', xs, rfl, q1, q2, q3⟩ := map_at h hm hx
          have hg := run_getObj' (P := P) q2 (by intro c t f e; cases e)
          split at hl
          · rename_i i e hfd
            split at hl
            · rename_i hsk
              cases hl
              obtain ⟨y, p1, p2, p3, p4, p5, p6, p7, p8⟩ := find_asking hk hfd q3
              simp only [Nat.sub_zero] at p1 p2
              have hf := run_findKey_asking (P := P) hok p8
              have hks := run_keyStays (P := P) hsk p4 hk
              have hR : RelM g w (es.set i ⟨k, v, e.born⟩) (xs.set i { y with key := K, val := V }) := RelM.set (e := ⟨k, v, e.born⟩) (x := { y with key := K, val := V }) hk hv p6 i q3
              obtain ⟨r1, r2⟩ := h.mapSet hm (clock' := clock) q1 q2 hR
              refine ⟨_, ?_, r1, r2⟩
              have hset := run_setObj' (P := P) (.map (xs.set i { y with key := K, val := V }).toArray clock) q2 (by intro c t f e; cases e)
              rw [← modify_set xs i y (fun e => { e with key := K, val := V }) p1] at hset ⊢
              simp only [Instr.mapUpdate, Sem.run_bind, run_underlying ht, Result.andThen_ok, hg, hck, hf, List.getElem?_toArray, p1, Option.map_some, Option.getD_some, hks, hset]
            · cases hl
          · rename_i hfd
            cases hl
            have hf := run_findKey_asking (P := P) hok (find_asking hk hfd q3)
            have hR : RelM g w (es ++ [⟨k, v, clock⟩]) (xs ++ [(⟨K, V, clock⟩ : MapEntry)]) := RelM.push (e := ⟨k, v, clock⟩) (x := ⟨K, V, clock⟩) hk hv rfl q3
            obtain ⟨r1, r2⟩ := h.mapSet hm (clock' := clock + 1) q1 q2 hR
            refine ⟨_, ?_, r1, r2⟩
            have hset := run_setObj' (P := P) (.map (xs ++ [(⟨K, V, clock⟩ : MapEntry)]).toArray (clock + 1)) q2 (by intro c t f e; cases e)
            have hpush : xs.toArray.push (⟨K, V, clock⟩ : MapEntry) = (xs ++ [(⟨K, V, clock⟩ : MapEntry)]).toArray := by simp
            simp only [Instr.mapUpdate, Sem.run_bind, run_underlying ht, Result.andThen_ok, hg, hck, hf, hpush, hset]
          · cases hl
        · cases hl
      · cases hl
    · cases hl
  · cases hl

theorem mapEntry_sound (h : HeapR tb B hp free w g) {t : TypeId} {x k d : D} {us : Up} {rd : List Nm} {X K : Value} (hl : mapEntryD P hp t x k = some (d, us, rd)) (hx : Rel g w x X) (hk : Rel g w k K) :
    ∃ v w', (Instr.mapEntry t X K).run P w = .ok v w' ∧ HeapR tb B (hp.app us.pt) free w' g ∧ Ext g w g w' ∧ Rel g w' d v := by
  have htup : ∀ {z : D} {v : Value} {n : Nat} {w' : World}, Rel g w' z v → Rel g w' (.tup [z, .v (.int .i64 (n : Int))]) (.tuple #[v, goInt n]) := by
    intro z v n w' hz
    simp only [Rel]
    refine ⟨[v, goInt n], rfl, ?_⟩
    simp only [RelL]
    exact ⟨v, [goInt n], rfl, hz, goInt n, [], rfl, rel_v_mk rfl, rfl⟩
  unfold mapEntryD at hl
  split at hl
  · rename_i kt et ht
    split at hl
    · rename_i hok
      have hck := run_checkKey_ok (P := P) (w := w) hok hk false 9998
      simp only [Nat.reduceAdd] at hck
      split at hl
      · rename_i m
        split at hl
        · rename_i es clock hm
          obtain ⟨r', xs, rfl, q1, q2, q3⟩ := map_at h hm hx
          have hg := run_getObj' (P := P) q2 (by intro c t f e; cases e)
          split at hl
          · rename_i i e hfd
            split at hl
            · rename_i hsk
              cases hl
              obtain ⟨y, p1, p2, p3, p4, p5, p6, p7, p8⟩ := find_asking hk hfd q3
              simp only [Nat.sub_zero] at p1 p2
              have hf := run_findKey_asking (P := P) hok p8
              have hks := run_keyStays (P := P) hsk p4 hk
              have hR : RelM g w (es.set i ⟨k, e.val, e.born⟩) (xs.set i { y with key := K }) := RelM.set (e := ⟨k, e.val, e.born⟩) (x := { y with key := K }) hk p5 p6 i q3
              obtain ⟨r1, r2⟩ := h.mapSet hm (clock' := clock) q1 q2 hR
              have hset := run_setObj' (P := P) (.map (xs.set i { y with key := K }).toArray clock) q2 (by intro c t f e; cases e)
              rw [← modify_set xs i y (fun e => { e with key := K }) p1] at hset r1 r2
              refine ⟨.tuple #[y.val, goInt y.born], _, ?_, r1, r2, ?_⟩
              · simp only [Instr.mapEntry, Sem.run_bind, run_underlying ht, Result.andThen_ok, hg, hck, hf, List.getElem?_toArray, p1, Option.map_some, Option.getD_some, hks, hset, Sem.run_pure]
              · rw [p6]; exact htup (Rel.ext r2 _ _ p5)
            · cases hl
          · rename_i hfd
            simp only [Option.map_eq_some_iff] at hl
            obtain ⟨z, hz, heq⟩ := hl
            cases heq
            obtain ⟨zv, h1, h2⟩ := run_zeroD (P := P) (g := g) (w := w) hz
            have hf := run_findKey_asking (P := P) hok (find_asking hk hfd q3)
            have hR : RelM g w (es ++ [⟨k, z, clock⟩]) (xs ++ [(⟨K, zv, clock⟩ : MapEntry)]) := RelM.push (e := ⟨k, z, clock⟩) (x := ⟨K, zv, clock⟩) hk h2 rfl q3
            obtain ⟨r1, r2⟩ := h.mapSet hm (clock' := clock + 1) q1 q2 hR
            have hset := run_setObj' (P := P) (.map (xs ++ [(⟨K, zv, clock⟩ : MapEntry)]).toArray (clock + 1)) q2 (by intro c t f e; cases e)
            have hpush : xs.toArray.push (⟨K, zv, clock⟩ : MapEntry) = (xs ++ [(⟨K, zv, clock⟩ : MapEntry)]).toArray := by simp
            refine ⟨.tuple #[zv, goInt clock], _, ?_, r1, r2, htup (Rel.ext r2 _ _ h2)⟩
            simp only [Instr.mapEntry, Sem.run_bind, run_underlying ht, Result.andThen_ok, hg, hck, hf, h1, hpush, hset, Sem.run_pure]
          · cases hl
        · cases hl
      · cases hl
    · cases hl
  · cases hl

theorem bornIdx_spec {b : Int} : ∀ {es : List MEnt} {xs : List MapEntry} {i j : Nat} {e : MEnt}, bornIdx b es i = some (j, e) → RelM g w es xs → ∃ x, i ≤ j ∧ xs[j - i]? = some x ∧ Rel g w e.key x.key ∧ x.born = e.born ∧ xs.findIdx? (fun e => (e.born : Int) == b) = some (j - i)
  | [], xs, i, j, e, h, _ => by simp [bornIdx] at h
  | d :: es, xs, i, j, e, h, hm => by
    simp only [RelM] at hm
    obtain ⟨x, ys, rfl, h1, h2, h3, h4⟩ := hm
    simp only [bornIdx] at h
    split at h
    · rename_i hb
      cases h
      exact ⟨x, Nat.le_refl _, by simp, h1, h3, by simp [List.findIdx?_cons, h3]; simpa using hb⟩
    · rename_i hb
      obtain ⟨y, q1, q2, q3, q4, q5⟩ := bornIdx_spec h h4
      refine ⟨y, by omega, ?_, q3, q4, ?_⟩
      · rw [show j - i = (j - (i + 1)) + 1 by omega]; simpa using q2
      · have hb' : ((x.born : Int) == b) = false := by rw [h3]; simpa using hb
        rw [List.findIdx?_cons, hb', q5]
        simp
        omega

theorem entryStore_sound (h : HeapR tb B hp free w g) {t : TypeId} {x s v : D} {us : Up} {rd : List Nm} {X S V : Value} (hl : entryStoreD hp x s v = some (us, rd)) (hx : Rel g w x X) (hs : Rel g w s S) (hv : Rel g w v V) :
    ∃ w', (Instr.entryStore t X S V).run P w = .ok () w' ∧ HeapR tb B (hp.app us.pt) free w' g ∧ Ext g w g w' := by
  unfold entryStoreD at hl
  split at hl
  · rename_i m kb b
    have := rel_v hs; subst this
    split at hl
    · rename_i es clock hm
      obtain ⟨r', xs, rfl, q1, q2, q3⟩ := map_at h hm hx
      have hg := run_getObj' (P := P) q2 (by intro c t f e; cases e)
      split at hl
      · rename_i i e hb
        cases hl
        obtain ⟨y, p0, p1, p2, p3, p4⟩ := bornIdx_spec hb q3
        simp only [Nat.sub_zero] at p1 p4
        have hR : RelM g w (es.set i ⟨e.key, v, e.born⟩) (xs.set i { y with val := V }) := RelM.set (e := ⟨e.key, v, e.born⟩) (x := { y with val := V }) p2 hv p3 i q3
        obtain ⟨r1, r2⟩ := h.mapSet hm (clock' := clock) q1 q2 hR
        have hset := run_setObj' (P := P) (.map (xs.set i { y with val := V }).toArray clock) q2 (by intro c t f e; cases e)
        rw [← modify_set xs i y (fun e => { e with val := V }) p1] at hset r1 r2
        have hfi : xs.toArray.findIdx? (fun e => (e.born : Int) == b) = some i := by simpa using p4
        refine ⟨_, ?_, r1, r2⟩
        simp only [Instr.entryStore, Sem.run_bind, Result.andThen_ok, hg, asInt, asIntOf, Sem.run_pure, hfi, hset]
      · cases hl
    · cases hl
  · cases hl

theorem delete_sound (h : HeapR tb B hp free w g) {t kt ty : TypeId} {x k : D} {us : Up} {rd : List Nm} {X K : Value} (hl : deleteD P hp t x k = some (us, rd)) (hx : Rel g w x X) (hk : Rel g w k K) :
    ∃ w', (Builtin.delete_ #[t, kt] ty #[X, K]).run P w = .ok (.tuple #[]) w' ∧ HeapR tb B (hp.app us.pt) free w' g ∧ Ext g w g w' := by
  unfold deleteD at hl
  split at hl
  · rename_i kt et ht
    split at hl
    · rename_i hok
      split at hl
      · rename_i m
        split at hl
        · rename_i es clock hm
          obtain ⟨r', xs, rfl, q1, q2, q3⟩ := map_at h hm hx
          have hg := run_getObj' (P := P) q2 (by intro c t f e; cases e)
          have hck := run_checkKey_ok (P := P) (w := w) hok hk xs.isEmpty 9998
          simp only [Nat.reduceAdd] at hck
          split at hl
          · rename_i i e hfd
            cases hl
            obtain ⟨y, p1, p2, p3, p4, p5, p6, p7, p8⟩ := find_asking hk hfd q3
            simp only [Nat.sub_zero] at p1 p2
            have hf := run_findKey_asking (P := P) hok p8
            obtain ⟨r1, r2⟩ := h.mapSet hm (clock' := clock) q1 q2 (q3.erase i)
            have hset := run_setObj' (P := P) (.map (xs.eraseIdx i).toArray clock) q2 (by intro c t f e; cases e)
            have her : xs.toArray.eraseIdxIfInBounds i = (xs.eraseIdx i).toArray := by
              have hlt := (List.getElem?_eq_some_iff.1 p1).1
              simp [Array.eraseIdxIfInBounds, hlt]
            refine ⟨_, ?_, r1, r2⟩
            simp [Builtin.delete_, Sem.run_bind, run_underlying ht, hg, hck, hf, her, hset]
          · rename_i hfd
            cases hl
            have hf := run_findKey_asking (P := P) hok (find_asking hk hfd q3)
            obtain ⟨r1, r2⟩ := h.mapSet hm (clock' := clock) q1 q2 q3
            have hset := run_setObj' (P := P) (.map xs.toArray clock) q2 (by intro c t f e; cases e)
            refine ⟨_, ?_, r1, r2⟩
            simp [Builtin.delete_, Sem.run_bind, run_underlying ht, hg, hck, hf, hset]
          · cases hl
        · cases hl
      · cases hl
    · cases hl
  · cases hl

end
end Go.Ab
