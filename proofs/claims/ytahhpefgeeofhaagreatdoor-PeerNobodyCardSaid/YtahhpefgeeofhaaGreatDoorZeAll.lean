/-
  All operations: what each yields, changes and looks at (opH), and that the machine does just that.
-/
import Derived.Test.YtahhpefgeeofhaaGreatDoorZeIter
set_option linter.unusedSimpArgs false
set_option linter.unusedVariables false
namespace Go.Ab

abbrev OutH := Option (D × Up × List Nm)

def pureH (r : Option D) : OutH := match r with
  | some d => some (d, [], [])
  | none => none

/-- Is a slice, a map or a function nil? -/
def isNilD (P : Program) (hp : Hp) (t : TypeId) (x y : D) : Option (Bool × List Nm) :=
  match P.underlying t, x, y with
  | some (.slice _), .v (.slice none 0 0), .v (.slice none 0 0) => some (true, [])
  | some (.slice _), .sl _ _ _ _ _, .v (.slice none 0 0) => some (false, [])
  | some (.map _ _), .v (.map none), .v (.map none) => some (true, [])
  | some (.map _ _), .own m, .v (.map none) => (match hp m with
    | some (.map _ _) => some (false, [m])
    | _ => none)
  | some (.func _ _ _), .v .nilFunc, .v .nilFunc => some (true, [])
  | some (.func _ _ _), .func _ _ _, .v .nilFunc => some (false, [])
  | _, _, _ => none

/-- May they be held against one another as slices, maps or functions (one of them nil)? -/
def nilish : D → D → Bool
  | .v (.slice none 0 0), .v (.slice none 0 0) => true
  | .sl _ _ _ _ _, .v (.slice none 0 0) => true
  | .v (.map none), .v (.map none) => true
  | .own _, .v (.map none) => true
  | .v .nilFunc, .v .nilFunc => true
  | .func _ _ _, .v .nilFunc => true
  | _, _ => false

def binH (P : Program) (hp : Hp) (op : BinOp) (t : TypeId) (x y : D) : Option (D × List Nm) :=
  if nilish x y = true then (match isNilD P hp t x y with
  | some (b, rd) => (match op with
    | .eql => some (.v (.bool b), rd)
    | .neq => some (.v (.bool !b), rd)
    | _ => none)
  | none => none)
  else (match binD P op t x y with
    | some d => some (d, [])
    | none => none)

def lenH (P : Program) (hp : Hp) (t : TypeId) (x : D) : Option (D × List Nm) :=
  match P.underlying t, x with
  | some (.slice _), .sl _ _ _ len _ => some (.v (.int .i64 (len : Int)), [])
  | some (.map _ _), .v (.map none) => some (.v (.int .i64 0), [])
  | some (.map _ _), .own m => (match hp m with
    | some (.map es _) => some (.v (.int .i64 (es.length : Int)), [m])
    | _ => none)
  | _, _ => none

def capH (P : Program) (t : TypeId) (x : D) : Option D :=
  match P.underlying t, x with
  | some (.slice _), .sl _ _ _ _ (some c) => some (.v (.int .i64 (c : Int)))
  | some (.slice _), .v (.slice none 0 0) => some (.v (.int .i64 0))
  | _, _ => none

/-- A call of a builtin that looks at things or changes them; none: not one of these. -/
def builtinH (P : Program) (hp : Hp) (nm : Nm) (b : Builtin) (ds : List D) (ts : List TypeId) : OutH :=
  match b, ds, ts with
  | .append, [s, x], [t, t2] => appendD P hp nm t t2 s x
  | .copy, [d, x], [t, t2] => copyD P hp t t2 d x
  | .clear, [d], [t] => clearD P hp t d
  | .delete, [x, k], [t, _] => (deleteD P hp t x k).map fun r => (.tup [], r.1, r.2)
  | .len, [x], [t] => (lenH P hp t x).map fun r => (r.1, [], r.2)
  | .cap, [x], [t] => (capH P t x).map fun d => (d, [], [])
  | _, _, _ => none

/-- Is it a slice or a pointer into a thing? -/
def placed : D → Bool
  | .sl _ _ _ _ _ => true
  | .ptr _ _ => true
  | _ => false

/-- Does a call of a builtin look at things or change them? -/
def looks : Builtin → List D → Bool
  | .append, _ | .copy, _ | .clear, _ | .delete, _ | .cap, _ => true
  | .len, [.sl _ _ _ _ _] | .len, [.own _] | .len, [.v (.map none)] => true
  | _, _ => false

def opH (P : Program) (ev : Operand → Option D) (hp : Hp) (nm : Nm) (op : Op) : OutH :=
  match op with
  | .alloc t => (match zerosD P t with
    | some cs => some (.ptr nm 0, [(nm, some (.cells cs))], [])
    | none => none)
  | .box _ x => (match ev x with
    | some d => some (.ptr nm 0, [(nm, some (.cells d.cells))], [])
    | none => none)
  | .load t x => (match ev x with
    | some (.ptr n off) => (match hp n with
      | some (.cells cs) => (match partD P t cs off with
        | some d => some (d, [], [n])
        | none => none)
      | _ => none)
    | _ => pureH (opP P ev op))
  | .store t x y => (match ev x, ev y with
    | some (.ptr n off), some d => (match hp n with
      | some (.cells cs) => if P.info? t ≠ none ∧ d.cells.length = szD P t ∧ off + d.cells.length ≤ cs.length ∧ d.cells.all D.isCell = true then some (D.undef, [(n, some (.cells (spliceD cs d.cells off)))], [n]) else none
      | _ => none)
    | _, _ => none)
  | .buildSlice t len parts => (match partsD ev parts.toList with
    | some ps => buildSliceD P nm t len ps
    | none => none)
  | .makeSlice t l c => (match ev l, ev c with
    | some dl, some dc => makeSliceD P nm t dl dc
    | _, _ => none)
  | .makeMap t r => (match r with
    | none => some (.own nm, [(nm, some (.map [] 0))], [])
    | some x => (match ev x, P.underlying t with
      | some (.v (.int _ _)), some (.map _ _) => some (.own nm, [(nm, some (.map [] 0))], [])
      | _, _ => none))
  | .slice t x lo hi mx => (match ev x, optD ev lo, optD ev hi, optD ev mx with
    | some d, some l, some h, some m => if placed d = true then (match sliceH P hp t d l h m with
      | some (r, rd) => some (r, [], rd)
      | none => none) else pureH (sliceD P t d l h m)
    | _, _, _, _ => none)
  | .indexAddr t x ix => (match ev x, ev ix with
    | some (.sl k o off len cap), some i => (match P.underlying t with
      | some (.slice e) => if P.info? e = none ∨ k ≠ szD P e then none else (match ixD i len with
        | some j => some (.ptr o (off + j * k), [], [])
        | none => none)
      | _ => none)
    | some d, some i => pureH (indexAddrD P t d i)
    | _, _ => none)
  | .lookup t x k c => (match ev x, ev k with
    | some dx, some dk => (match lookupD P hp t dx dk c with
      | some (d, rd) => some (d, [], rd)
      | none => none)
    | _, _ => none)
  | .mapUpdate t m k x => (match ev m, ev k, ev x with
    | some dm, some dk, some dx => (match mapUpdateD P hp t dm dk dx with
      | some (us, rd) => some (D.undef, us, rd)
      | none => none)
    | _, _, _ => none)
  | .mapEntry t m k => (match ev m, ev k with
    | some dm, some dk => mapEntryD P hp t dm dk
    | _, _ => none)
  | .entryStore _ m s x => (match ev m, ev s, ev x with
    | some dm, some ds, some dx => (match entryStoreD hp dm ds dx with
      | some (us, rd) => some (D.undef, us, rd)
      | none => none)
    | _, _, _ => none)
  | .range t x => (match ev x with
    | some d => rangeD P hp nm t d
    | none => none)
  | .next x false => (match ev x with
    | some d => nextD hp d
    | none => none)
  | .entry x => (match ev x with
    | some d => (match entryD hp d with
      | some (r, rd) => some (r, [], rd)
      | none => none)
    | none => none)
  | .convert src dst x => (match ev x with
    | some (.sl k o off n cap) => (match P.underlying src, P.underlying dst with
      | some (.slice e), some .string => if isByte P e = true then (match srcD hp 1 (.sl k o off n cap) with
          | some (_, cs, rd) => (match bytesD cs with
            | some ns => some (.v (.string (strOfNums ns)), [], rd)
            | none => none)
          | none => none) else none
      | _, _ => none)
    | some d => pureH (convD P src dst d)
    | none => none)
  | .binOp op t x y _ => (match ev x, ev y with
    | some dx, some dy => (match binH P hp op t dx dy with
      | some (d, rd) => some (d, [], rd)
      | none => none)
    | _, _ => none)
  | .call c => (match c.callee with
    | .builtin b => (match allD ev c.args.toList with
      | some ds => if looks b ds = true then builtinH P hp nm b ds c.argTypes.toList else pureH (callD P ev c)
      | none => none)
    | _ => none)
  | op => pureH (opP P ev op)

/-- Does it make a new thing? -/
def makesH : Op → Bool
  | .alloc _ | .box _ _ | .buildSlice _ _ _ | .makeSlice _ _ _ | .makeMap _ _ | .range _ _ => true
  | .call c => (match c.callee with
    | .builtin .append => true
    | _ => false)
  | _ => false

section
variable {P : Program} {tb : Nat → Option (List D)} {g g' : G} {B : Base} {w w' : World} {hp : Hp} {free : Nm → Prop} {a : Act}

/-- What an operation does in the machine. -/
def Does (P : Program) (tb : Nat → Option (List D)) (B : Base) (free : Nm → Prop) (mk : Bool) (nm : Nm) (hp : Hp) (w : World) (g : G) (s : Sem Next) (d : D) (us : Up) : Prop :=
  ∃ v w' g', (s.run P w = .ok (.value v) w' ∨ (s.run P w = .ok .skip w' ∧ v = undef)) ∧ HeapR tb B (hp.app us.pt) (fun m => free m ∧ (mk = true → m ≠ nm)) w' g' ∧ Ext g w g' w' ∧ Rel g' w' d v

theorem Does.of_runs {s : Sem Value} {s' : Sem Next} {mk : Bool} {nm : Nm} {d : D} {us : Up} (h : Runs P tb B free mk nm hp w g s d us) (hs : ∀ v w', s.run P w = .ok v w' → s'.run P w = .ok (.value v) w') : Does P tb B free mk nm hp w g s' d us := by
  obtain ⟨v, w', g', h1, h2, h3, h4⟩ := h
  exact ⟨v, w', g', .inl (hs v w' h1), h2, h3, h4⟩

theorem Does.same {s' : Sem Next} {mk : Bool} {nm : Nm} {d : D} {v : Value} (h : HeapR tb B hp free w g) (hs : s'.run P w = .ok (.value v) w) (hd : Rel g w d v) : Does P tb B free mk nm hp w g s' d [] :=
  ⟨v, w, g, .inl hs, h.weaken fun n hn => hn.1, Ext.refl g w, hd⟩

theorem Does.unit {s' : Sem Next} {mk : Bool} {nm : Nm} {us : Up} (hs : s'.run P w = .ok .skip w') (h : HeapR tb B (hp.app us.pt) free w' g) (he : Ext g w g w') : Does P tb B free mk nm hp w g s' D.undef us :=
  ⟨undef, w', g, .inr ⟨hs, rfl⟩, h.weaken fun n hn => hn.1, he, rel_v_mk rfl⟩

theorem run_isNil (h : HeapR tb B hp free w g) {t : TypeId} {x y : D} {X Y : Value} {b : Bool} {rd : List Nm} (hn : isNilD P hp t x y = some (b, rd)) (hx : Rel g w x X) (hy : Rel g w y Y) (n : Nat) :
    (Op.equalIn (n + 1) t X Y).run P w = .ok b w ∧ (∀ k m, X ≠ .int k m) ∧ (∀ s, X ≠ .string s) ∧ (∀ k m, X ≠ .float k m) ∧ (∀ k m j, X ≠ .complex k m j) ∧ (∀ k m, Y ≠ .int k m) ∧ X ≠ .nilIface ∧ ∀ cs, X ≠ .agg cs := by
  unfold isNilD at hn
  split at hn
  · rename_i e ht
    have := rel_v hx; subst this; have := rel_v hy; subst this
    cases hn
    simp [Op.equalIn, run_underlying ht]
  · rename_i e k o off len cap ht
    have := rel_v hy; subst this
    cases hn
    simp only [Rel] at hx
    obtain ⟨b, m, c, p, e1, rfl, _⟩ := hx
    simp [Op.equalIn, run_underlying ht]
  · rename_i k e ht
    have := rel_v hx; subst this; have := rel_v hy; subst this
    cases hn
    simp [Op.equalIn, run_underlying ht]
  · rename_i k e m ht
    have := rel_v hy; subst this
    split at hn
    · rename_i es clock hm
      cases hn
      obtain ⟨r, xs, rfl, _⟩ := map_at h hm hx
      simp [Op.equalIn, run_underlying ht]
    · cases hn
  · rename_i ht
    have := rel_v hx; subst this; have := rel_v hy; subst this
    cases hn
    simp [Op.equalIn, run_underlying ht]
  · rename_i fn first cap ht
    have := rel_v hy; subst this
    cases hn
    simp only [Rel] at hx
    obtain ⟨xs, ys, rfl, _⟩ := hx
    simp [Op.equalIn, run_underlying ht]
  · cases hn

theorem run_binH (h : HeapR tb B hp free w g) {op : BinOp} {t : TypeId} {x y : Operand} {dx dy d : D} {rd : List Nm} {X Y : Value} (hb : binH P hp op t dx dy = some (d, rd)) (rx : Rel g w dx X) (ry : Rel g w dy Y) :
    ∃ v, (do eqGuard op t x y X Y; binOp op t X Y : Sem Value).run P w = .ok v w ∧ Rel g w d v := by
  unfold binH at hb
  split at hb
  · split at hb
    case h_2 => cases hb
    rename_i b rd' hn
    obtain ⟨h1, h2, h3, h4, h5, h6, h7, h8⟩ := run_isNil h hn rx ry 9999
    have h9 := run_eql (P := P) h1 h2 h3 h4 h5 h6
    split at hb
    · cases hb
      exact ⟨_, by rw [Sem.run_bind, run_eqGuard_plain h7 h8]; exact h9.1, rel_v_mk rfl⟩
    · cases hb
      exact ⟨_, by rw [Sem.run_bind, run_eqGuard_plain h7 h8]; exact h9.2, rel_v_mk rfl⟩
    · cases hb
  · split at hb
    · rename_i d' hd
      cases hb
      exact run_binD hd rx ry
    · cases hb

theorem allD_one {ev : Operand → Option D} {xs : List Operand} {d : D} {ds : List D} (h : allD ev xs = some (d :: ds)) : ∃ x ys, xs = x :: ys ∧ ev x = some d ∧ allD ev ys = some ds := by
  cases xs with
  | nil => simp [allD] at h
  | cons x ys =>
    simp only [allD] at h
    split at h
    · rename_i d' ds' h1 h2
      cases h
      exact ⟨x, ys, rfl, h1, h2⟩
    · cases h

theorem allD_nil {ev : Operand → Option D} {xs : List Operand} (h : allD ev xs = some []) : xs = [] := by
  cases xs with
  | nil => rfl
  | cons x ys =>
    simp only [allD] at h
    split at h
    · cases h
    · cases h

theorem len_sound (h : HeapR tb B hp free w g) {t ty : TypeId} {x d : D} {rd : List Nm} {X : Value} (hl : lenH P hp t x = some (d, rd)) (hx : Rel g w x X) : ∃ v, (Builtin.len_ #[t] ty #[X]).run P w = .ok v w ∧ Rel g w d v := by
  unfold lenH at hl
  split at hl
  · rename_i e k o off len cap ht
    cases hl
    simp only [Rel] at hx
    obtain ⟨b, m, c, p, e1, rfl, _⟩ := hx
    exact ⟨_, by simp [Builtin.len_, run_underlying ht, goInt], rel_v_mk rfl⟩
  · rename_i k e ht
    cases hl
    have := rel_v hx; subst this
    exact ⟨_, by simp [Builtin.len_, run_underlying ht, goInt], rel_v_mk rfl⟩
  · rename_i k e m ht
    split at hl
    · rename_i es clock hm
      cases hl
      obtain ⟨r, xs, rfl, q1, q2, q3⟩ := map_at h hm hx
      have hg := run_getObj' (P := P) q2 (by intro c t f e; cases e)
      exact ⟨_, by simp [Builtin.len_, run_underlying ht, goInt, hg, q3.get], rel_v_mk rfl⟩
    · cases hl
  · cases hl

theorem cap_sound {t ty : TypeId} {x d : D} {X : Value} (hl : capH P t x = some d) (hx : Rel g w x X) : ∃ v, (Builtin.cap_ #[t] ty #[X]).run P w = .ok v w ∧ Rel g w d v := by
  unfold capH at hl
  split at hl
  · rename_i e k o off len c ht
    cases hl
    simp only [Rel] at hx
    obtain ⟨b, m, c', p, e1, rfl, _, _, hc, _⟩ := hx
    have := hc c rfl
    subst this
    exact ⟨_, by simp [Builtin.cap_, run_underlying ht, goInt], rel_v_mk rfl⟩
  · rename_i e ht
    cases hl
    have := rel_v hx; subst this
    exact ⟨_, by simp [Builtin.cap_, run_underlying ht, goInt], rel_v_mk rfl⟩
  · cases hl

def isApp : Builtin → Bool
  | .append => true
  | _ => false

theorem builtinH_sound (h : HeapR tb B hp free w g) {nm : Nm} {c : Call} {b : Builtin} (hc : c.callee = .builtin b) (hf : b = .append → free nm) {ev : Operand → Option D} (hev : ∀ x d, ev x = some d → Rel g w d (a.eval x)) {ds : List D} (hds : allD ev c.args.toList = some ds)
    {d : D} {us : Up} {rd : List Nm} (hb : builtinH P hp nm b ds c.argTypes.toList = some (d, us, rd)) {o : Oper} (ho : o.op = .call c) : Does P tb B free (isApp b) nm hp w g (execOp a.eval o) d us := by
  have hr := allD_rel hev hds
  have e0 : (c.args.map a.eval) = (c.args.toList.map a.eval).toArray := by apply Array.ext'; simp
  have e3 : ∀ l : List TypeId, c.argTypes.toList = l → c.argTypes = l.toArray := fun l hl => by apply Array.ext'; rw [hl]
  unfold builtinH at hb
  split at hb
  · rename_i s x t t2 hts
    simp only [RelL] at hr
    obtain ⟨S, r1, h1, h2, X, r2, h3, h4, h5⟩ := hr
    subst h5; subst h3
    have := append_sound (ty := o.type) h (hf rfl) hb h2 h4
    refine Does.of_runs this fun v w' hv => ?_
    simp only [execOp, ho, resolve, hc, invoke, Sem.run_bind, Sem.run_pure, Result.andThen_ok, builtin, e0, h1, e3 _ hts, hv]
  · rename_i s x t t2 hts
    simp only [RelL] at hr
    obtain ⟨S, r1, h1, h2, X, r2, h3, h4, h5⟩ := hr
    subst h5; subst h3
    have := copy_sound (ty := o.type) (free := free) (mk := false) (nm := nm) h hb h2 h4
    refine Does.of_runs this fun v w' hv => ?_
    simp only [execOp, ho, resolve, hc, invoke, Sem.run_bind, Sem.run_pure, Result.andThen_ok, builtin, e0, h1, e3 _ hts, hv]
  · rename_i s t hts
    simp only [RelL] at hr
    obtain ⟨S, r1, h1, h2, h5⟩ := hr
    subst h5
    have := clear_sound (ty := o.type) (free := free) (mk := false) (nm := nm) h hb h2
    refine Does.of_runs this fun v w' hv => ?_
    simp only [execOp, ho, resolve, hc, invoke, Sem.run_bind, Sem.run_pure, Result.andThen_ok, builtin, e0, h1, e3 _ hts, hv]
  · rename_i s k t t2 hts
    simp only [RelL] at hr
    obtain ⟨S, r1, h1, h2, X, r2, h3, h4, h5⟩ := hr
    subst h5; subst h3
    simp only [Option.map_eq_some_iff] at hb
    obtain ⟨⟨us', rd'⟩, hq, heq⟩ := hb
    cases heq
    obtain ⟨w', q1, q2, q3⟩ := delete_sound (kt := t2) (ty := o.type) h hq h2 h4
    refine ⟨.tuple #[], w', g, .inl ?_, q2.weaken fun n hn => hn.1, q3, by simp only [Rel]; exact ⟨[], rfl, by simp [RelL]⟩⟩
    simp only [execOp, ho, resolve, hc, invoke, Sem.run_bind, Sem.run_pure, Result.andThen_ok, builtin, e0, h1, e3 _ hts, q1]
  · rename_i s t hts
    simp only [RelL] at hr
    obtain ⟨S, r1, h1, h2, h5⟩ := hr
    subst h5
    simp only [Option.map_eq_some_iff] at hb
    obtain ⟨⟨d', rd'⟩, hq, heq⟩ := hb
    cases heq
    obtain ⟨v, q1, q2⟩ := len_sound (ty := o.type) h hq h2
    refine Does.same h ?_ q2
    simp only [execOp, ho, resolve, hc, invoke, Sem.run_bind, Sem.run_pure, Result.andThen_ok, builtin, e0, h1, e3 _ hts, q1]
  · rename_i s t hts
    simp only [RelL] at hr
    obtain ⟨S, r1, h1, h2, h5⟩ := hr
    subst h5
    simp only [Option.map_eq_some_iff] at hb
    obtain ⟨d', hq, heq⟩ := hb
    cases heq
    obtain ⟨v, q1, q2⟩ := cap_sound (ty := o.type) hq h2
    refine Does.same h ?_ q2
    simp only [execOp, ho, resolve, hc, invoke, Sem.run_bind, Sem.run_pure, Result.andThen_ok, builtin, e0, h1, e3 _ hts, q1]
  · cases hb

theorem pureH_spec {r : Option D} {d : D} {us : Up} {rd : List Nm} (h : pureH r = some (d, us, rd)) : r = some d ∧ us = [] ∧ rd = [] := by
  unfold pureH at h
  split at h
  · cases h; exact ⟨rfl, rfl, rfl⟩
  · cases h

end
end Go.Ab
