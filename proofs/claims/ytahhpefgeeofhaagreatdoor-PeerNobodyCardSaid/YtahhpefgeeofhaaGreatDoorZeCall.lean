/-
  Functions: a run, and that the machine runs so.
-/
import Derived.Test.YtahhpefgeeofhaaGreatDoorZeExec2
set_option linter.unusedSimpArgs false
set_option linter.unusedVariables false
namespace Go.Ab

def resOne (P : Program) (env : Env) (t : Tr) : ResultVar → Option D
  | .tmp k => env.getD k none
  | .cell k ty => (match env.getD k none with
    | some (.ptr n off) => (match t.get n with
      | some (.cells cs) => partD P ty cs off
      | _ => none)
    | _ => none)

def resL (P : Program) (env : Env) (t : Tr) : List ResultVar → Option (List D)
  | [] => some []
  | r :: rs => (match resOne P env t r, resL P env t rs with
    | some d, some ds => some (d :: ds)
    | _, _ => none)

def resD (P : Program) (env : Env) (t : Tr) (rs : List ResultVar) : Option D :=
  match resL P env t rs with
  | some [d] => some d
  | some ds => some (.tup ds)
  | none => none

/-- How many rounds and levels a function's code may go. -/
def LF : Nat := 100000

def entryEnv (ds : List D) (n : Nat) : Env := ds.map some ++ List.replicate (n - ds.length) none

/-- The marks gone. -/
def marksOK (t : Tr) : List Nm → Bool
  | [] => true
  | m :: ms => (match t.get m with
    | some .dfr => Nat.blt (m + 1) (2 ^ 64) && !ms.contains m
    | _ => false) && marksOK t ms

def setParams (env : Env) : List Tmp → List D → Env
  | p :: ps, d :: ds => setParams (env.set p (some d)) ps ds
  | _, _ => env

/-- What is left when a round's body has ended. -/
def roundEnd : Ex → Option (LoopState × Option Code × Bool)
  | .normal => some (.ready, none, true)
  | .ret => some (.done, some .ret, false)
  | .exit id => some (.done, some (.exit id), false)

def endFn (P : Program) (fn : Func) (e : Env) (t : Tr) (cur : Nat) (l ms : List Nm) : Option (D × Tr × Nat × List Nm) :=
  if marksOK t ms = true then (match resD P e (t.ups (goneUp ms)) fn.results.toList with
    | some d => forceD d fun d => some (d, t.ups (goneUp ms), cur, ms ++ l)
    | none => none) else none

def callX (P : Program) (FT : FuncId → Option Func) (XT : CallT) (tb : Nat → Option (List D)) : Nat → CallT
  | 0, _, _, _, _ => none
  | n + 1, tg, ds, t, cur => match XT tg ds t cur with
    | some r => some r
    | none => (match tg with
      | .fn f => (match FT f with
        | some fn => (match fn.body with
          | some c => (match execC P (callX P FT XT tb n) tb false LF c (entryEnv ds fn.ntmps) t cur [] [] with
            | some (.normal, e, t', c', l, ms) => endFn P fn e t' c' l ms
            | some (.ret, e, t', c', l, ms) => endFn P fn e t' c' l ms
            | _ => none)
          | none => none)
        | none => none)
      | .yld o => (match t.get o with
        | some (.loop env ps assign body .ready none) => if (ps.size == ds.length && codeOK assign && codeOK body && Nat.blt (o + 1) (2 ^ 64)) = true then
            (match execC P (callX P FT XT tb n) tb true LF assign (setParams env ps.toList ds) t cur [] [] with
            | some (.normal, e1, t1, c1, l1, []) => (match t1.get o with
              | some (.loop env' ps' as' b' .ready pd) => (match execC P (callX P FT XT tb n) tb true LF body e1 (t1.ups [(o, some (.loop env' ps' as' b' .busy pd))]) c1 l1 [] with
                | some (ex, e3, t3, c3, l3, []) => (match t3.get o, roundEnd ex with
                  | some (.loop env2 ps2 as2 b2 _ _), some (st, pend, r) => some (.v (.bool r), t3.ups [(o, some (.loop env2 ps2 as2 b2 st pend))], c3, o :: l3)
                  | _, _ => none)
                | _ => none)
              | _ => none)
            | _ => none) else none
        | _ => none))

def FTOK (P : Program) (FT : FuncId → Option Func) : Prop :=
  ∀ f fn, FT f = some fn → P.funcs[f]? = some fn ∧ fn.name ≠ "runtime.NumGoroutine" ∧ ∀ c, fn.body = some c → codeOK c = true

section
variable {P : Program} {tb : Nat → Option (List D)} {ms : List Nm} {B : Base} {w1 w : World} {g1 g : G} {env : Env} {t : Tr} {free : Nm → Prop} {a : Act}

/-- One result, as the machine reads it. -/
def resS (tmps : Array Value) (r : ResultVar) : Sem Value := match r with
  | .tmp t => pure (tmps.getD t undef)
  | .cell x t => do loadVar t (← asAddr (tmps.getD x undef))

theorem results_eq (fn : Func) (tmps : Array Value) : results fn tmps = (do let vs ← fn.results.mapM (resS tmps); pure (if h : vs.size = 1 then vs[0] else .tuple vs)) := by
  unfold results
  congr 1

theorem resOne_sound (hA : Hat tb B g1 w1 ms env t.get free a w g) {r : ResultVar} {d : D} (h : resOne P env t r = some d) :
    ∃ v, (resS a.tmps r).run P w = .ok v w ∧ Rel g w d v := by
  have ev : ∀ k d, env.getD k none = some d → Rel g w d (a.tmps.getD k undef) := fun k d hk => by
    have := evE_rel hA.sim hA.mem.tab (.tmp k) d hk
    exact this
  cases r with
  | tmp k =>
    simp only [resOne] at h
    exact ⟨_, rfl, ev k d h⟩
  | cell k ty =>
    simp only [resOne] at h
    split at h
    · rename_i n off hk
      split at h
      · rename_i cs hcs
        have hX := ev _ _ hk
        simp only [Rel] at hX
        obtain ⟨b, q, h1, h2⟩ := hX
        obtain ⟨b', m, T, pre, vs, post, e1, e2, e3, e4, _, _⟩ := hA.mem.objs n _ hcs
        rw [e1] at h1
        cases h1
        obtain ⟨u, hu, hr⟩ := run_load_cells (P := P) (b := b) (o := q) h (fun i y hy => by
          have := cell_seg (off := 0) (n := vs.length) e2 (j := i) (v := y) (by simpa using hy)
          simpa [e3] using this) e4
        refine ⟨u, ?_, hr⟩
        simp only [Instr.loadAt, Instr.sureAddr, Sem.run_bind, Sem.run_pure, Result.andThen_ok] at hu
        simp only [resS, h2, asAddr, Sem.run_bind, Sem.run_pure, Result.andThen_ok]
        exact hu
      · cases h
    · cases h

theorem resL_sound (hA : Hat tb B g1 w1 ms env t.get free a w g) : ∀ {rs : List ResultVar} {ds : List D}, resL P env t rs = some ds →
    ∃ vs, (rs.mapM (resS a.tmps)).run P w = .ok vs w ∧ RelL g w ds vs
  | [], ds, h => by
    simp only [resL] at h
    cases h
    exact ⟨[], by simp, by simp [RelL]⟩
  | r :: rs, ds, h => by
    simp only [resL] at h
    split at h
    · rename_i d ds' h1 h2
      cases h
      obtain ⟨v, q1, q2⟩ := resOne_sound hA h1
      obtain ⟨vs, q3, q4⟩ := resL_sound hA h2
      refine ⟨v :: vs, ?_, by simp only [RelL]; exact ⟨v, vs, rfl, q2, q4⟩⟩
      simp only [List.mapM_cons, Sem.run_bind]
      rw [q1]
      simp only [Result.andThen_ok]
      rw [q3]
      simp
    · cases h

theorem resD_sound (hA : Hat tb B g1 w1 ms env t.get free a w g) {fn : Func} {d : D} (h : resD P env t fn.results.toList = some d) :
    ∃ v, (results fn a.tmps).run P w = .ok v w ∧ Rel g w d v := by
  unfold resD at h
  have run : ∀ {ds : List D} {vs : List Value}, (fn.results.toList.mapM (resS a.tmps)).run P w = .ok vs w →
      (results fn a.tmps).run P w = .ok (if h : vs.toArray.size = 1 then vs.toArray[0] else .tuple vs.toArray) w := by
    intro ds vs hr
    rw [results_eq, Array.mapM_eq_mapM_toList]
    simp only [Sem.run_bind, map_eq_pure_bind, hr, Result.andThen_ok, Sem.run_pure]
  split at h
  · rename_i d' hl
    cases h
    obtain ⟨vs, h1, h2⟩ := resL_sound hA hl
    simp only [RelL] at h2
    obtain ⟨v, vs', rfl, h3, rfl⟩ := h2
    exact ⟨v, by rw [run (ds := [d]) h1]; simp, h3⟩
  · rename_i ds hne hl
    cases h
    obtain ⟨vs, h1, h2⟩ := resL_sound hA hl
    have hlen := h2.length
    have : ¬ (vs.toArray.size = 1) := by
      intro h1
      rw [List.size_toArray, hlen] at h1
      obtain ⟨d, hd⟩ := List.length_eq_one_iff.1 h1
      exact hne d hd
    exact ⟨.tuple vs.toArray, by rw [run (ds := ds) h1]; rw [dif_neg this], by simp only [Rel]; exact ⟨vs, rfl, h2⟩⟩
  · cases h

theorem getD_entry {args : List Value} {n t : Nat} {v : Value} (h : args[t]? = some v) : (args.toArray ++ Array.replicate (n - args.toArray.size) undef).getD t undef = v := by
  have hlt := (List.getElem?_eq_some_iff.1 h).1
  rw [Array.getD_eq_getD_getElem?, Array.getElem?_append_left (by simpa using hlt)]
  simp [h]

theorem entry_sim {ds : List D} {args : List Value} (h : RelL g w ds args) (n : Nat) : SimE g w { tmps := args.toArray ++ Array.replicate (n - args.toArray.size) undef, defers := [] } (entryEnv ds n) := by
  intro t d ht
  have hl := h.length
  unfold entryEnv at ht
  by_cases hlt : t < ds.length
  · rw [List.getElem?_append_left (by simpa using hlt), List.getElem?_map] at ht
    cases hd : ds[t]? with
    | none => rw [hd] at ht; cases ht
    | some d' =>
      rw [hd] at ht
      cases ht
      obtain ⟨v, h1, h2⟩ := h.get hd
      refine ⟨?_, by simp; omega⟩
      show Rel g w d ((args.toArray ++ Array.replicate (n - args.toArray.size) undef).getD t undef)
      rw [getD_entry h1]; exact h2
  · rw [List.getElem?_append_right (by simpa using hlt), List.getElem?_replicate] at ht
    split at ht <;> simp at ht

theorem entry_len {ds : List D} {args : List Value} (h : RelL g w ds args) (n : Nat) : (entryEnv ds n).length = (args.toArray ++ Array.replicate (n - args.toArray.size) undef).size := by
  have hl := h.length
  simp [entryEnv, hl]

theorem marksOK_spec {t : Tr} : ∀ {ms : List Nm}, marksOK t ms = true → ∀ m ∈ ms, t.get m = some .dfr ∧ Nat.blt (m + 1) (2 ^ 64) = true
  | [], _, m, hm => by cases hm
  | k :: ms, h, m, hm => by
    simp only [marksOK, Bool.and_eq_true] at h
    rcases List.mem_cons.1 hm with rfl | hm
    · split at h
      · rename_i hg
        simp only [Bool.and_eq_true] at h
        exact ⟨hg, h.1.1⟩
      · simp at h
    · exact marksOK_spec h.2 m hm

/-- The marks are taken off one by one. -/
theorem leave_marks {fn : Func} {tmps : Array Value} {R : Ending → World → Prop} {free : Nm → Prop} : ∀ {ms : List Nm} {ds : List Deferred} {hp : Hp} {w : World} {g : G}, (∀ m ∈ ms, hp m = some .dfr) → ms.Nodup → Marks g ms ds → HeapR tb B hp free w g →
    (∀ w', HeapR tb B (hide ms hp) free w' g → Ext g w g w' → ∃ v, (results fn tmps).run P w' = .ok v w' ∧ R (.returned v) w') → LeavesInM (fenceOf none) 0 P fn tmps R ds .returning w
  | [], ds, hp, w, g, _, _, hM, hH, hR => by
    simp only [Marks] at hM
    subst hM
    have : hide [] hp = hp := by funext n; simp [hide]
    rw [this] at hR
    exact hR w hH (Ext.refl g w)
  | m :: ms, ds, hp, w, g, hd, hnd, hM, hH, hR => by
    obtain ⟨d, ds', r, rfl, h1, h2, h3⟩ := hM
    obtain ⟨r', q1, q2, q3, q4⟩ := hH.objs m _ (hd m (by simp))
    rw [h2] at q1
    cases q1
    have hnd' := List.nodup_cons.1 hnd
    have ht := turned_setW (o' := .deferred none) q2 (by intro c t f e; cases e)
    have he := ht.ext (g := g) q3
    have hH' : HeapR tb B (hide [m] hp) free (setW w r (.deferred none)) g := by
      refine ⟨ht.os.trans hH.os, ht.tape.trans hH.tape, ht.output.trans hH.output, by rw [ht.size]; exact hH.size, fun b' hb' => ?_, fun b' hb' => hH.tight b' (by rw [ht.size] at hb'; exact hb'), hH.free, hH.tab.ext he, fun n o ho => ?_, fun n k hne a1 a2 => ?_⟩
      · obtain ⟨k1, k2, k3⟩ := hH.kept b' hb'
        exact ⟨k1, (ht.block b' (fun e => q4 (e ▸ hb'))).trans k2, k3⟩
      · simp only [hide, List.mem_singleton] at ho
        split at ho
        · cases ho
        · rename_i hne
          have h5 := hH.objs n o ho
          refine h5.keep he fun c hc => ⟨ht.block c ?_, rfl⟩
          intro e
          subst e
          exact hH.sep n m hne (by rw [ho]; simp) (by rw [hd m (by simp)]; simp) _ hc (by simp [blk, h2, blkV])
      · simp only [hide, List.mem_singleton] at a1 a2
        split at a1
        · exact absurd rfl a1
        · split at a2
          · exact absurd rfl a2
          · exact hH.sep n k hne a1 a2
    refine ⟨by simp, .inl ⟨r, setW w r (.deferred none), h1, run_takeDeferred q2, ?_⟩⟩
    refine leave_marks (hp := hide [m] hp) (fun k hk => ?_) hnd'.2 (h3.ext he) hH' fun w' hw' hE => ?_
    · have : k ≠ m := fun e => hnd'.1 (e ▸ hk)
      simp only [hide, List.mem_singleton, this, if_false]
      exact hd k (by simp [hk])
    · refine hR w' ?_ (he.trans hE)
      have : hide ms (hide [m] hp) = hide (m :: ms) hp := by
        funext n
        simp only [hide, List.mem_cons, List.mem_singleton, List.not_mem_nil, or_false]
        by_cases e1 : n ∈ ms <;> by_cases e2 : n = m <;> simp [e1, e2]
      rw [← this]; exact hw'

theorem marks_nodup {t : Tr} : ∀ {ms : List Nm}, marksOK t ms = true → ms.Nodup
  | [], _ => List.nodup_nil
  | k :: ms, h => by
    simp only [marksOK, Bool.and_eq_true] at h
    refine List.nodup_cons.2 ⟨?_, marks_nodup h.2⟩
    split at h
    · simp only [Bool.and_eq_true, Bool.not_eq_true'] at h
      intro hm
      have := h.1.2
      simp at this
      exact this hm
    · simp at h

theorem gone_hide {t : Tr} {ms : List Nm} (h : marksOK t ms = true) : (t.ups (goneUp ms)).get = hide ms t.get := by
  rw [Tr.get_ups _ _ (small_gone fun n hn => (marksOK_spec h n hn).2)]
  funext n
  simp only [Hp.app, gone_pt, hide]
  by_cases hn : n ∈ ms <;> simp [hn]

theorem ends_result {fn : Func} {low : Nm → Prop} {ex : Ex} (hex : ex = .normal ∨ ex = .ret) {env' : Env} {t' : Tr} {cur' : Nat} {ms' : List Nm} {d : D} (hmk : marksOK t' ms' = true) (hd : resD P env' (t'.ups (goneUp ms')) fn.results.toList = some d) {R : Ending → World → Prop}
    (hR : ∀ v w' g', HeapR tb B (t'.ups (goneUp ms')).get (from_ low cur') w' g' → Ext g1 w1 g' w' → Rel g' w' d v → R (.returned v) w') :
    ∀ e a w, Ends tb low B w1 g1 ex env' t' cur' ms' e a w → bodyPostM (fenceOf none) 0 P fn R e a w := by
  rintro e a w ⟨he, g, hA⟩
  have key : LeavesInM (fenceOf none) 0 P fn a.tmps R a.defers .returning w := by
    refine leave_marks (fun m hm => (marksOK_spec hmk m hm).1) (marks_nodup hmk) hA.dfs hA.mem fun w' hw' hE => ?_
    rw [← gone_hide hmk] at hw'
    have hA' : Hat tb B g1 w1 [] env' (t'.ups (goneUp ms')).get (from_ low cur') { a with defers := [] } w' g := ⟨hw', hA.ext.trans hE, hA.sim.ext hE, hA.len, rfl⟩
    obtain ⟨v, h1, h2⟩ := resD_sound hA' (fn := fn) hd
    exact ⟨v, h1, hR v w' g hw' hA'.ext h2⟩
  rcases hex with rfl | rfl
  · cases e <;> simp only [Ex.is] at he
    exact key
  · cases e <;> simp only [Ex.is] at he
    exact key

theorem setParams_sim : ∀ {ps : List Tmp} {ds : List D} {args : List Value} {env : Env} {tmps : Array Value}, SimE g w ⟨tmps, []⟩ env → env.length = tmps.size → RelL g w ds args → ps.length = ds.length →
    SimE g w ⟨(ps.zip args).foldl (fun tmps (p : Tmp × Value) => tmps.setIfInBounds p.1 p.2) tmps, []⟩ (setParams env ps ds) ∧ (setParams env ps ds).length = ((ps.zip args).foldl (fun tmps (p : Tmp × Value) => tmps.setIfInBounds p.1 p.2) tmps).size
  | [], ds, args, env, tmps, h1, h2, h3, h4 => by simp [setParams]; exact ⟨h1, h2⟩
  | p :: ps, [], args, env, tmps, h1, h2, h3, h4 => by simp at h4
  | p :: ps, d :: ds, args, env, tmps, h1, h2, h3, h4 => by
    simp only [RelL] at h3
    obtain ⟨x, xs, rfl, r1, r2⟩ := h3
    have := SimE.put h1 r1 h2 (some p)
    simp only [putE, Act.put] at this
    simp only [setParams, List.zip_cons_cons, List.foldl_cons]
    exact setParams_sim this (by simpa using h2) r2 (by simpa using h4)

/-- A write into a loop's record. -/
theorem HeapR.loopSet {hp : Hp} {free : Nm → Prop} (h : HeapR tb B hp free w g) {o : Nm} {env' : Env} {ps : Array Tmp} {as b : Code} {st st' : LoopState} {pd pd' : Option Code} (ho : hp o = some (.loop env' ps as b st pd)) {l : Nat} (hv : g.val o = some (.pointer (some ⟨l, 0, none⟩))) :
    ∃ (r : Loop), w.heap[l]? = some (.loop r) ∧ r.state = st ∧ r.pending = pd ∧ r.params = ps ∧ r.assign = as ∧ r.body = b ∧ SimE g w ⟨r.tmps, []⟩ env' ∧ env'.length = r.tmps.size ∧
      ∀ {hp' : Hp}, (∀ m, hp' m = if m = o then some (.loop env' ps as b st' pd') else hp m) → HeapR tb B hp' free (w.putObj l (.loop { r with state := st', pending := pd' })) g ∧ Ext g w g (w.putObj l (.loop { r with state := st', pending := pd' })) := by
  obtain ⟨l', fn, tmps, dl, z1, z2, z3, z4, z5⟩ := h.objs o _ ho
  rw [hv] at z1
  cases z1
  refine ⟨_, z2, rfl, rfl, rfl, rfl, rfl, z3.1, z3.2, fun hhp => ?_⟩
  have ht := turned_setW (o' := .loop { state := st', pending := pd', fn := fn, tmps := tmps, params := ps, assign := as, body := b, defers := dl }) z2 (by intro c t f e; cases e)
  have hob : ORel B.kp g (setW w l (.loop { state := st', pending := pd', fn := fn, tmps := tmps, params := ps, assign := as, body := b, defers := dl })) o (.loop env' ps as b st' pd') :=
    ⟨l, fn, tmps, dl, hv, setW_at z2, ⟨z3.1.ext (ht.ext (g := g) z4), z3.2⟩, z4, z5⟩
  exact h.put (n := o) (by rw [ho]; simp) (b := l) (by simp [blk, hv, blkV]) ht hob hhp

theorem zip_toList (ps : Array Tmp) (args : List Value) (tmps : Array Value) :
    (ps.zip args.toArray).foldl (fun tmps (x : Tmp × Value) => match x with | (t, a) => tmps.setIfInBounds t a) tmps = (ps.toList.zip args).foldl (fun tmps (p : Tmp × Value) => tmps.setIfInBounds p.1 p.2) tmps := by
  rw [← Array.foldl_toList]
  congr 1
  simp

theorem round_sound (hm : P.follows .mixedOrders = true) {CT : CallT} (ih : CTOK P tb CT) {o : Nm} {ds : List D} {t t' : Tr} {cur cur' : Nat} {d : D} {wl : List Nm}
    (h : (match t.get o with
        | some (.loop env ps assign body .ready none) => if (ps.size == ds.length && codeOK assign && codeOK body && Nat.blt (o + 1) (2 ^ 64)) = true then
            (match execC P CT tb true LF assign (setParams env ps.toList ds) t cur [] [] with
            | some (.normal, e1, t1, c1, l1, []) => (match t1.get o with
              | some (.loop env' ps' as' b' .ready pd) => (match execC P CT tb true LF body e1 (t1.ups [(o, some (.loop env' ps' as' b' .busy pd))]) c1 l1 [] with
                | some (ex, e3, t3, c3, l3, []) => (match t3.get o, roundEnd ex with
                  | some (.loop env2 ps2 as2 b2 _ _), some (st, pend, r) => some (.v (.bool r), t3.ups [(o, some (.loop env2 ps2 as2 b2 st pend))], c3, o :: l3)
                  | _, _ => none)
                | _ => none)
              | _ => none)
            | _ => none) else none
        | _ => none) = some (d, t', cur', wl)) : CallOK P tb (.yld o) ds t.get cur d (ptOf wl t') cur' ∧ ∀ n, n ∉ wl → t'.get n = t.get n := by
  split at h
  case h_2 => cases h
  rename_i env ps assign body hL
  split at h
  case isFalse => cases h
  rename_i hcond
  simp only [Bool.and_eq_true, beq_iff_eq] at hcond
  obtain ⟨⟨⟨hps, hok1⟩, hok2⟩, hsm⟩ := hcond
  split at h
  case h_2 => cases h
  rename_i e1 t1 c1 l1 hA1
  split at h
  case h_2 => cases h
  rename_i env1 ps1 as1 b1 pd1 hL1
  split at h
  case h_2 => cases h
  rename_i ex e3 t3 c3 l3 hA2
  split at h
  case h_2 => cases h
  rename_i env2 ps2 as2 b2 st0 pd0 st pend r hL3 hre
  cases h
  have hsm1 : ∀ ob, smallUp [(o, ob)] = true := fun ob => by simp only [smallUp, Bool.and_true]; exact hsm
  have hg1 : ∀ (t : Tr) ob, (t.ups [(o, ob)]).get = fun n => if n = o then ob else t.get n := fun t ob => by
    rw [Tr.get_ups _ _ (hsm1 ob)]
    funext n
    rw [app_one]
  have base1 : ∀ (rn : Option Nat) (low : Nm → Prop) (B : Base) (w1 : World) (g1 : G), (∀ m, low m → m < cur * KB) → _ := fun rn low B w1 g1 hlow => exec_sound (low := low) (B := B) (w1 := w1) (g1 := g1) (rn := rn) hm ih (inR := true) (fun h => by cases h) LF assign _ _ _ _ _ _ _ _ _ _ _ hA1 hok1 hlow
  obtain ⟨_, a2, a3, _⟩ := base1 none (fun _ => False) ⟨default, fun _ => False, fun _ => 0⟩ default ⟨fun _ => 0, fun _ => none⟩ (fun _ h => h.elim)
  have base2 : ∀ (rn : Option Nat) (low : Nm → Prop) (B : Base) (w1 : World) (g1 : G), (∀ m, low m → m < c1 * KB) → _ := fun rn low B w1 g1 hlow => exec_sound (low := low) (B := B) (w1 := w1) (g1 := g1) (rn := rn) hm ih (inR := true) (fun h => by cases h) LF body _ _ _ _ _ _ _ _ _ _ _ hA2 hok2 hlow
  obtain ⟨b1', b2', b3, _⟩ := base2 none (fun _ => False) ⟨default, fun _ => False, fun _ => 0⟩ default ⟨fun _ => 0, fun _ => none⟩ (fun _ h => h.elim)
  have hlog : ∀ n, n ∉ o :: l3 → (t3.ups [(o, some (.loop env2 ps2 as2 b2 st pend))]).get n = t.get n := fun n hn => by
    simp only [List.mem_cons, not_or] at hn
    rw [hg1]
    simp only [hn.1, if_false]
    rw [b2' n hn.2, hg1]
    simp only [hn.1, if_false]
    exact a2 n fun hl => hn.2 (b1' n hl)
  refine ⟨⟨Nat.le_trans a3 b3, trivial, ?_⟩, hlog⟩
  intro B free w g args hM hfree hargs
  obtain ⟨l, fn, tmps, dl, z1, z2, z3, z4, z5⟩ := hM.objs o _ hL
  have hsz : args.toArray.size = ps.size := by rw [List.size_toArray, hargs.length, hps]
  refine ⟨l, fn, _, assign, body, z1, run_yield z2 hsz, roundIn_of_wpIn (F := Fence.wide) (n := 0) trivial ?_⟩
  have hlow : ∀ m, (fun m => free m ∧ m < cur * KB) m → m < cur * KB := fun m hm => hm.2
  have hlow1 : ∀ m, (fun m => free m ∧ m < cur * KB) m → m < c1 * KB := fun m hm => Nat.lt_of_lt_of_le hm.2 (Nat.mul_le_mul_right _ a3)
  obtain ⟨_, _, _, a4⟩ := base1 (some l) (fun m => free m ∧ m < cur * KB) B w g hlow
  obtain ⟨_, _, _, b4⟩ := base2 (some l) (fun m => free m ∧ m < cur * KB) B w g hlow1
  obtain ⟨s1, s2⟩ := setParams_sim (ps := ps.toList) z3.1 z3.2 hargs (by simpa using hps)
  rw [← zip_toList] at s1 s2
  have hH0 : Hat tb B g w [] (setParams env ps.toList ds) t.get (from_ (fun m => free m ∧ m < cur * KB) cur) { tmps := (ps.zip args.toArray).foldl (fun tmps (x : Tmp × Value) => match x with | (t, a) => tmps.setIfInBounds t a) tmps, defers := [] } w g :=
    ⟨hM.weaken fun m hm => hm.elim (hfree m) (·.1), Ext.refl g w, s1, s2, rfl⟩
  refine wpIn_mono (a4 _ w g hH0).wp ?_
  rintro e a' w' ⟨he, g', hH1⟩
  cases e <;> simp only [Ex.is] at he
  have hv1 : g'.val o = some (.pointer (some ⟨l, 0, none⟩)) := hH1.ext.val _ _ z1
  obtain ⟨r1, q1, q2, q3, q4, q5, q6, q7, q8, q9⟩ := hH1.mem.loopSet (st' := .busy) (pd' := pd1) hL1 hv1
  obtain ⟨m1, m2⟩ := q9 (hp' := (t1.ups [(o, some (.loop env1 ps1 as1 b1 .busy pd1))]).get) (fun m => by rw [hg1])
  have hbr := run_beginRound (P := P) q1 q2
  have e0 : ({ r1 with state := LoopState.busy, pending := pd1 } : Loop) = { r1 with state := .busy } := by rw [← q3]
  rw [e0] at m1 m2
  refine ⟨_, hbr, ?_⟩
  have hH2 : Hat tb B g w [] e1 (t1.ups [(o, some (.loop env1 ps1 as1 b1 .busy pd1))]).get (from_ (fun m => free m ∧ m < cur * KB) c1) a' (w'.putObj l (.loop { r1 with state := .busy })) g' :=
    ⟨m1, hH1.ext.trans m2, hH1.sim.ext m2, hH1.len, hH1.dfs⟩
  refine wpIn_mono (b4 _ _ _ hH2).wp ?_
  rintro e a2 w2 ⟨he2, g2, hH3⟩
  have hv2 : g2.val o = some (.pointer (some ⟨l, 0, none⟩)) := hH3.ext.val _ _ z1
  obtain ⟨r2, p1, p2, p3, p4, p5, p6, p7, p8, p9⟩ := hH3.mem.loopSet (st' := st) (pd' := pend) hL3 hv2
  obtain ⟨n1, n2⟩ := p9 (hp' := (t3.ups [(o, some (.loop env2 ps2 as2 b2 st pend))]).get) (fun m => by rw [hg1])
  have fin : ∃ (v : D) , True → True := ⟨.v (.bool r), fun h => h⟩
  have happ : Hp.app t.get (ptOf (o :: l3) (t3.ups [(o, some (.loop env2 ps2 as2 b2 st pend))])) = (t3.ups [(o, some (.loop env2 ps2 as2 b2 st pend))]).get := by
    funext m
    simp only [Hp.app, ptOf]
    by_cases hm : m ∈ o :: l3
    · simp only [hm, if_true, Option.getD_some]
    · simp only [hm, if_false, Option.getD_none]; exact (hlog m hm).symm
  have hfin : ∃ v g', Ending.returned (.bool r) = .returned v ∧ HeapR tb B (Hp.app t.get (ptOf (o :: l3) (t3.ups [(o, some (.loop env2 ps2 as2 b2 st pend))]))) (fun m => free m ∧ (m < cur * KB ∨ cur' * KB ≤ m)) (w2.putObj l (.loop { r2 with state := st, pending := pend })) g' ∧ Ext g w g' (w2.putObj l (.loop { r2 with state := st, pending := pend })) ∧ Rel g' (w2.putObj l (.loop { r2 with state := st, pending := pend })) (.v (.bool r)) v := by
    refine ⟨_, g2, rfl, ?_, hH3.ext.trans n2, rel_v_mk rfl⟩
    rw [happ]
    refine n1.weaken ?_
    rintro m ⟨m1, m2⟩
    rcases m2 with m2 | m2
    · exact .inr ⟨m1, m2⟩
    · exact .inl m2
  have hend : ∀ jump : Option Code, (if jump.isNone then LoopState.ready else .done) = st → jump = pend → jump.isNone = r → ∃ v w', (Instr.endRound l jump).run P w2 = .ok v w' ∧ (∃ v' g', Ending.returned v = .returned v' ∧ HeapR tb B (Hp.app t.get (ptOf (o :: l3) (t3.ups [(o, some (.loop env2 ps2 as2 b2 st pend))]))) (fun m => free m ∧ (m < cur * KB ∨ cur' * KB ≤ m)) w' g' ∧ Ext g w g' w' ∧ Rel g' w' (.v (.bool r)) v') := by
    intro jump h1 h2 h3
    have := run_endRound (P := P) jump p1
    rw [h1, h2] at this
    refine ⟨_, _, by rw [h2]; exact this, ?_⟩
    rw [← h2, h3, h2]
    exact hfin
  cases ex with
  | normal =>
    simp only [roundEnd, Option.some.injEq, Prod.mk.injEq] at hre
    obtain ⟨rfl, rfl, rfl⟩ := hre
    cases e <;> simp only [Ex.is] at he2
    exact hend none rfl rfl rfl
  | exit id =>
    simp only [roundEnd, Option.some.injEq, Prod.mk.injEq] at hre
    obtain ⟨rfl, rfl, rfl⟩ := hre
    cases e <;> simp only [Ex.is] at he2
    subst he2
    exact hend (some (.exit id)) rfl rfl rfl
  | ret =>
    simp only [roundEnd, Option.some.injEq, Prod.mk.injEq] at hre
    obtain ⟨rfl, rfl, rfl⟩ := hre
    cases e <;> simp only [Ex.is] at he2
    exact hend (some .ret) rfl rfl rfl

theorem callX_sound (hm : P.follows .mixedOrders = true) {FT : FuncId → Option Func} (hFT : FTOK P FT) {XT : CallT} (hXT : CTOK P tb XT) : ∀ n, CTOK P tb (callX P FT XT tb n)
  | 0 => fun f ds t cur d t' cur' wl h => by simp [callX] at h
  | n + 1 => fun tg ds t cur d t' cur' wl h => by
    have ih := callX_sound hm hFT hXT n
    simp only [callX] at h
    split at h
    · rename_i r hx
      cases h
      exact hXT _ _ _ _ _ _ _ _ hx
    · cases tg with
      | fn f =>
        simp only at h
        split at h
        · rename_i fn hfn
          obtain ⟨h1, h2, h3⟩ := hFT f fn hfn
          split at h
          · rename_i c hc
            have key : ∀ {ex : Ex} {e : Env} {t2 : Tr} {c2 : Nat} {l ms : List Nm}, (ex = .normal ∨ ex = .ret) → execC P (callX P FT XT tb n) tb false LF c (entryEnv ds fn.ntmps) t cur [] [] = some (ex, e, t2, c2, l, ms) → endFn P fn e t2 c2 l ms = some (d, t', cur', wl) →
                CallOK P tb (.fn f) ds t.get cur d (ptOf wl t') cur' ∧ ∀ n, n ∉ wl → t'.get n = t.get n := by
              intro ex e t2 c2 l ms hex hrun hend
              unfold endFn at hend
              split at hend
              case isFalse => cases hend
              rename_i hmk
              split at hend
              case h_2 => cases hend
              rename_i d' hd
              rw [forceD_eq] at hend
              cases hend
              have base : ∀ (low : Nm → Prop) (B : Base) (w1 : World) (g1 : G), (∀ m, low m → m < cur * KB) → _ := fun low B w1 g1 hlow => exec_sound (low := low) (B := B) (w1 := w1) (g1 := g1) (rn := none) hm ih (fun _ => rfl) LF c _ _ _ _ _ _ _ _ _ _ _ hrun (h3 c hc) hlow
              obtain ⟨_, b2, b3, _⟩ := base (fun _ => False) ⟨default, fun _ => False, fun _ => 0⟩ default ⟨fun _ => 0, fun _ => none⟩ (fun _ h => h.elim)
              have hgone := gone_hide hmk
              have b2' : ∀ n, n ∉ ms ++ l → (t2.ups (goneUp ms)).get n = t.get n := fun n hn => by
                simp only [List.mem_append, not_or] at hn
                rw [hgone]
                simp only [hide, hn.1, if_false]
                exact b2 n hn.2
              refine ⟨⟨b3, ⟨fn, h1, h2, by rw [hc]; simp⟩, ?_⟩, b2'⟩
              intro B free w g args hM hfree hargs
              obtain ⟨_, _, _, b4⟩ := base (fun m => free m ∧ m < cur * KB) B w g (fun m hm => hm.2)
              have hA : Hat tb B g w [] (entryEnv ds fn.ntmps) t.get (from_ (fun m => free m ∧ m < cur * KB) cur) { tmps := args.toArray ++ Array.replicate (fn.ntmps - args.toArray.size) undef, defers := [] } w g :=
                ⟨hM.weaken fun m hm => hm.elim (hfree m) (·.1), Ext.refl g w, entry_sim hargs _, entry_len hargs _, rfl⟩
              refine callsIn_of_wp_marks h1 hc trivial (wpIn_mono (b4 _ w g hA).wp (ends_result (fn := fn) hex hmk hd ?_))
              intro v w' g' q1 q2 q3
              refine ⟨v, g', rfl, ?_, q2, q3⟩
              have happ : Hp.app t.get (ptOf (ms ++ l) (t2.ups (goneUp ms))) = (t2.ups (goneUp ms)).get := by
                funext m
                simp only [Hp.app, ptOf]
                by_cases hm : m ∈ ms ++ l
                · simp only [hm, if_true, Option.getD_some]
                · simp only [hm, if_false, Option.getD_none]; exact (b2' m hm).symm
              rw [happ]
              refine q1.weaken ?_
              rintro m ⟨m1, m2⟩
              rcases m2 with m2 | m2
              · exact .inr ⟨m1, m2⟩
              · exact .inl m2
            split at h
            · rename_i e t2 c2 l ms hrun
              exact key (.inl rfl) hrun h
            · rename_i e t2 c2 l ms hrun
              exact key (.inr rfl) hrun h
            · cases h
          · cases h
        · cases h
      | yld o => exact round_sound hm ih h

end
end Go.Ab
