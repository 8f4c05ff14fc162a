/-
  Regions over plain data: one run in the order of the text serves every order.
-/
import Derived.Test.YtahhpefgeeofhaaGreatDoorZdPure2
import Derived.Still
set_option linter.unusedSimpArgs false
set_option linter.unusedVariables false
namespace Go.Ab

abbrev Env := List (Option D)

def evE (tb : Nat → Option (List D)) (env : Env) : Operand → Option D
  | .tmp t => env.getD t none
  | .const v => D.ofV v
  | .global i => (tb i).map fun cs => .elem cs 0
  | .func f => some (.func (.func f) [] [])

def putE (env : Env) (dst : Option Tmp) (d : D) : Env :=
  match dst with
  | some t => env.set t (some d)
  | none => env

/-- Tables that never change. -/
def Tab (tb : Nat → Option (List D)) (g : G) (w : World) : Prop := ∀ i cs, tb i = some cs → Rel g w (.elem cs 0) (.pointer (some ⟨i, 0, none⟩))

theorem Tab.ext {tb : Nat → Option (List D)} {g g' : G} {w w' : World} (h : Tab tb g w) (e : Ext g w g' w') : Tab tb g' w' := fun i cs hi => Rel.ext e _ _ (h i cs hi)

/-- A frame's temporaries hold what the environment says. -/
def SimE (g : G) (w : World) (a : Act) (env : Env) : Prop := ∀ (t : Nat) (d : D), env[t]? = some (some d) → Rel g w d (a.tmps.getD t undef) ∧ t < a.tmps.size

theorem SimE.ext {g g' : G} {w w' : World} {a : Act} {env : Env} (h : SimE g w a env) (e : Ext g w g' w') : SimE g' w' a env := fun t d ht => ⟨Rel.ext e _ _ (h t d ht).1, (h t d ht).2⟩

theorem SimE.put {g : G} {w : World} {a : Act} {env : Env} {d : D} {v : Value} (h : SimE g w a env) (hr : Rel g w d v) (hl : env.length = a.tmps.size) (dst : Option Tmp) : SimE g w (a.put dst v) (putE env dst d) := by
  cases dst with
  | none => exact h
  | some t =>
    intro u d' hu
    simp only [putE, Act.put] at hu ⊢
    rw [List.getElem?_set] at hu
    by_cases htu : t = u
    · subst htu
      simp only [if_true] at hu
      split at hu
      · rename_i hlt
        cases hu
        have hs : t < a.tmps.size := hl ▸ hlt
        refine ⟨?_, by rw [Array.size_setIfInBounds]; exact hs⟩
        simp [Array.getElem?_setIfInBounds, hs]
        exact hr
      · cases hu
    · simp only [htu, if_false] at hu
      obtain ⟨h1, h2⟩ := h u d' hu
      refine ⟨?_, by rw [Array.size_setIfInBounds]; exact h2⟩
      have : (a.tmps.setIfInBounds t v).getD u undef = a.tmps.getD u undef := by
        simp [Array.getElem?_setIfInBounds_ne htu]
      rw [this]
      exact h1

theorem evE_rel {tb : Nat → Option (List D)} {g : G} {w : World} {a : Act} {env : Env} (h : SimE g w a env) (ht : Tab tb g w) : ∀ x d, evE tb env x = some d → Rel g w d (a.eval x) := by
  intro x d hx
  cases x with
  | tmp t =>
    simp only [evE] at hx
    have : env[t]? = some (some d) := by
      rw [List.getD_eq_getElem?_getD] at hx
      cases he : env[t]? with
      | none => simp [he] at hx
      | some y => simp [he] at hx; rw [hx]
    exact (h t d this).1
  | const v => exact rel_ofV hx
  | global i =>
    simp only [evE, Option.map_eq_some_iff] at hx
    obtain ⟨cs, hcs, rfl⟩ := hx
    exact ht i cs hcs
  | func f =>
    simp only [evE] at hx
    cases hx
    simp only [Act.eval, Rel]
    exact ⟨[], [], rfl, by simp [RelL], by simp [RelL]⟩

/-- What a function comes to on plain data: it hands back d, and lets all stand that was there. -/
def PCalls (P : Program) (tb : Nat → Option (List D)) (f : FuncId) (ds : List D) (d : D) : Prop :=
  (∃ fn, P.funcs[f]? = some fn ∧ fn.name ≠ "runtime.NumGoroutine" ∧ fn.body ≠ none) ∧ ∀ (g : G) (w : World) (args : List Value), (∀ n, g.val n = none) → Tight g w → Tab tb g w → RelL g w ds args →
    Calls P f args.toArray w fun e w' => ∃ v g', e = .returned v ∧ New g w g' w' ∧ Rel g' w' d v

/-- Is each part as wide as an element, and does it stand at its place? -/
def litOK (k : Nat) : Nat → List (Nat × D) → Bool
  | _, [] => true
  | n, (i, d) :: ps => i == n && d.cells.length == k && litOK k (n + 1) ps

/-- What an operation yields that may make new memory: a literal, a text's bytes, a call. -/
def opA (P : Program) (CT : FuncId → List D → Option D) (ev : Operand → Option D) : Op → Option D
  | .convert src dst x => (match ev x, P.underlying src, P.underlying dst with
      | some (.v (.string s)), some _, some (.slice e) => if isByte P e = true then some (.list 1 (s.data.toList.map byteD)) else none
      | _, _, _ => opP P ev (.convert src dst x))
  | .call c => (match c.callee with
      | .value f => (match ev f, allD ev c.args.toList with
          | some (.func (.func k) first cap), some ds => if D.nf.nfL (first ++ ds ++ cap) = true then CT k (first ++ ds ++ cap) else none
          | _, _ => none)
      | _ => opP P ev (.call c))
  | op => opP P ev op

/-- The guard of an operation, as the environment has it. -/
def wantE (ops : Array Oper) (env : Env) (o : Oper) : Option Bool :=
  match o.guard with
  | none => some true
  | some (j, want) => match (ops[j]?).bind (·.dst) with
    | some t => match env[t]? with
      | some (some (.v (.bool b))) => some (b == want)
      | some (some (.v (.tuple _))) => some false
      | _ => none
    | none => none

def stepE (P : Program) (CT : FuncId → List D → Option D) (tb : Nat → Option (List D)) (ops : Array Oper) (o : Oper) (env : Env) : Option Env :=
  match wantE ops env o with
  | some true => (opA P CT (evE tb env) o.op).map fun d => putE env o.dst d
  | some false => some (putE env o.dst D.undef)
  | none => none

def runE (P : Program) (CT : FuncId → List D → Option D) (tb : Nat → Option (List D)) (ops : Array Oper) : List Oper → Env → Option Env
  | [], env => some env
  | o :: rest, env => (stepE P CT tb ops o env).bind (runE P CT tb ops rest)

section
variable {P : Program} {CT : FuncId → List D → Option D} {tb : Nat → Option (List D)}

theorem putE_length (env : Env) (dst : Option Tmp) (d : D) : (putE env dst d).length = env.length := by cases dst <;> simp [putE]

theorem put_size (a : Act) (dst : Option Tmp) (v : Value) : (a.put dst v).tmps.size = a.tmps.size := by cases dst <;> simp [Act.put]

theorem opA_wp {g : G} {w : World} {a : Act} {o : Oper} {ev : Operand → Option D} {d : D} {next : Act → World → Prop} {Q : Exit → Act → World → Prop}
    (hCT : ∀ f ds d, CT f ds = some d → PCalls P tb f ds d) (ht : Tight g w) (hT : Tab tb g w) (hev : ∀ x d, ev x = some d → Rel g w d (a.eval x)) (h : opA P CT ev o.op = some d)
    (hn : ∀ v g' w', New g w g' w' → Rel g' w' d v → next (a.put o.dst v) w') : o.wp P a w next Q := by
  have plain : opP P ev o.op = some d → o.wp P a w next Q := by
    intro h
    obtain ⟨v, h1, h2⟩ := opP_sound hev h
    unfold Oper.wp
    rw [h1]
    exact hn v g w (New.refl ht) h2
  cases ho : o.op with
  | convert src dst x =>
    rw [ho] at h
    simp only [opA] at h
    split at h
    · rename_i s u e hx hs hd
      split at h
      · rename_i hb
        cases h
        have he : P.underlying e = some (.int .u8) := by
          unfold isByte at hb
          split at hb
          · assumption
          · cases hb
        have hX := rel_v (hev _ _ hx)
        obtain ⟨v, g', w', h1, h2, h3⟩ := run_string_bytes (P := P) (s := s) hs he hd ht
        unfold Oper.wp
        have : (execOp a.eval o).run P w = .ok (.value v) w' := by simp [execOp, ho, hX, h1]
        rw [this]
        exact hn v g' w' h2 h3
      · cases h
    · exact plain (by rw [ho]; exact h)
  | call c =>
    rw [ho] at h
    simp only [opA] at h
    split at h
    · rename_i f hc
      split at h
      · rename_i k first cap ds hf hds
        have hF := hev _ _ hf
        simp only [Rel] at hF
        obtain ⟨xs, ys, hF, r1, r2⟩ := hF
        have r3 := allD_rel hev hds
        split at h
        · rename_i hnf
          obtain ⟨⟨fn, hfn, hname, hbody⟩, hcall⟩ := hCT _ _ _ h
          have hT' : Tab tb g.pl w := fun i cs hi => Rel.plain _ _ rfl (hT i cs hi)
          have hcall := hcall g.pl w (xs ++ c.args.toList.map a.eval ++ ys) (fun _ => rfl) ht hT' (RelL.plain _ _ hnf ((r1.append r3).append r2))
          unfold Oper.wp
          have : (execOp a.eval o).run P w = .ok (.enter k (xs ++ c.args.toList.map a.eval ++ ys).toArray) w := by
            simp [execOp, ho, resolve, hc, hF, Deferred.ofValue, invoke, callFunc, hfn, hname, hbody]
          rw [this, Oper.upon_enter]
          refine hcall.mono ?_
          rintro e w' ⟨v, g', rfl, h1, h2⟩
          have he : Ext g' w' { g' with val := g.val } w' := ⟨fun _ => Nat.le_refl _, fun _ _ _ => rfl, (fun n x hx => by rw [h1.val] at hx; cases hx), fun _ _ h => h⟩
          exact hn v { g' with val := g.val } w' ⟨h1.below, h1.lim, rfl, h1.fresh⟩ (Rel.ext he _ _ h2)
        · cases h
      · cases h
    · exact plain (by rw [ho]; exact h)
  | _ => exact plain (by rw [ho] at h ⊢; exact h)

end
end Go.Ab
