/-
  Regions that draw their order: the run in the order of the text serves.
-/
import Derived.Test.YtahhpefgeeofhaaGreatDoorZdRun
set_option linter.unusedSimpArgs false
set_option linter.unusedVariables false
namespace Go.Ab
section
variable {P : Program} {CT : FuncId → List D → Option D} {tb : Nat → Option (List D)} {ev ev' : Operand → Option D}

theorem allD_congr : ∀ {xs : List Operand}, (∀ x ∈ xs, ev x = ev' x) → allD ev xs = allD ev' xs
  | [], _ => rfl
  | x :: xs, h => by
    simp only [allD]
    rw [h x (by simp), allD_congr (fun y hy => h y (by simp [hy]))]

theorem partsD_congr : ∀ {xs : List (Nat × Operand)}, (∀ x ∈ xs.map (·.2), ev x = ev' x) → partsD ev xs = partsD ev' xs
  | [], _ => rfl
  | (i, x) :: xs, h => by
    simp only [partsD]
    rw [h x (by simp), partsD_congr (fun y hy => h y (by simp only [List.map_cons, List.mem_cons]; exact .inr hy))]

theorem optD_congr {x : Option Operand} (h : ∀ y, x = some y → ev y = ev' y) : optD ev x = optD ev' x := by
  cases x with
  | none => rfl
  | some y => simp only [optD]; rw [h y rfl]

theorem callD_congr {c : Call} (h : ∀ x ∈ c.operands.toList, ev x = ev' x) : callD P ev c = callD P ev' c := by
  have ha : allD ev c.args.toList = allD ev' c.args.toList := allD_congr fun x hx => h x (by simp [Call.operands]; exact .inr (by simpa using hx))
  unfold callD
  rw [ha]

theorem opP_congr {op : Op} (h : ∀ x ∈ op.operands.toList, ev x = ev' x) : opP P ev op = opP P ev' op := by
  cases op <;> simp only [Op.operands] at h <;> simp only [opP] <;> first
    | rfl
    | exact h _ (by simp)
    | exact callD_congr h
    | (rw [h _ (by simp)]; done)
    | (rw [h _ (by simp), h _ (by simp)]; done)
    | (rw [h _ (by simp), h _ (by simp), h _ (by simp)]; done)
    | (rw [partsD_congr (fun x hx => h x (by simpa using hx))]; done)
    | (rw [allD_congr (fun x hx => h x (by simp at hx ⊢; exact .inl hx)), allD_congr (fun x hx => h x (by simp at hx ⊢; exact .inr hx))]; done)
    | (rw [h _ (by simp), optD_congr (fun y hy => h y (by simp [hy])), optD_congr (fun y hy => h y (by simp [hy])), optD_congr (fun y hy => h y (by simp [hy]))]; done)

theorem opA_congr {op : Op} (h : ∀ x ∈ op.operands.toList, ev x = ev' x) : opA P CT ev op = opA P CT ev' op := by
  cases op with
  | convert src dst x =>
    have h1 : ev x = ev' x := h x (by simp [Op.operands])
    simp only [opA, opP, h1]
  | call c =>
    have h' : ∀ x ∈ c.operands.toList, ev x = ev' x := h
    have ha : allD ev c.args.toList = allD ev' c.args.toList := allD_congr fun x hx => h' x (by simp [Call.operands]; exact .inr (by simpa using hx))
    simp only [opA]
    split
    · rename_i f hc
      have hf : ev f = ev' f := h' f (by simp [Call.operands, hc])
      rw [hf, ha]
    · exact opP_congr h
  | _ => simp only [opA]; exact opP_congr (P := P) h

theorem getD_putE_ne {env : Env} {dst : Option Tmp} {d : D} {t : Nat} (h : dst ≠ some t) : (putE env dst d)[t]? = env[t]? := by
  cases dst with
  | none => rfl
  | some u =>
    have : u ≠ t := fun e => h (by rw [e])
    simp [putE, List.getElem?_set_ne this]

theorem evE_put {env : Env} {dst : Option Tmp} {d : D} {x : Operand} (h : ∀ t, dst = some t → x ≠ .tmp t) : evE tb (putE env dst d) x = evE tb env x := by
  cases x with
  | tmp t =>
    have : dst ≠ some t := fun e => h t e rfl
    simp only [evE, List.getD_eq_getElem?_getD, getD_putE_ne this]
  | _ => rfl

theorem tmp_of_looksAt {ops : Array Oper} {o : Oper} {t : Tmp} (h : t ∉ o.looksAt ops) : ∀ x ∈ o.op.operands.toList, x ≠ .tmp t := by
  intro x hx e
  subst e
  apply h
  simp only [Oper.looksAt, List.mem_append, List.mem_filterMap]
  exact .inl ⟨_, hx, rfl⟩

theorem guard_of_looksAt {ops : Array Oper} {o : Oper} {t : Tmp} (h : t ∉ o.looksAt ops) {j : Nat} {b : Bool} (hg : o.guard = some (j, b)) : (ops[j]?).bind (·.dst) ≠ some t := by
  intro e
  apply h
  simp only [Oper.looksAt, List.mem_append, hg]
  exact .inr (by rw [e]; simp)

theorem wantE_put {ops : Array Oper} {o : Oper} {env : Env} {dst : Option Tmp} {d : D} (h : ∀ t, dst = some t → t ∉ o.looksAt ops) : wantE ops (putE env dst d) o = wantE ops env o := by
  unfold wantE
  split
  · rfl
  · rename_i j want hg
    split
    · rename_i t ht
      have : dst ≠ some t := fun e => guard_of_looksAt (h t e) hg ht
      rw [getD_putE_ne this]
    · rfl

theorem putE_comm {env : Env} {x y : Option Tmp} {d e : D} (h : ∀ t, x = some t → y ≠ some t) : putE (putE env x d) y e = putE (putE env y e) x d := by
  cases x with
  | none => rfl
  | some t => cases y with
    | none => rfl
    | some u =>
      have : t ≠ u := fun e => h t rfl (by rw [e])
      simp only [putE]
      exact List.set_comm _ _ this

/-- What the step yields: the value, and that it was put. -/
def valE (P : Program) (CT : FuncId → List D → Option D) (tb : Nat → Option (List D)) (ops : Array Oper) (o : Oper) (env : Env) : Option D :=
  match wantE ops env o with
  | some true => opA P CT (evE tb env) o.op
  | some false => some D.undef
  | none => none

theorem stepE_eq {ops : Array Oper} {o : Oper} {env : Env} : stepE P CT tb ops o env = (valE P CT tb ops o env).map fun d => putE env o.dst d := by
  unfold stepE valE
  split <;> simp_all

theorem valE_put {ops : Array Oper} {o : Oper} {env : Env} {dst : Option Tmp} {d : D} (h : ∀ t, dst = some t → t ∉ o.looksAt ops) : valE P CT tb ops o (putE env dst d) = valE P CT tb ops o env := by
  unfold valE
  rw [wantE_put h]
  have : opA P CT (evE tb (putE env dst d)) o.op = opA P CT (evE tb env) o.op := opA_congr fun x hx => evE_put fun t ht => tmp_of_looksAt (h t ht) x hx
  rw [this]

/-- Whatever order is picked from here on. -/
def anyE (P : Program) (CT : FuncId → List D → Option D) (tb : Nat → Option (List D)) (md : Region.Mode) (ops : Array Oper) (K : Env → Prop) : Nat → Array Bool → Env → Prop
  | 0, listed, env => Region.ready md ops listed = [] ∧ K env
  | fuel + 1, listed, env =>
    (Region.ready md ops listed = [] → K env) ∧
    ∀ i ∈ Region.ready md ops listed, ∃ o d, ops[i]? = some o ∧ valE P CT tb ops o env = some d ∧ anyE P CT tb md ops K fuel (listed.setIfInBounds i true) (putE env o.dst d)

theorem anyE_first {md : Region.Mode} {ops : Array Oper} {K : Env → Prop} {i : Nat} {oi : Oper} {di : D} (hi : ops[i]? = some oi) :
    ∀ (fuel : Nat) (listed : Array Bool) (env : Env),
      (∀ j oj, ops[j]? = some oj → j ≠ i → listed.getD j true = false → (∀ e ∈ oj.after, Region.binds md e = true → e.on ≠ i) → oi.apart ops oj = true) →
      i ∈ Region.ready md ops listed → valE P CT tb ops oi env = some di →
      anyE P CT tb md ops K fuel (listed.setIfInBounds i true) (putE env oi.dst di) → anyE P CT tb md ops K (fuel + 1) listed env := by
  intro fuel
  induction fuel with
  | zero =>
    intro listed env _ hr hy H
    refine ⟨fun h => (by rw [h] at hr; cases hr), fun j hj => ?_⟩
    by_cases hji : j = i
    · subst hji; exact ⟨oi, di, hi, hy, H⟩
    · have := ready_mono hj hji
      rw [H.1] at this
      cases this
  | succ fuel ih =>
    intro listed env hfree hr hy H
    refine ⟨fun h => (by rw [h] at hr; cases hr), fun j hj => ?_⟩
    by_cases hji : j = i
    · subst hji; exact ⟨oi, di, hi, hy, H⟩
    · obtain ⟨oj, dj, hoj, hdj, h1⟩ := H.2 j (ready_mono hj hji)
      obtain ⟨hjun, oj', hoj', hall⟩ := mem_ready.1 hj
      rw [hoj] at hoj'
      cases hoj'
      have hnot : ∀ e ∈ oj.after, Region.binds md e = true → e.on ≠ i := fun e he hb heq => by
        have h1 := hall e he hb
        have h0 := (mem_ready.1 hr).1
        rw [heq] at h1
        rcases Nat.lt_or_ge i listed.size with h' | h'
        · simp [h'] at h0 h1; rw [h0] at h1; cases h1
        · simp [Array.getElem?_eq_none h'] at h1
      obtain ⟨a1, a2, a3⟩ := Oper.apart_spec (hfree j oj hoj hji hjun hnot)
      rw [valE_put a1] at hdj
      refine ⟨oj, dj, hoj, hdj, ?_⟩
      have hfree' : ∀ k ok, ops[k]? = some ok → k ≠ i → (listed.setIfInBounds j true).getD k true = false →
          (∀ e ∈ ok.after, Region.binds md e = true → e.on ≠ i) → oi.apart ops ok = true := fun k ok hk hki hun hno => by
        refine hfree k ok hk hki ?_ hno
        by_cases hjk : j = k
        · subst hjk; exact hjun
        · rw [getD_set_ne true hjk] at hun; exact hun
      refine ih (listed.setIfInBounds j true) (putE env oj.dst dj) hfree' (ready_mono hr (Ne.symm hji)) (by rw [valE_put a3]; exact hy) ?_
      rw [Array.setIfInBounds_comm _ _ hji, ← putE_comm a2]
      exact h1

theorem anyE_lex {md : Region.Mode} {ops : Array Oper} {K : Env → Prop} : ∀ (l : List Oper) (k : Nat) (listed : Array Bool) (env env' : Env), (∀ j, l[j]? = ops[k + j]?) →
    Region.lexFrom md ops l.length k listed = true → runE P CT tb ops l env = some env' → K env' → anyE P CT tb md ops K l.length listed env
  | [], _, _, env, env', _, hB, h, hK => by
    simp only [runE] at h
    cases h
    exact ⟨by simpa [Region.lexFrom] using hB, hK⟩
  | o :: l, k, listed, env, env', hl, hB, h, hK => by
    have h0 : ops[k]? = some o := by simpa using (hl 0).symm
    simp only [List.length_cons, Region.lexFrom, Bool.and_eq_true] at hB
    obtain ⟨⟨hr, hf⟩, hB'⟩ := hB
    simp only [runE, stepE_eq, Option.bind_eq_some_iff, Option.map_eq_some_iff] at h
    obtain ⟨e1, ⟨d, hd, rfl⟩, h2⟩ := h
    exact anyE_first h0 l.length listed env (Region.free_spec h0 hf) (by simpa using hr) hd
      (anyE_lex l (k + 1) _ _ env' (fun j => by have := hl (j + 1); simpa [Nat.add_assoc, Nat.add_comm 1 j] using this) hB' h2 hK)

/-- Where the machine stands: memory has grown since w0, the frame is as env says. -/
structure At (tb : Nat → Option (List D)) (g0 : G) (w0 : World) (env : Env) (a : Act) (w : World) (g : G) : Prop where
  new : New g0 w0 g w
  sim : SimE g w a env
  len : env.length = a.tmps.size
  tab : Tab tb g w

theorem At.tight {g0 g : G} {w0 w : World} {env : Env} {a : Act} (h : At tb g0 w0 env a w g) : Tight g w := h.new.fresh

theorem At.step {g0 g g' : G} {w0 w w' : World} {env : Env} {a : Act} (h : At tb g0 w0 env a w g) (hn : New g w g' w') {d : D} {v : Value} (hr : Rel g' w' d v) (dst : Option Tmp) :
    At tb g0 w0 (putE env dst d) (a.put dst v) w' g' := by
  have he := hn.ext h.tight
  exact ⟨h.new.trans hn, (h.sim.ext he).put hr h.len dst, by rw [putE_length, put_size]; exact h.len, h.tab.ext he⟩

theorem wanted_of {ops : Array Oper} {o : Oper} {env : Env} {a : Act} {g : G} {w : World} {b : Bool} (h : wantE ops env o = some b) (hs : SimE g w a env) : Region.wanted o (yielded ops a.tmps) = b := by
  unfold wantE at h
  unfold Region.wanted
  split at h
  · rename_i hg; cases h; simp [hg]
  · rename_i j want hg
    simp only [hg]
    split at h
    · rename_i t ht
      have hy : ∀ x, a.tmps[t]? = some x → yielded ops a.tmps j = (match x with | .bool c => some c | _ => none) := by
        intro x hx
        unfold yielded
        rw [ht]
        simp only [Option.bind_some, hx]
        cases x <;> rfl
      split at h
      · rename_i c hc
        cases h
        obtain ⟨h1, h2⟩ := hs t _ hc
        have := rel_v h1
        rw [hy (.bool c) (by rw [← this]; simp [h2])]
        simp
      · rename_i xs hc
        cases h
        obtain ⟨h1, h2⟩ := hs t _ hc
        have := rel_v h1
        rw [hy (.tuple xs) (by rw [← this]; simp [h2])]
        simp
      · cases h
    · cases h

theorem wpAny_of_anyE {md : Region.Mode} {ops : Array Oper} {Q : Exit → Act → World → Prop} {K : Env → Prop} {g0 : G} {w0 : World} (hCT : ∀ f ds d, CT f ds = some d → PCalls P tb f ds d)
    (hQ : ∀ env a w g, At tb g0 w0 env a w g → K env → Q .normal a w) :
    ∀ (fuel : Nat) (listed : Array Bool) (env : Env) (a : Act) (w : World) (g : G), At tb g0 w0 env a w g → anyE P CT tb md ops K fuel listed env → wpAny P md ops Q fuel listed a w
  | 0, listed, env, a, w, g, hA, h => ⟨h.1, hQ _ _ _ _ hA h.2⟩
  | fuel + 1, listed, env, a, w, g, hA, h => by
    refine ⟨fun h0 => hQ _ _ _ _ hA (h.1 h0), fun i hi => ?_⟩
    obtain ⟨o, d, ho, hd, hrest⟩ := h.2 i hi
    unfold wpOp
    simp only [ho]
    unfold valE at hd
    split at hd
    · rename_i hw
      rw [wanted_of hw hA.sim]
      simp only [if_true]
      refine .inl (opA_wp hCT hA.tight hA.tab (evE_rel hA.sim hA.tab) hd ?_)
      intro v g' w' hn hr
      exact wpAny_of_anyE hCT hQ fuel _ _ _ _ _ (hA.step hn hr o.dst) hrest
    · rename_i hw
      rw [wanted_of hw hA.sim]
      cases hd
      simp only [Bool.false_eq_true, if_false]
      exact wpAny_of_anyE hCT hQ fuel _ _ _ _ _ (hA.step (New.refl hA.tight) (rel_v_mk rfl) o.dst) hrest
    · cases hd

/-- **A region that draws its order.** -/
theorem wp_draw {id : Nat} {ops : Array Oper} {Q : Exit → Act → World → Prop} {g0 g : G} {w0 w : World} {env env' : Env} {a : Act} (hm : P.follows .mixedOrders = true) (hB : Region.lexB .any ops = true)
    (hCT : ∀ f ds d, CT f ds = some d → PCalls P tb f ds d) (hA : At tb g0 w0 env a w g) (h : runE P CT tb ops ops.toList env = some env')
    (hQ : ∀ a w g, At tb g0 w0 env' a w g → Q .normal a w) : (Code.region id ops true).wp P Q a w := by
  simp only [Region.lexB, Bool.and_eq_true] at hB
  have hd : At tb g0 w0 env a { w with drawn := w.drawn + 1 } g := by
    have hn : New g w g { w with drawn := w.drawn + 1 } := ⟨⟨rfl, rfl, rfl, Nat.le_refl _, fun _ _ => rfl⟩, fun _ _ => rfl, rfl, hA.tight⟩
    exact ⟨hA.new.trans hn, hA.sim.ext (hn.ext hA.tight), hA.len, hA.tab.ext (hn.ext hA.tight)⟩
  refine wp_region_any hm (wpAny_of_anyE (K := fun e => e = env') hCT (fun e a w g h1 h2 => by subst h2; exact hQ a w g h1) _ _ _ _ _ _ hd ?_)
  have := anyE_lex (md := .any) (K := fun e => e = env') ops.toList 0 (Array.replicate ops.size false) env env' (by simp) (by simpa using hB.2) h rfl
  simpa using this

theorem wpOps_of_runE {ops : Array Oper} {Q : Exit → Act → World → Prop} {g0 : G} {w0 : World} (hCT : ∀ f ds d, CT f ds = some d → PCalls P tb f ds d) : ∀ (l : List Oper) (k : Nat) (env env' : Env) (a : Act) (w : World) (g : G),
    (∀ j, l[j]? = ops[k + j]?) → At tb g0 w0 env a w g → runE P CT tb ops l env = some env' → (∀ a w g, At tb g0 w0 env' a w g → Q .normal a w) → wpOps P ops Q (List.range' k l.length) a w
  | [], k, env, env', a, w, g, _, hA, h, hQ => by
    simp only [runE] at h
    cases h
    exact hQ a w g hA
  | o :: l, k, env, env', a, w, g, hl, hA, h, hQ => by
    have h0 : ops[k]? = some o := by simpa using (hl 0).symm
    simp only [runE, stepE_eq, Option.bind_eq_some_iff, Option.map_eq_some_iff] at h
    obtain ⟨e1, ⟨d, hd, rfl⟩, h2⟩ := h
    rw [List.length_cons, List.range'_succ, wpOps_cons]
    unfold wpOp
    simp only [h0]
    have next : ∀ v g' w', New g w g' w' → Rel g' w' d v → wpOps P ops Q (List.range' (k + 1) l.length) (a.put o.dst v) w' := fun v g' w' hn hr =>
      wpOps_of_runE hCT l (k + 1) _ env' _ _ _ (fun j => by have := hl (j + 1); simpa [Nat.add_assoc, Nat.add_comm 1 j] using this) (hA.step hn hr o.dst) h2 hQ
    unfold valE at hd
    split at hd
    · rename_i hw
      rw [wanted_of hw hA.sim]
      simp only [if_true]
      exact .inl (opA_wp hCT hA.tight hA.tab (evE_rel hA.sim hA.tab) hd next)
    · rename_i hw
      rw [wanted_of hw hA.sim]
      cases hd
      simp only [Bool.false_eq_true, if_false]
      exact next _ _ _ (New.refl hA.tight) (rel_v_mk rfl)
    · cases hd

/-- **A region in the order of its text.** -/
theorem wp_text {id : Nat} {ops : Array Oper} {Q : Exit → Act → World → Prop} {g0 g : G} {w0 w : World} {env env' : Env} {a : Act}
    (hCT : ∀ f ds d, CT f ds = some d → PCalls P tb f ds d) (hA : At tb g0 w0 env a w g) (h : runE P CT tb ops ops.toList env = some env')
    (hQ : ∀ a w g, At tb g0 w0 env' a w g → Q .normal a w) : (Code.region id ops false).wp P Q a w := by
  refine wp_region ?_
  have := wpOps_of_runE (ops := ops) hCT ops.toList 0 env env' a w g (by simp) hA h hQ
  simpa [List.range_eq_range'] using this

end
end Go.Ab
