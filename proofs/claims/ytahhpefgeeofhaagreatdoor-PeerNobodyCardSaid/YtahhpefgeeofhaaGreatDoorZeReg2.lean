/-
  Regions in the machine.
-/
import Derived.Test.YtahhpefgeeofhaaGreatDoorZeReg
set_option linter.unusedSimpArgs false
set_option linter.unusedVariables false
namespace Go.Ab

/-- The names that are free while some of a region's operations are done. -/
def freeIn (low : Nm → Prop) (ops : Array Oper) (G : Nat) (done : Nat → Prop) (cur : Nat) (m : Nm) : Prop :=
  (cur * KB ≤ m ∨ low m) ∨ (G * KB ≤ m ∧ m < (G + 1) * KB ∧ ∀ (i : Nat) (o : Oper), done i → ops[i]? = some o → makesH o.op = true → m ≠ nameH G o)

/-- The things that a region makes have names of their own. -/
def Apart (ops : Array Oper) : Prop :=
  (∀ (i : Nat) (o : Oper), ops[i]? = some o → makesH o.op = true → o.dst.getD 0 < KB) ∧
  ∀ (i j : Nat) (o p : Oper), i ≠ j → ops[i]? = some o → ops[j]? = some p → makesH o.op = true → makesH p.op = true → o.dst.getD 0 ≠ p.dst.getD 0

/-- The names from a generation on. -/
def from_ (low : Nm → Prop) (cur : Nat) (m : Nm) : Prop := cur * KB ≤ m ∨ low m

/-- A frame's own fence: a round's, or any other. -/
def fenceOf : Option Nat → Fence
  | none => Fence.wide
  | some l => Fence.wide.inRound l

theorem fenceOf_fn (r : Option Nat) (f : FuncId) : (fenceOf r).fn f := by cases r <;> exact trivial
theorem fenceOf_round (r : Option Nat) : (fenceOf r).round = r := by cases r <;> rfl
theorem fenceOf_depth (r : Option Nat) : (fenceOf r).depth.isSome = true → 1 ≤ 0 := by cases r <;> exact fun h => by cases h
theorem callsIn_fence (r : Option Nat) {P : Program} {f : FuncId} {args : Array Value} {w : World} {R : Ending → World → Prop} (h : CallsIn Fence.wide 0 P f args w R) : CallsIn (fenceOf r) 0 P f args w R := by
  cases r with
  | none => exact h
  | some l => exact h
theorem roundIn_fence (r : Option Nat) {P : Program} {l : Nat} {f : FuncId} {tmps : Array Value} {assign body : Code} {w : World} {R : Ending → World → Prop} (h : RoundIn Fence.wide 0 P l f tmps assign body w R) : RoundIn (fenceOf r) 0 P l f tmps assign body w R := by
  cases r with
  | none => exact h
  | some l => exact h

theorem not_defer {P : Program} {ev : Operand → Option D} {hp : Hp} {nm : Nm} {op : Op} {x : D × Up × List Nm} (h : opH P ev hp nm op = some x) : ∀ c, op ≠ .defer c := by
  rintro c rfl
  simp [opH, opP, pureH] at h

section
variable {rn : Option Nat} {P : Program} {CR : CallRel} {tb : Nat → Option (List D)} {ops : Array Oper} {gn : Nat} {low : Nm → Prop} {B : Base} {ms : List Nm} {w1 w w' : World} {g1 g g' : G} {env : Env} {hp : Hp} {a : Act}

theorem stepH_wp {i cur cur' : Nat} {o : Oper} {d : D} {us : Pt} {rd : Rd} {done : Nat → Prop} {next : Act → World → Prop} {Q : Exit → Act → World → Prop}
    (hCR : ∀ f ds hp cur d us cur', CR f ds hp cur d us cur' → CallOK P tb f ds hp cur d us cur') (ha : Apart ops) (ho : ops[i]? = some o) (hdone : ¬ done i) (hlow : ∀ m, low m → m < gn * KB) (hG : gn < cur) (hA : Hat tb B g1 w1 ms env hp (freeIn low ops gn done cur) a w g)
    (hv : ValH P CR tb ops gn o env hp cur d us rd cur') (hn : ∀ a' w' g', cur ≤ cur' → Hat tb B g1 w1 ms (putE env o.dst d) (hp.app us) (freeIn low ops gn (fun k => done k ∨ k = i) cur') a' w' g' → next a' w') :
    if Region.wanted o (yielded ops a.tmps) then o.wpIn (fenceOf rn) 0 P a w next Q else (∀ f, o.about P w a.eval = some f → (fenceOf rn).fn f) ∧ next (a.put o.dst undef) w := by
  have hE := evE_rel hA.sim hA.mem.tab
  have hGK : (gn + 1) * KB ≤ cur * KB := Nat.mul_le_mul_right _ hG
  unfold ValH at hv
  split at hv
  · rename_i hw
    rw [wanted_of hw hA.sim]
    simp only [if_true]
    rcases hv with ⟨ul, rl, h1, rfl, _, rfl⟩ | ⟨c, f, df, ds, tg, as, hid, h1, h2, h3, h4, ht, h5, h6, _⟩
    · have hnm : makesH o.op = true → gn * KB ≤ nameH gn o ∧ nameH gn o < (gn + 1) * KB := fun hm => by
        have := ha.1 i o ho hm
        refine ⟨Nat.le_add_right _ _, ?_⟩
        rw [Nat.succ_mul]
        exact Nat.add_lt_add_left this _
      have hfree : makesH o.op = true → freeIn low ops gn done cur' (nameH gn o) := fun hm => by
        refine .inr ⟨(hnm hm).1, (hnm hm).2, fun k p hk hp' hmp => ?_⟩
        intro e
        have := ha.2 i k o p (fun e => hdone (e ▸ hk)) ho hp' hm hmp
        simp only [nameH] at e
        exact this (Nat.add_left_cancel e)
      obtain ⟨v, w', g', r1, r2, r3, r4⟩ := opH_sound hA.mem hfree hE h1
      have hat : Hat tb B g1 w1 ms (putE env o.dst d) (hp.app ul.pt) (freeIn low ops gn (fun k => done k ∨ k = i) cur') (a.put o.dst v) w' g' := by
        refine (hA.step r2 r3 r4 o.dst).weaken ?_
        intro m hm
        refine ⟨?_, fun hmk => ?_⟩
        · rcases hm with hm | ⟨m1, m2, m3⟩
          · exact .inl hm
          · exact .inr ⟨m1, m2, fun k p hk => m3 k p (.inl hk)⟩
        · rcases hm with hm | ⟨m1, m2, m3⟩
          · intro e
            rcases hm with hm | hm
            · have h1 := (hnm hmk).2
              rw [← e] at h1
              exact absurd (Nat.lt_of_lt_of_le h1 hGK) (Nat.not_lt.2 hm)
            · have h1 := (hnm hmk).1
              rw [← e] at h1
              exact absurd (hlow m hm) (Nat.not_lt.2 h1)
          · exact m3 i o (.inr rfl) ho hmk
      refine ⟨fun f _ => fenceOf_fn rn f, ?_⟩
      rw [Oper.semAt_eq _ _ _ (not_defer h1)]
      rcases r1 with r1 | ⟨r1, rfl⟩
      · rw [r1]; exact hn _ _ _ (Nat.le_refl _) hat
      · rw [r1]; exact hn _ _ _ (Nat.le_refl _) hat
    · obtain ⟨hle, hside, hcall⟩ := (hCR _ _ _ _ _ _ _ h5).frame (hp2 := hp) fun n => by
        by_cases hn : n ∈ hid
        · exact .inr ⟨by simp [hide, hn], (h6 n hn).1, Nat.lt_of_lt_of_le (h6 n hn).2 hGK⟩
        · exact .inl (by simp [hide, hn])
      have hF := hE _ _ h3
      have r3 := allD_rel hE h4
      have hle' : cur * KB ≤ cur' * KB := Nat.mul_le_mul_right _ hle
      have fin : ∀ {v g' w'}, HeapR tb B (hp.app us) (fun m => freeIn low ops gn done cur m ∧ (m < cur * KB ∨ cur' * KB ≤ m)) w' g' → Ext g w g' w' → Rel g' w' d v → next (a.put o.dst v) w' := by
        intro v g' w' q1 q2 q3
        refine hn _ _ _ hle ((hA.step q1 q2 q3 o.dst).weaken ?_)
        intro m hm
        rcases hm with hm | ⟨m1, m2, m3⟩
        · rcases hm with hm | hm
          · exact ⟨.inl (.inl (Nat.le_trans hle' hm)), .inr hm⟩
          · exact ⟨.inl (.inr hm), .inl (Nat.lt_of_lt_of_le (hlow m hm) (Nat.le_trans (Nat.mul_le_mul_right _ (Nat.le_succ _)) hGK))⟩
        · exact ⟨.inr ⟨m1, m2, fun k p hk => m3 k p (.inl hk)⟩, .inl (Nat.lt_of_lt_of_le m2 hGK)⟩
      have hnd : ∀ c, o.op ≠ .defer c := fun c' e => by rw [h1] at e; cases e
      refine ⟨fun f _ => fenceOf_fn rn f, ?_⟩
      rw [Oper.semAt_eq _ _ _ hnd]
      cases df with
      | func fnk first cap =>
        cases fnk <;> try (simp [tgtOf] at ht; done)
        rename_i k
        simp only [tgtOf] at ht
        cases ht
        simp only [Rel] at hF
        obtain ⟨xs, ys, hF, r1, r2⟩ := hF
        obtain ⟨fn, hfn, hname, hbody⟩ := hside
        have hcall := hcall B (freeIn low ops gn done cur) w g (xs ++ c.args.toList.map a.eval ++ ys) hA.mem (fun m hm => .inl (.inl hm)) ((r1.append r3).append r2)
        have : (execOp a.eval o).run P w = .ok (.enter k (xs ++ c.args.toList.map a.eval ++ ys).toArray) w := by
          simp [execOp, h1, resolve, h2, hF, Deferred.ofValue, invoke, callFunc, hfn, hname, hbody]
        rw [this, Oper.uponIn_enter]
        refine ⟨fenceOf_depth rn, CallsIn.mono (callsIn_fence rn hcall) ?_⟩
        rintro e w' ⟨v, g', rfl, q1, q2, q3⟩
        exact fin q1 q2 q3
      | yld o' =>
        simp only [tgtOf] at ht
        cases ht
        simp only [Rel] at hF
        obtain ⟨l, hF, hv'⟩ := hF
        have hcall := hcall B (freeIn low ops gn done cur) w g (c.args.toList.map a.eval) hA.mem (fun m hm => .inl (.inl hm)) r3
        obtain ⟨l', fn, tmps, assign, body, e1, e2, e3⟩ := hcall
        rw [hv'] at e1
        cases e1
        have : (execOp a.eval o).run P w = .ok (.round l fn tmps assign body) w := by
          have e0 : (c.args.map a.eval) = (c.args.toList.map a.eval).toArray := by apply Array.ext'; simp
          simp [execOp, h1, resolve, h2, hF, Deferred.ofValue, invoke]
          rw [← e2, e0]
        rw [this, Oper.uponIn_round]
        refine ⟨fenceOf_depth rn, RoundIn.mono (roundIn_fence rn e3) ?_⟩
        rintro e w' ⟨v, g', rfl, q1, q2, q3⟩
        exact fin q1 q2 q3
      | _ => simp [tgtOf] at ht
  · rename_i hw
    rw [wanted_of hw hA.sim]
    obtain ⟨rfl, rfl, _, rfl⟩ := hv
    simp only [Bool.false_eq_true, if_false]
    refine ⟨fun f _ => fenceOf_fn rn f, hn _ _ _ (Nat.le_refl _) ((hA.pure (New.refl hA.mem.tight) (rel_v_mk rfl) o.dst).weaken ?_)⟩
    rintro m (hm | ⟨m1, m2, m3⟩)
    · exact .inl hm
    · exact .inr ⟨m1, m2, fun k p hk => m3 k p (.inl hk)⟩
  · cases hv

theorem wpAnyIn_of_anyH {md : Region.Mode} {F : Nat → Foot} {Q : Exit → Act → World → Prop} {K : Env → Hp → Nat → Prop} (hCR : ∀ f ds hp cur d us cur', CR f ds hp cur d us cur' → CallOK P tb f ds hp cur d us cur')
    (ha : Apart ops) (hlow : ∀ m, low m → m < gn * KB) (hQ : ∀ env hp cur a w g, Hat tb B g1 w1 ms env hp (freeIn low ops gn (fun _ => True) cur) a w g → K env hp cur → Q .normal a w) :
    ∀ (fuel : Nat) (listed : Array Bool) (env : Env) (hp : Hp) (cur : Nat) (a : Act) (w : World) (g : G), gn < cur → Hat tb B g1 w1 ms env hp (freeIn low ops gn (fun i => listed.getD i false = true) cur) a w g →
      anyH P CR tb md ops gn F K fuel listed env hp cur → wpAnyIn (fenceOf rn) 0 P md ops Q fuel listed a w
  | 0, listed, env, hp, cur, a, w, g, hG, hA, h => ⟨h.1, hQ _ _ _ _ _ _ (hA.weaken fun m hm => hm.imp id fun ⟨m1, m2, m3⟩ => ⟨m1, m2, fun i o _ => m3 i o trivial⟩) h.2⟩
  | fuel + 1, listed, env, hp, cur, a, w, g, hG, hA, h => by
    refine ⟨fun h0 => hQ _ _ _ _ _ _ (hA.weaken fun m hm => hm.imp id fun ⟨m1, m2, m3⟩ => ⟨m1, m2, fun i o _ => m3 i o trivial⟩) (h.1 h0), fun i hi => ?_⟩
    obtain ⟨o, d, us, rd, cur', ho, hd, _, hrest⟩ := h.2 i hi
    have hun := getD_false_of_true (mem_ready.1 hi).1
    unfold wpOpIn
    simp only [ho]
    refine stepH_wp hCR ha ho (by simp [hun]) hlow hG hA hd ?_
    intro a' w' g' hle hH
    refine wpAnyIn_of_anyH hCR ha hlow hQ fuel _ _ _ _ _ _ _ (Nat.lt_of_lt_of_le hG hle) (hH.weaken ?_) hrest
    rintro m (hm | ⟨m1, m2, m3⟩)
    · exact .inl hm
    refine .inr ⟨m1, m2, fun k p hk => m3 k p ?_⟩
    rcases hk with hk | rfl
    · by_cases hki : i = k
      · subst hki; rw [hun] at hk; cases hk
      · rw [getD_set_ne false hki]; exact hk
    · have hlt : k < listed.size := by
        rcases Nat.lt_or_ge k listed.size with h' | h'
        · exact h'
        · have := (mem_ready.1 hi).1
          simp [Array.getElem?_eq_none h'] at this
      simp [Array.getElem?_setIfInBounds, hlt]

/-- **A region that draws its order.** -/
theorem wp_drawH {id : Nat} {Q : Exit → Act → World → Prop} {env' : Env} {hp' : Hp} {cur' : Nat} {fs : List Foot} (hm : P.follows .mixedOrders = true) (hB : Region.lexB .any ops = true)
    (hCR : ∀ f ds hp cur d us cur', CR f ds hp cur d us cur' → CallOK P tb f ds hp cur d us cur') (ha : Apart ops) (hlow : ∀ m, low m → m < gn * KB) (hA : Hat tb B g1 w1 ms env hp (from_ low gn) a w g) (h : RunH P CR tb ops gn ops.toList env hp (gn + 1) env' hp' cur' fs)
    (hF : ∀ i j, j ≠ i → ancB .any ops ops.size i j = true ∨ ancB .any ops ops.size j i = true ∨ okF (fs.getD i (Up.pt [], .of [])) (fs.getD j (Up.pt [], .of [])))
    (hQ : ∀ a w g, Hat tb B g1 w1 ms env' hp' (from_ low cur') a w g → Q .normal a w) : (Code.region id ops true).wpIn (fenceOf rn) 0 P Q a w := by
  simp only [Region.lexB, Bool.and_eq_true] at hB
  have hd : Hat tb B g1 w1 ms env hp (from_ low gn) a { w with drawn := w.drawn + 1 } g := by
    have hn := new_drew (g := g) (w := w) hA.mem.tight
    exact ⟨hA.mem.pure hn, hA.ext.trans (hn.ext hA.mem.tight), hA.sim.ext (hn.ext hA.mem.tight), hA.len, hA.dfs⟩
  have hrep : ∀ i, (Array.replicate ops.size false).getD i false = false := fun i => by
    by_cases hi : i < ops.size <;> simp [Array.getElem?_replicate, hi]
  refine wpIn_region_any hm (wpAnyIn_of_anyH (rn := rn) (F := fun i => fs.getD i (Up.pt [], .of [])) (K := fun e h c => e = env' ∧ h = hp' ∧ c = cur') hCR ha hlow (fun e h c a w g h1 h2 => by obtain ⟨rfl, rfl, rfl⟩ := h2; exact hQ a w g (h1.weaken fun m hm => .inl hm))
    ops.size (Array.replicate ops.size false) env hp (gn + 1) a _ g (Nat.lt_succ_self _) (hd.weaken fun m hm => ?_) ?_)
  · rcases hm with (hm | hm) | ⟨m1, m2, m3⟩
    · have : gn * KB ≤ (gn + 1) * KB := Nat.mul_le_mul_right _ (Nat.le_succ _)
      exact .inl (Nat.le_trans this hm)
    · exact .inr hm
    · exact .inl m1
  have := anyH_lex (md := .any) (F := fun i => fs.getD i (Up.pt [], .of [])) (K := fun e h c => e = env' ∧ h = hp' ∧ c = cur') ops.size hF ops.toList 0 (Array.replicate ops.size false) env env' hp hp' (gn + 1) cur' fs (by simp) (by simpa using hB.2)
    (fun k o ho hk => by rw [hrep] at hk; cases hk) h (fun j f hj => by simp [hj]) ⟨rfl, rfl, rfl⟩
  simpa using this

theorem wpOps_of_RunH {Q : Exit → Act → World → Prop} (hCR : ∀ f ds hp cur d us cur', CR f ds hp cur d us cur' → CallOK P tb f ds hp cur d us cur') (ha : Apart ops) (hlow : ∀ m, low m → m < gn * KB) :
    ∀ (l : List Oper) (k : Nat) (env env' : Env) (hp hp' : Hp) (cur cur' : Nat) (fs : List Foot) (a : Act) (w : World) (g : G), gn < cur → (∀ j, l[j]? = ops[k + j]?) → Hat tb B g1 w1 ms env hp (freeIn low ops gn (fun i => i < k) cur) a w g →
    RunH P CR tb ops gn l env hp cur env' hp' cur' fs → (∀ a w g, Hat tb B g1 w1 ms env' hp' (from_ low cur') a w g → Q .normal a w) → wpOpsIn (fenceOf rn) 0 P ops Q (List.range' k l.length) a w
  | [], k, env, env', hp, hp', cur, cur', fs, a, w, g, hG, _, hA, h, hQ => by
    simp only [RunH] at h
    obtain ⟨rfl, rfl, rfl, rfl⟩ := h
    exact hQ a w g (hA.weaken fun m hm => .inl hm)
  | o :: l, k, env, env', hp, hp', cur, cur', fs, a, w, g, hG, hl, hA, h, hQ => by
    have h0 : ops[k]? = some o := by simpa using (hl 0).symm
    simp only [RunH] at h
    obtain ⟨d, us, rd, c1, fs1, hv, rfl, hrest⟩ := h
    rw [List.length_cons, List.range'_succ, wpOpsIn_cons]
    unfold wpOpIn
    simp only [h0]
    refine stepH_wp hCR ha h0 (by omega) hlow hG hA hv ?_
    intro a' w' g' hle hH
    refine wpOps_of_RunH hCR ha hlow l (k + 1) _ env' _ hp' c1 cur' fs1 a' w' g' (Nat.lt_of_lt_of_le hG hle) (fun j => by have := hl (j + 1); simpa [Nat.add_assoc, Nat.add_comm 1 j] using this) (hH.weaken ?_) hrest hQ
    rintro m (hm | ⟨m1, m2, m3⟩)
    · exact .inl hm
    · exact .inr ⟨m1, m2, fun i p hi => m3 i p (by omega)⟩

/-- **A region in the order of its text.** -/
theorem wp_textH {id : Nat} {Q : Exit → Act → World → Prop} {env' : Env} {hp' : Hp} {cur' : Nat} {fs : List Foot}
    (hCR : ∀ f ds hp cur d us cur', CR f ds hp cur d us cur' → CallOK P tb f ds hp cur d us cur') (ha : Apart ops) (hlow : ∀ m, low m → m < gn * KB) (hA : Hat tb B g1 w1 ms env hp (from_ low gn) a w g) (h : RunH P CR tb ops gn ops.toList env hp (gn + 1) env' hp' cur' fs)
    (hQ : ∀ a w g, Hat tb B g1 w1 ms env' hp' (from_ low cur') a w g → Q .normal a w) : (Code.region id ops false).wpIn (fenceOf rn) 0 P Q a w := by
  refine wpIn_region ?_
  have := wpOps_of_RunH (rn := rn) (ops := ops) hCR ha hlow ops.toList 0 env env' hp hp' (gn + 1) cur' fs a w g (Nat.lt_succ_self _) (by simp) (hA.weaken fun m hm => ?_) h hQ
  · simpa [List.range_eq_range'] using this
  · rcases hm with (hm | hm) | ⟨m1, m2, m3⟩
    · have : gn * KB ≤ (gn + 1) * KB := Nat.mul_le_mul_right _ (Nat.le_succ _)
      exact .inl (Nat.le_trans this hm)
    · exact .inr hm
    · exact .inl m1

end
end Go.Ab
