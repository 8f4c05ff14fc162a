/-
  Code, functions: a run, and that the machine runs so.
-/
import Derived.Test.YtahhpefgeeofhaaGreatDoorZeExec
import Derived.LoopNIn
set_option linter.unusedSimpArgs false
set_option linter.unusedVariables false
namespace Go.Ab

def apartB (ops : Array Oper) : Bool :=
  (List.range ops.size).all fun i => match makesAt ops i with
    | none => true
    | some d => decide (d < KB) && (List.range ops.size).all fun j => i == j || (match makesAt ops j with
        | none => true
        | some e => d != e)

def regOK (ops : Array Oper) (draw : Bool) : Bool := apartB ops && (!draw || Region.lexB .any ops)

def codeOK : Code → Bool
  | .region _ ops draw => regOK ops draw
  | .seq a b => codeOK a && codeOK b
  | .cond _ a b => codeOK a && codeOK b
  | .block _ b => codeOK b
  | .loop b => codeOK b
  | .rangeFunc _ _ a b => codeOK a && codeOK b
  | _ => true

inductive Ex where
  | normal
  | exit (id : Nat)
  | ret

def Ex.is : Ex → Exit → Prop
  | .normal, .normal => True
  | .exit i, .exit j => i = j
  | .ret, .ret => True
  | _, _ => False

abbrev Out := Option (Ex × Env × Tr × Nat × List Nm × List Nm)

/-- What a jump out of a loop over a function comes to. -/
def exOf : Option Code → Option Ex
  | none => some .normal
  | some .ret => some .ret
  | some (.exit id) => some (.exit id)
  | some _ => none

/-- inR: in a round of a loop over a function; ms: the marks among the frame's deferred calls. -/
def execC (P : Program) (CT : CallT) (tb : Nat → Option (List D)) (inR : Bool) : Nat → Code → Env → Tr → Nat → List Nm → List Nm → Out
  | 0, _, _, _, _, _, _ => none
  | f + 1, c, env, t, cur, log, ms => match c with
    | .skip => some (.normal, env, t, cur, log, ms)
    | .label _ => some (.normal, env, t, cur, log, ms)
    | .exit id => some (.exit id, env, t, cur, log, ms)
    | .ret => some (.ret, env, t, cur, log, ms)
    | .seq a b => (match execC P CT tb inR f a env t cur log ms with
      | some (.normal, e, t, c, l, m) => execC P CT tb inR f b e t c l m
      | r => r)
    | .cond x a b => (match evE tb env x with
      | some (.v (.bool true)) => execC P CT tb inR f a env t cur log ms
      | some (.v (.bool false)) => execC P CT tb inR f b env t cur log ms
      | _ => none)
    | .block id b => (match execC P CT tb inR f b env t cur log ms with
      | some (.exit j, e, t, c, l, m) => if j = id then some (.normal, e, t, c, l, m) else some (.exit j, e, t, c, l, m)
      | r => r)
    | .loop b => (match execC P CT tb inR f b env t cur log ms with
      | some (.normal, e, t, c, l, m) => execC P CT tb inR f (.loop b) e t c l m
      | r => r)
    | .region _ ops draw => (match runX P CT tb (if draw = true then fun i => hidFrom ops cur i 0 ops.size else fun _ => []) ops cur 0 ops.toList env t (cur + 1) log with
      | some (e, t, c, l, fs) => if (!draw || pairsFrom ops 0 fs) = true then forceN c fun c => some (.normal, e, t, c, l, ms) else none
      | none => none)
    | .rangeFunc x ps assign body => if inR = true then none else (match evE tb env x with
      | some df => (match tgtOf df [.yld (cur * KB)] with
        | some (.fn k, as) => if Nat.blt (cur * KB + 2) (2 ^ 64) = true then (match CT (.fn k) as (t.ups [(cur * KB + 1, some .dfr), (cur * KB, some (.loop env ps assign body .ready none))]) (cur + 1) with
          | some (_, t', cur', wl) => (match t'.get (cur * KB) with
            | some (.loop _ _ _ _ st pend) => if st = .busy then none else (match exOf pend with
              | some ex => some (ex, env, t'.ups [(cur * KB, none)], cur', wl ++ (cur * KB :: (cur * KB + 1) :: log), (cur * KB + 1) :: ms)
              | none => none)
            | _ => none)
          | none => none) else none
        | _ => none)
      | none => none)
    | _ => none

section
variable {P : Program} {CT : CallT} {tb : Nat → Option (List D)} {low : Nm → Prop} {B : Base} {rn : Option Nat} {w1 : World} {g1 : G}

theorem apartB_spec {ops : Array Oper} (h : apartB ops = true) : Apart ops := by
  unfold apartB at h
  rw [List.all_eq_true] at h
  have at_ : ∀ (i : Nat) (o : Oper), ops[i]? = some o → makesH o.op = true → makesAt ops i = some (o.dst.getD 0) ∧ i < ops.size := fun i o ho hm => by
    refine ⟨by simp [makesAt, ho, hm], (Array.getElem?_eq_some_iff.1 ho).1⟩
  refine ⟨fun i o ho hm => ?_, fun i j o p hne ho hp hm hmp => ?_⟩
  · obtain ⟨h1, h2⟩ := at_ i o ho hm
    have := h i (by simpa using h2)
    rw [h1] at this
    simp only [Bool.and_eq_true, decide_eq_true_eq] at this
    exact this.1
  · obtain ⟨h1, h2⟩ := at_ i o ho hm
    obtain ⟨h3, h4⟩ := at_ j p hp hmp
    have := h i (by simpa using h2)
    rw [h1] at this
    simp only [Bool.and_eq_true, List.all_eq_true] at this
    have := this.2 j (by simpa using h4)
    rw [h3] at this
    simp only [Bool.or_eq_true, beq_iff_eq, bne_iff_ne] at this
    exact this.resolve_left hne

theorem runH_cur {CR : CallRel} {ops : Array Oper} {gn : Nat} (hCR : ∀ f ds hp cur d us cur', CR f ds hp cur d us cur' → CallOK P tb f ds hp cur d us cur') : ∀ {l : List Oper} {env env' : Env} {hp hp' : Hp} {cur cur' : Nat} {fs : List Foot},
    RunH P CR tb ops gn l env hp cur env' hp' cur' fs → cur ≤ cur'
  | [], env, env', hp, hp', cur, cur', fs, h => by
    simp only [RunH] at h
    obtain ⟨_, _, rfl, _⟩ := h
    exact Nat.le_refl _
  | o :: l, env, env', hp, hp', cur, cur', fs, h => by
    simp only [RunH] at h
    obtain ⟨d, us, rd, c1, fs1, hv, _, hr⟩ := h
    refine Nat.le_trans ?_ (runH_cur hCR hr)
    unfold ValH at hv
    split at hv
    · rcases hv with ⟨_, _, _, _, _, rfl⟩ | ⟨_, _, _, _, _, _, _, _, _, _, _, _, h5, _⟩
      · exact Nat.le_refl _
      · exact (hCR _ _ _ _ _ _ _ h5).1
    · obtain ⟨_, _, _, rfl⟩ := hv; exact Nat.le_refl _
    · cases hv

/-- A loop by so many rounds, all else by its rule. -/
def WPr (P : Program) (r : Option Nat) (F : Nat) (c : Code) (Q : Exit → Act → World → Prop) (a : Act) (w : World) : Prop :=
  match c with
  | .loop y => Code.roundsIn (fenceOf r) 0 P y Q F a w
  | c => c.wpIn (fenceOf r) 0 P Q a w

theorem WPr.wp {r : Option Nat} {F : Nat} {c : Code} {Q : Exit → Act → World → Prop} {a : Act} {w : World} (h : WPr P r F c Q a w) : c.wpIn (fenceOf r) 0 P Q a w := by
  cases c with
  | loop y => exact wpIn_loop_rounds F h
  | _ => exact h

/-- Where a run ends. -/
def Ends (tb : Nat → Option (List D)) (low : Nm → Prop) (B : Base) (w1 : World) (g1 : G) (ex : Ex) (env : Env) (t : Tr) (cur : Nat) (ms : List Nm) : Exit → Act → World → Prop :=
  fun e a w => ex.is e ∧ ∃ g, Hat tb B g1 w1 ms env t.get (from_ low cur) a w g

theorem setW_putObj (w : World) (r : Nat) (o : Obj) : w.putObj r o = setW w r o := rfl

theorem rangeFunc_sound (hCT : CTOK P tb CT) {inR : Bool} (hR : inR = false → rn = none) {f : Nat} {x : Operand} {ps : Array Tmp} {assign body : Code} {env env' : Env} {t t' : Tr} {cur cur' : Nat} {log log' ms ms' : List Nm} {ex : Ex}
    (h : execC P CT tb inR (f + 1) (.rangeFunc x ps assign body) env t cur log ms = some (ex, env', t', cur', log', ms')) (hlow : ∀ m, low m → m < cur * KB) :
    (∀ n ∈ log, n ∈ log') ∧ (∀ n, n ∉ log' → t'.get n = t.get n) ∧ cur ≤ cur' ∧
    ∀ (a : Act) (w : World) (g : G), Hat tb B g1 w1 ms env t.get (from_ low cur) a w g → (Code.rangeFunc x ps assign body).wpIn (fenceOf rn) 0 P (Ends tb low B w1 g1 ex env' t' cur' ms') a w := by
  obtain ⟨nL, hnLd⟩ : ∃ n : Nat, n = cur * KB := ⟨_, rfl⟩
  simp only [execC, ← hnLd] at h
  split at h
  · cases h
  rename_i hin
  have hrn : rn = none := hR (by simpa using hin)
  subst hrn
  split at h
  case h_2 => cases h
  rename_i df hx
  split at h
  case h_2 => cases h
  rename_i k as htg
  split at h
  case isFalse => cases h
  rename_i hsmall
  split at h
  case h_2 => cases h
  rename_i d0 t1 c1 wl hct
  split at h
  case h_2 => cases h
  rename_i env2 ps2 as2 bd2 st pend hL
  split at h
  · cases h
  rename_i hbusy
  split at h
  case h_2 => cases h
  rename_i ex' hexof
  cases h
  have hsm : nL + 2 < 2 ^ 64 := by simpa using hsmall
  have hup : (t.ups [(nL + 1, some .dfr), (nL, some (.loop env ps assign body .ready none))]).get = fun n => if n = nL then some (.loop env ps assign body .ready none) else if n = nL + 1 then some .dfr else t.get n := by
    rw [Tr.get_ups _ _ (by simp only [smallUp, Bool.and_true, Bool.and_eq_true, Nat.blt_eq]; omega)]
    funext n
    rw [app_two (n := nL + 1) (n2 := nL) (Nat.succ_ne_self nL)]
    by_cases e1 : n = nL
    · subst e1; simp
    · by_cases e2 : n = nL + 1 <;> simp [e1, e2]
  have hdn : (t1.ups [(nL, none)]).get = fun n => if n = nL then none else t1.get n := by
    rw [Tr.get_ups _ _ (by simp only [smallUp, Bool.and_true, Bool.and_eq_true, Nat.blt_eq]; omega)]
    funext n
    rw [app_one]
  obtain ⟨⟨hle, hside, hcall⟩, hlog⟩ := hCT _ _ _ _ _ _ _ _ hct
  refine ⟨fun n hn => by simp [hn], fun n hn => ?_, by omega, fun a w g hA => ?_⟩
  · simp only [List.mem_append, List.mem_cons, not_or] at hn
    rw [hdn]
    simp only [hn.2.1, if_false]
    rw [hlog n hn.1, hup]
    simp [hn.2.1, hn.2.2.1]
  have hE := evE_rel hA.sim hA.mem.tab _ _ hx
  have hKB : (cur + 1) * KB = nL + KB := by rw [hnLd]; exact Nat.succ_mul _ _
  have hKBv : 2 ≤ KB := by decide
  have hfr : ∀ m, from_ low cur m ↔ (nL ≤ m ∨ low m) := fun m => by rw [hnLd]; exact Iff.rfl
  have hfr1 : ∀ m, (cur + 1) * KB ≤ m ↔ nL + KB ≤ m := fun m => by rw [hKB]
  have hlow' : ∀ m : Nat, low m → m < nL := fun m h => by rw [hnLd]; exact hlow m h
  clear hlow
  -- the two new blocks
  have hnD : g.val (nL + 1) = none := hA.mem.free _ ((hfr _).2 (.inl (Nat.le_succ nL)))
  have obD : ORel B.kp (g.name (nL + 1) (.pointer (some ⟨w.heap.size, 0, none⟩))) (w.alloc (.deferred (some []))) (nL + 1) .dfr :=
    ⟨w.heap.size, G.name_val_eq, alloc_at _ _, hA.mem.tight _ (Nat.le_refl _), hA.mem.fresh⟩
  obtain ⟨hM1, hE1⟩ := hA.mem.alloc (n := nL + 1) hnD rfl obD (free' := fun m => from_ low cur m ∧ m ≠ nL + 1) (fun m hm => hm) (hp' := fun n => if n = nL + 1 then some .dfr else t.get n) (fun m => rfl)
  have hnL : (g.name (nL + 1) (.pointer (some ⟨w.heap.size, 0, none⟩))).val (nL) = none := hM1.free _ ⟨(hfr _).2 (.inl (Nat.le_refl nL)), Nat.ne_of_lt (Nat.lt_succ_self nL)⟩
  have hszw : (w.alloc (.deferred (some []))).heap.size = w.heap.size + 1 := alloc_size _ _
  have hext0 : ∀ fn, Ext g w ((g.name (nL + 1) (.pointer (some ⟨w.heap.size, 0, none⟩))).name (nL) (.pointer (some ⟨w.heap.size + 1, 0, none⟩)))
      ((w.alloc (.deferred (some []))).alloc (.loop { state := .ready, pending := none, fn, tmps := a.tmps, params := ps, assign, body, defers := w.heap.size })) := fun fn =>
    hE1.trans ((Ext.name hnL).trans (Ext.alloc (g := (g.name (nL + 1) (.pointer (some ⟨w.heap.size, 0, none⟩))).name nL (.pointer (some ⟨w.heap.size + 1, 0, none⟩))) hM1.tight _))
  have obL : ∀ fn, ORel B.kp ((g.name (nL + 1) (.pointer (some ⟨w.heap.size, 0, none⟩))).name (nL) (.pointer (some ⟨w.heap.size + 1, 0, none⟩)))
      ((w.alloc (.deferred (some []))).alloc (.loop { state := .ready, pending := none, fn, tmps := a.tmps, params := ps, assign, body, defers := w.heap.size })) (nL) (.loop env ps assign body .ready none) := fun fn => by
    refine ⟨w.heap.size + 1, fn, a.tmps, w.heap.size, G.name_val_eq, ?_, ⟨?_, hA.len⟩, ?_, ?_⟩
    · rw [← hszw]; exact alloc_at _ _
    · exact fun u du hu => hA.sim.ext (hext0 fn) u du hu
    · rw [← hszw]; exact hM1.tight _ (Nat.le_refl _)
    · rw [← hszw]; exact hM1.fresh
  refine wpIn_rangeFunc fun fn _ => ?_
  obtain ⟨hM2, hE2⟩ := hM1.alloc (n := nL) hnL (x := .pointer (some ⟨w.heap.size + 1, 0, none⟩)) (by rw [hszw]; rfl) (obL fn) (free' := fun m => (from_ low cur m ∧ m ≠ nL + 1) ∧ m ≠ nL) (fun m hm => hm)
    (hp' := (t.ups [(nL + 1, some .dfr), (nL, some (.loop env ps assign body .ready none))]).get) (fun m => by rw [hup])
  have hEt := hE1.trans hE2
  cases df with
  | func fnk first cap =>
    cases fnk <;> try (simp [tgtOf] at htg; done)
    rename_i kk
    simp only [tgtOf, Option.some.injEq, Prod.mk.injEq, Tgt.fn.injEq] at htg
    obtain ⟨rfl, rfl⟩ := htg
    simp only [Rel] at hE
    obtain ⟨xs, ys, hF, r1, r2⟩ := hE
    obtain ⟨fnd, hfn, hname, hbody⟩ := hside
    have hargs : RelL ((g.name (nL + 1) (.pointer (some ⟨w.heap.size, 0, none⟩))).name (nL) (.pointer (some ⟨w.heap.size + 1, 0, none⟩)))
        ((w.alloc (.deferred (some []))).alloc (.loop { state := .ready, pending := none, fn, tmps := a.tmps, params := ps, assign, body, defers := w.heap.size })) (first ++ [.yld (nL)] ++ cap) (xs ++ [.func (.yield (w.heap.size + 1)) #[] #[]] ++ ys) := by
      refine ((RelL.ext hEt _ _ r1).append ?_).append (RelL.ext hEt _ _ r2)
      simp only [RelL, Rel]
      exact ⟨_, [], rfl, ⟨_, rfl, G.name_val_eq⟩, rfl⟩
    have hc := hcall B _ _ _ _ hM2 (fun m hm => by
      have hm := (hfr1 m).1 hm
      exact ⟨⟨(hfr m).2 (.inl (by omega)), Nat.ne_of_gt (by omega)⟩, Nat.ne_of_gt (by omega)⟩) hargs
    have hc : CallsIn (fenceOf none) 0 P kk (xs ++ [Value.func (.yield (w.heap.size + 1)) #[] #[]] ++ ys).toArray ((w.alloc (.deferred (some []))).alloc (.loop { state := .ready, pending := none, fn, tmps := a.tmps, params := ps, assign, body, defers := w.heap.size })) _ := callsIn_fence none hc
    refine ⟨w.heap.size + 1, [{ target := .collected w.heap.size, args := #[] }], ((w.alloc (.deferred (some []))).alloc (.loop { state := .ready, pending := none, fn, tmps := a.tmps, params := ps, assign, body, defers := w.heap.size })), { target := .fn (.func kk) ys.toArray, args := xs.toArray ++ #[Value.func (.yield (w.heap.size + 1)) #[] #[]] }, ((w.alloc (.deferred (some []))).alloc (.loop { state := .ready, pending := none, fn, tmps := a.tmps, params := ps, assign, body, defers := w.heap.size })), kk, (xs ++ [Value.func (.yield (w.heap.size + 1)) #[] #[]] ++ ys).toArray, ((w.alloc (.deferred (some []))).alloc (.loop { state := .ready, pending := none, fn, tmps := a.tmps, params := ps, assign, body, defers := w.heap.size })),
      by rw [fenceOf_round]; exact run_enterLoop_outer fn a.tmps ps assign body, ?_, fun f' _ => fenceOf_fn _ f', ?_, fenceOf_depth none, ?_⟩
    · have : a.eval (Operand.const (.func (.yield (w.heap.size + 1)) #[] #[])) = .func (.yield (w.heap.size + 1)) #[] #[] := rfl
      simp [resolve, rangeCall, hF, Deferred.ofValue, this]
    · simp [invoke, callFunc, hfn, hname, hbody]
    · show CallsIn (fenceOf none) 0 P kk _ _ _
      refine CallsIn.mono hc ?_
      rintro e w' ⟨v, g', rfl, q1, q2, q3⟩
      have happ : Hp.app (t.ups [(nL + 1, some .dfr), (nL, some (.loop env ps assign body .ready none))]).get (ptOf wl t1) = t1.get := by
        funext m
        simp only [Hp.app, ptOf]
        by_cases hm : m ∈ wl
        · simp [hm]
        · simp [hm, hlog m hm]
      rw [happ] at q1
      obtain ⟨l', fn', tmps', dl', z1, z2, z3, z4, z5⟩ := q1.objs _ _ hL
      have z0 := q2.val _ _ (G.name_val_eq (g := g.name (nL + 1) (.pointer (some ⟨w.heap.size, 0, none⟩))) (n := nL) (x := .pointer (some ⟨w.heap.size + 1, 0, none⟩)))
      rw [z1] at z0
      simp only [Option.some.injEq, Value.pointer.injEq, Addr.mk.injEq, and_true] at z0
      subst z0
      have hend := run_endLoop (P := P) z2 hbusy
      have hturn := turned_setW (o' := .loop { state := .exhausted, pending := pend, fn := fn', tmps := tmps', params := ps2, assign := as2, body := bd2, defers := dl' }) z2 (by intro c t f e; cases e)
      have hobx : ORel B.kp g' (setW w' (w.heap.size + 1) (.loop { state := .exhausted, pending := pend, fn := fn', tmps := tmps', params := ps2, assign := as2, body := bd2, defers := dl' })) (nL) (.loop env2 ps2 as2 bd2 .exhausted pend) :=
        ⟨_, fn', tmps', dl', z1, setW_at z2, ⟨z3.1.ext (hturn.ext (g := g') z4), z3.2⟩, z4, z5⟩
      obtain ⟨hM3, hE3⟩ := q1.put (n := nL) (by rw [hL]; simp) (b := w.heap.size + 1) (by simp [blk, z1, blkV]) hturn hobx (hp' := fun m => if m = nL then some (.loop env2 ps2 as2 bd2 .exhausted pend) else t1.get m) (fun m => rfl)
      have hM4 : HeapR tb B (t1.ups [(nL, none)]).get (from_ low cur') (setW w' (w.heap.size + 1) (.loop { state := .exhausted, pending := pend, fn := fn', tmps := tmps', params := ps2, assign := as2, body := bd2, defers := dl' })) g' := by
        refine (hM3.drop fun m => ?_).weaken fun m hm => ?_
        · rw [hdn]
          by_cases e : m = nL <;> simp [e]
        · have hle2 : (cur + 1) * KB ≤ cur' * KB := Nat.mul_le_mul_right _ hle
          rw [hKB] at hle2
          rcases hm with hm | hm
          · have hm2 : nL + KB ≤ m := Nat.le_trans hle2 hm
            exact ⟨⟨⟨(hfr m).2 (.inl (by omega)), Nat.ne_of_gt (by omega)⟩, Nat.ne_of_gt (by omega)⟩, .inr hm⟩
          · have := hlow' m hm
            exact ⟨⟨⟨(hfr m).2 (.inr hm), Nat.ne_of_lt (by omega)⟩, Nat.ne_of_lt (by omega)⟩, .inl (Nat.lt_of_lt_of_le this (by rw [hKB]; exact Nat.le_add_right _ _))⟩
      have hEall := (hEt.trans q2).trans hE3
      have hmarkv : g'.val (nL + 1) = some (.pointer (some ⟨w.heap.size, 0, none⟩)) := q2.val _ _ (by rw [G.name_val_ne (Nat.succ_ne_self nL)]; exact G.name_val_eq)
      have hH : Hat tb B g1 w1 ((nL + 1) :: ms) env (t1.ups [(nL, none)]).get (from_ low cur') { a with defers := [{ target := .collected w.heap.size, args := #[] }] ++ a.defers } (setW w' (w.heap.size + 1) (.loop { state := .exhausted, pending := pend, fn := fn', tmps := tmps', params := ps2, assign := as2, body := bd2, defers := dl' })) g' :=
        ⟨hM4, hA.ext.trans hEall, hA.sim.ext hEall, hA.len, ⟨_, a.defers, w.heap.size, rfl, rfl, hmarkv, hA.dfs.ext hEall⟩⟩
      refine ⟨pend, _, hend, ?_⟩
      rw [setW_putObj]
      cases pend with
      | none =>
        simp only [exOf] at hexof
        cases hexof
        exact ⟨trivial, g', hH⟩
      | some c =>
        cases c <;> simp only [exOf] at hexof <;> try (cases hexof; done)
        · cases hexof
          exact wpIn_exit ⟨rfl, g', hH⟩
        · cases hexof
          exact wpIn_ret ⟨trivial, g', hH⟩
  | yld o' => simp [tgtOf] at htg
  | _ => simp [tgtOf] at htg

theorem exec_sound (hm : P.follows .mixedOrders = true) (hCT : CTOK P tb CT) {inR : Bool} (hR : inR = false → rn = none) : ∀ (f : Nat) (c : Code) (env env' : Env) (t t' : Tr) (cur cur' : Nat) (log log' ms ms' : List Nm) (ex : Ex),
    execC P CT tb inR f c env t cur log ms = some (ex, env', t', cur', log', ms') → codeOK c = true → (∀ m, low m → m < cur * KB) →
    (∀ n ∈ log, n ∈ log') ∧ (∀ n, n ∉ log' → t'.get n = t.get n) ∧ cur ≤ cur' ∧
    ∀ (a : Act) (w : World) (g : G), Hat tb B g1 w1 ms env t.get (from_ low cur) a w g → WPr P rn f c (Ends tb low B w1 g1 ex env' t' cur' ms') a w := by
  intro f
  induction f with
  | zero => intro c env env' t t' cur cur' log log' ms ms' ex h _ _; simp [execC] at h
  | succ f ih =>
    intro c env env' t t' cur cur' log log' ms ms' ex h hok hlow
    cases c with
    | skip =>
      simp only [execC] at h
      cases h
      exact ⟨fun _ h => h, fun _ _ => rfl, Nat.le_refl _, fun a w g hA => wpIn_skip ⟨trivial, g, hA⟩⟩
    | label l =>
      simp only [execC] at h
      cases h
      exact ⟨fun _ h => h, fun _ _ => rfl, Nat.le_refl _, fun a w g hA => wpIn_label ⟨trivial, g, hA⟩⟩
    | exit id =>
      simp only [execC] at h
      cases h
      exact ⟨fun _ h => h, fun _ _ => rfl, Nat.le_refl _, fun a w g hA => wpIn_exit ⟨rfl, g, hA⟩⟩
    | ret =>
      simp only [execC] at h
      cases h
      exact ⟨fun _ h => h, fun _ _ => rfl, Nat.le_refl _, fun a w g hA => wpIn_ret ⟨trivial, g, hA⟩⟩
    | seq x y =>
      simp only [codeOK, Bool.and_eq_true] at hok
      simp only [execC] at h
      split at h
      · rename_i e1 t1 c1 l1 m1 h1
        obtain ⟨a1, a2, a3, a4⟩ := ih x _ _ _ _ _ _ _ _ _ _ _ h1 hok.1 hlow
        obtain ⟨b1, b2, b3, b4⟩ := ih y _ _ _ _ _ _ _ _ _ _ _ h hok.2 (fun m hm => Nat.lt_of_lt_of_le (hlow m hm) (Nat.mul_le_mul_right _ a3))
        refine ⟨fun n hn => b1 n (a1 n hn), fun n hn => (b2 n hn).trans (a2 n fun hl => hn (b1 n hl)), Nat.le_trans a3 b3, fun a w g hA => ?_⟩
        refine wpIn_seq (wpIn_mono (a4 a w g hA).wp ?_)
        rintro e a' w' ⟨he, g', hA'⟩
        cases e <;> simp only [Ex.is] at he
        exact (b4 a' w' g' hA').wp
      · rename_i hne
        obtain ⟨a1, a2, a3, a4⟩ := ih x _ _ _ _ _ _ _ _ _ _ _ h hok.1 hlow
        refine ⟨a1, a2, a3, fun a w g hA => ?_⟩
        refine wpIn_seq (wpIn_mono (a4 a w g hA).wp ?_)
        rintro e a' w' ⟨he, hg⟩
        cases e with
        | normal =>
          cases ex with
          | normal => exact absurd h (hne _ _ _ _ _)
          | _ => simp only [Ex.is] at he
        | _ => exact ⟨he, hg⟩
    | cond x y z =>
      simp only [codeOK, Bool.and_eq_true] at hok
      simp only [execC] at h
      split at h
      · rename_i hx
        obtain ⟨a1, a2, a3, a4⟩ := ih y _ _ _ _ _ _ _ _ _ _ _ h hok.1 hlow
        refine ⟨a1, a2, a3, fun a w g hA => wpIn_cond_true ?_ (a4 a w g hA).wp⟩
        exact rel_v (evE_rel hA.sim hA.mem.tab _ _ hx)
      · rename_i hx
        obtain ⟨a1, a2, a3, a4⟩ := ih z _ _ _ _ _ _ _ _ _ _ _ h hok.2 hlow
        refine ⟨a1, a2, a3, fun a w g hA => wpIn_cond_false ?_ (a4 a w g hA).wp⟩
        exact rel_v (evE_rel hA.sim hA.mem.tab _ _ hx)
      · cases h
    | block id y =>
      simp only [codeOK] at hok
      simp only [execC] at h
      split at h
      · rename_i j e1 t1 c1 l1 m1 h1
        obtain ⟨a1, a2, a3, a4⟩ := ih y _ _ _ _ _ _ _ _ _ _ _ h1 hok hlow
        split at h
        · rename_i hj
          cases h
          subst hj
          refine ⟨a1, a2, a3, fun a w g hA => wpIn_block (wpIn_mono (a4 a w g hA).wp ?_)⟩
          rintro e a' w' ⟨he, hg⟩
          cases e <;> simp only [Ex.is] at he
          subst he
          simp only [Exit.inBlock, if_true]
          exact ⟨trivial, hg⟩
        · rename_i hj
          cases h
          refine ⟨a1, a2, a3, fun a w g hA => wpIn_block (wpIn_mono (a4 a w g hA).wp ?_)⟩
          rintro e a' w' ⟨he, hg⟩
          cases e <;> simp only [Ex.is] at he
          subst he
          simp only [Exit.inBlock, hj, if_false]
          exact ⟨rfl, hg⟩
      · rename_i hne
        obtain ⟨a1, a2, a3, a4⟩ := ih y _ _ _ _ _ _ _ _ _ _ _ h hok hlow
        refine ⟨a1, a2, a3, fun a w g hA => wpIn_block (wpIn_mono (a4 a w g hA).wp ?_)⟩
        rintro e a' w' ⟨he, hg⟩
        cases e with
        | exit j =>
          cases ex with
          | exit k => exact absurd h (hne _ _ _ _ _ _)
          | _ => simp only [Ex.is] at he
        | _ => exact ⟨he, hg⟩
    | loop y =>
      simp only [codeOK] at hok
      simp only [execC] at h
      split at h
      · rename_i e1 t1 c1 l1 m1 h1
        obtain ⟨a1, a2, a3, a4⟩ := ih y _ _ _ _ _ _ _ _ _ _ _ h1 hok hlow
        obtain ⟨b1, b2, b3, b4⟩ := ih (.loop y) _ _ _ _ _ _ _ _ _ _ _ h (by simpa [codeOK] using hok) (fun m hm => Nat.lt_of_lt_of_le (hlow m hm) (Nat.mul_le_mul_right _ a3))
        refine ⟨fun n hn => b1 n (a1 n hn), fun n hn => (b2 n hn).trans (a2 n fun hl => hn (b1 n hl)), Nat.le_trans a3 b3, fun a w g hA => ?_⟩
        refine wpIn_mono (a4 a w g hA).wp ?_
        rintro e a' w' ⟨he, g', hA'⟩
        cases e <;> simp only [Ex.is] at he
        exact b4 a' w' g' hA'
      · rename_i hne
        obtain ⟨a1, a2, a3, a4⟩ := ih y _ _ _ _ _ _ _ _ _ _ _ h hok hlow
        refine ⟨a1, a2, a3, fun a w g hA => ?_⟩
        refine wpIn_mono (a4 a w g hA).wp ?_
        rintro e a' w' ⟨he, hg⟩
        cases e with
        | normal =>
          cases ex with
          | normal => exact absurd h (hne _ _ _ _ _)
          | _ => simp only [Ex.is] at he
        | _ => exact ⟨he, hg⟩
    | region id ops draw =>
      simp only [codeOK, regOK, Bool.and_eq_true, Bool.or_eq_true, Bool.not_eq_true'] at hok
      obtain ⟨hap, hlex⟩ := hok
      have hA := apartB_spec hap
      simp only [execC] at h
      split at h
      · rename_i e1 t1 c1 l1 fs h1
        split at h
        · rename_i hpairs
          rw [forceN_eq] at h
          cases h
          obtain ⟨feet, q1, q2, q3, q4⟩ := runX_sound hCT h1
          have hCR : ∀ f ds hp cur d us cur', CRof CT f ds hp cur d us cur' → CallOK P tb f ds hp cur d us cur' := by
            rintro f ds hp cur d us cur' ⟨t, t', wl, rfl, hct, rfl⟩
            exact (hCT _ _ _ _ _ _ _ _ hct).1
          have hcur : cur + 1 ≤ cur' := runH_cur hCR q1
          refine ⟨q3, q4, by omega, fun a w g hH => ?_⟩
          cases draw with
          | false => exact wp_textH hCR hA hlow hH q1 fun a w g hH => ⟨trivial, g, hH⟩
          | true =>
            simp only [Bool.not_true, Bool.false_or] at hpairs
            exact wp_drawH hm (hlex.resolve_left (by simp)) hCR hA hlow hH q1 (fun i j hij => pairs_ok q2 hpairs i j hij) fun a w g hH => ⟨trivial, g, hH⟩
        · cases h
      · cases h
    | rangeFunc x ps assign body => exact rangeFunc_sound hCT hR h hlow
    | _ => simp [execC] at h

end
end Go.Ab
