/-
  Regions whose operations change things and call: the run in the order of the text serves every order.
-/
import Derived.Test.YtahhpefgeeofhaaGreatDoorZeLocal
import Derived.RangeFuncLeaves
import Derived.RangeFuncRecord
import Derived.OrdersIn
set_option linter.unusedSimpArgs false
set_option linter.unusedVariables false
namespace Go.Ab

/-- How many names a region may give. -/
def KB : Nat := 1024

/-- The name of what an operation makes. -/
def nameH (G : Nat) (o : Oper) : Nm := G * KB + o.dst.getD 0

/-- What is called: a function, or the rest of a loop over a function. -/
inductive Tgt where
  | fn (f : FuncId)
  | yld (o : Nm)

/-- What is called, and with what. -/
def tgtOf : D → List D → Option (Tgt × List D)
  | .func (.func k) first cap, ds => some (.fn k, first ++ ds ++ cap)
  | .yld o, ds => some (.yld o, ds)
  | _, _ => none

/-- What a call yields, changes, and where the counter of names stands then. -/
abbrev CallRel := Tgt → List D → Hp → Nat → D → Pt → Nat → Prop

def TgtRuns (P : Program) (tg : Tgt) (g : G) (w : World) (args : List Value) (R : Ending → World → Prop) : Prop :=
  match tg with
  | .fn f => CallsIn Fence.wide 0 P f args.toArray w R
  | .yld o => ∃ (l fn : Nat) (tmps : Array Value) (assign body : Code), g.val o = some (.pointer (some ⟨l, 0, none⟩)) ∧ (Instr.yield l args.toArray).run P w = .ok (.round l fn tmps assign body) w ∧ RoundIn Fence.wide 0 P l fn tmps assign body w R

theorem TgtRuns.mono {P : Program} {tg : Tgt} {g : G} {w : World} {args : List Value} {R R' : Ending → World → Prop} (h : TgtRuns P tg g w args R) (hr : ∀ e w', R e w' → R' e w') : TgtRuns P tg g w args R' := by
  cases tg with
  | fn f => exact CallsIn.mono h hr
  | yld o =>
    obtain ⟨l, fn, tmps, assign, body, h1, h2, h3⟩ := h
    exact ⟨l, fn, tmps, assign, body, h1, h2, h3.mono hr⟩

def TgtSide (P : Program) : Tgt → Prop
  | .fn f => ∃ fn, P.funcs[f]? = some fn ∧ fn.name ≠ "runtime.NumGoroutine" ∧ fn.body ≠ none
  | .yld _ => True

def CallOK (P : Program) (tb : Nat → Option (List D)) : CallRel := fun tg ds hp cur d us cur' =>
  cur ≤ cur' ∧ TgtSide P tg ∧
  ∀ (B : Base) (free : Nm → Prop) (w : World) (g : G) (args : List Value), HeapR tb B hp free w g → (∀ m, cur * KB ≤ m → free m) → RelL g w ds args →
    TgtRuns P tg g w args fun e w' => ∃ v g', e = .returned v ∧ HeapR tb B (hp.app us) (fun m => free m ∧ (m < cur * KB ∨ cur' * KB ≤ m)) w' g' ∧ Ext g w g' w' ∧ Rel g' w' d v

/-- What is looked at: these names, or all but these. -/
inductive Rd where
  | of (l : List Nm)
  | but (l : List Nm)

def Rd.isCall : Rd → Bool
  | .of _ => false
  | .but _ => true

/-- Things with some of them hidden. -/
def hide (l : List Nm) (hp : Hp) : Hp := fun n => if n ∈ l then none else hp n

/-- What one operation yields (d), changes (us) and looks at (rd), and where the counter stands then. -/
def ValH (P : Program) (CR : CallRel) (tb : Nat → Option (List D)) (ops : Array Oper) (G : Nat) (o : Oper) (env : Env) (hp : Hp) (cur : Nat) (d : D) (us : Pt) (rd : Rd) (cur' : Nat) : Prop :=
  match wantE ops env o with
  | some true => (∃ ul rl, opH P (evE tb env) hp (nameH G o) o.op = some (d, ul, rl) ∧ us = ul.pt ∧ rd = .of rl ∧ cur' = cur) ∨
      (∃ c f df ds tg as hid, o.op = .call c ∧ c.callee = .value f ∧ evE tb env f = some df ∧ allD (evE tb env) c.args.toList = some ds ∧ tgtOf df ds = some (tg, as) ∧ CR tg as (hide hid hp) cur d us cur' ∧ (∀ n ∈ hid, us n = none ∧ n < (G + 1) * KB) ∧ rd = .but hid)
  | some false => d = D.undef ∧ us = Up.pt [] ∧ rd = .of [] ∧ cur' = cur
  | none => False

theorem ORel.reK {K K' : Nat → Prop} {g : G} {w : World} {n : Nm} {o : Ob} (h : ORel K g w n o) (hk : ∀ b, blk g n = some b → ¬ K' b) : ORel K' g w n o := by
  cases o with
  | cells cs =>
    obtain ⟨b, m, T, pre, vs, post, h1, h2, h3, h4, h5, h6⟩ := h
    exact ⟨b, m, T, pre, vs, post, h1, h2, h3, h4, h5, hk b (by simp [blk, h1, blkV])⟩
  | map es clock =>
    obtain ⟨r, xs, h1, h2, h3, h4, h5⟩ := h
    exact ⟨r, xs, h1, h2, h3, h4, hk r (by simp [blk, h1, blkV])⟩
  | iter m since seen stepped =>
    obtain ⟨r, mm, h1, h2, h3, h4, h5⟩ := h
    exact ⟨r, mm, h1, h2, h3, h4, hk r (by simp [blk, h1, blkV])⟩
  | loop env ps assign body st pend =>
    obtain ⟨l, fn, tmps, dl, h1, h2, h3, h4, h5⟩ := h
    exact ⟨l, fn, tmps, dl, h1, h2, h3, h4, hk l (by simp [blk, h1, blkV])⟩
  | dfr =>
    obtain ⟨r, h1, h2, h4, h5⟩ := h
    exact ⟨r, h1, h2, h4, hk r (by simp [blk, h1, blkV])⟩

/-- A call does the same beside things that it does not know of. -/
theorem CallOK.frame {P : Program} {tb : Nat → Option (List D)} {f : Tgt} {ds : List D} {hp hp2 : Hp} {cur cur' : Nat} {d : D} {us : Pt} (h : CallOK P tb f ds hp cur d us cur')
    (hsub : ∀ n, hp n = hp2 n ∨ (hp n = none ∧ us n = none ∧ n < cur * KB)) : CallOK P tb f ds hp2 cur d us cur' := by
  obtain ⟨hle, hfn, hcall⟩ := h
  refine ⟨hle, hfn, ?_⟩
  intro B free w g args hM hfree hargs
  have old : ∀ {n o}, hp n = some o → hp2 n = some o := fun {n o} ho => by
    rcases hsub n with e | ⟨e, _⟩
    · rw [← e]; exact ho
    · rw [e] at ho; cases ho
  have hB : HeapR tb ⟨w, fun b => B.kp b ∨ ∃ n, hp n = none ∧ hp2 n ≠ none ∧ blk g n = some b, g.lim⟩ hp free w g := by
    refine ⟨rfl, rfl, rfl, Nat.le_refl _, fun b hb => ⟨?_, rfl, rfl⟩, hM.tight, hM.free, hM.tab, fun n o ho => ?_, fun n m hne h1 h2 => ?_⟩
    · rcases hb with hb | ⟨n, _, h2, h3⟩
      · exact Nat.lt_of_lt_of_le (hM.kept b hb).1 hM.size
      · exact (hM.blk_lt h2 h3).1
    · refine (hM.objs n o (old ho)).reK fun b hb => ?_
      rintro (hk | ⟨n', k1, k2, k3⟩)
      · exact ((hM.objs n o (old ho)).blk_lt hb).2.1 hk
      · have hne : n ≠ n' := fun e => by subst e; rw [ho] at k1; cases k1
        exact hM.sep n n' hne (by rw [old ho]; simp) k2 b hb k3
    · refine hM.sep n m hne ?_ ?_
      · cases ho : hp n with
        | none => exact absurd ho h1
        | some o => rw [old ho]; simp
      · cases ho : hp m with
        | none => exact absurd ho h2
        | some o => rw [old ho]; simp
  refine (hcall _ free w g args hB hfree hargs).mono ?_
  rintro e w' ⟨v, g', rfl, q1, q2, q3⟩
  refine ⟨v, g', rfl, ?_, q2, q3⟩
  have inside : ∀ {n}, hp2.app us n ≠ none → hp.app us n = hp2.app us n ∨ (hp n = none ∧ us n = none ∧ hp2 n ≠ none) := fun {n} hn => by
    simp only [Hp.app] at hn ⊢
    cases hu : us n with
    | some x => left; simp
    | none =>
      rw [hu] at hn
      simp only [Option.getD_none] at hn ⊢
      rcases hsub n with e | ⟨e, _⟩
      · exact .inl e
      · exact .inr ⟨e, by simp, hn⟩
  have named : ∀ {n}, hp2 n ≠ none → ∃ b, blk g n = some b ∧ blk g' n = some b := fun {n} hn => by
    cases ho : hp2 n with
    | none => exact absurd ho hn
    | some o =>
      obtain ⟨b, hb⟩ := (hM.objs n o ho).named
      refine ⟨b, hb, ?_⟩
      unfold blk at hb ⊢
      cases hv : g.val n with
      | none => rw [hv] at hb; cases hb
      | some x => rw [hv] at hb; rw [q2.val n x hv]; exact hb
  refine ⟨q1.os.trans hM.os, q1.tape.trans hM.tape, q1.output.trans hM.output, Nat.le_trans hM.size q1.size, fun b hb => ?_, q1.tight, q1.free, q1.tab, fun n o ho => ?_, fun n m hne h1 h2 => ?_⟩
  · obtain ⟨k1, k2, k3⟩ := hM.kept b hb
    obtain ⟨_, j2, j3⟩ := q1.kept b (.inl hb)
    exact ⟨k1, j2.trans k2, j3.trans k3⟩
  · rcases inside (n := n) (by rw [ho]; simp) with e | ⟨k1, k2, k3⟩
    · rw [← e] at ho
      have := q1.objs n o ho
      exact this.reK fun b hb hk => (this.blk_lt hb).2.1 (.inl hk)
    · have ho2 : hp2 n = some o := by simpa [Hp.app, k2] using ho
      refine ((hM.objs n o ho2).keep q2 fun b hb => ?_)
      obtain ⟨_, j2, j3⟩ := q1.kept b (.inr ⟨n, k1, k3, hb⟩)
      exact ⟨j2, j3⟩
  · intro b hb hb2
    rcases inside h1 with e1 | ⟨k1, k2, k3⟩
    · rcases inside h2 with e2 | ⟨l1, l2, l3⟩
      · exact q1.sep n m hne (by rw [e1]; exact h1) (by rw [e2]; exact h2) b hb hb2
      · obtain ⟨b', j1, j2⟩ := named l3
        rw [hb2] at j2
        cases j2
        have := q1.blk_lt (n := n) (by rw [e1]; exact h1) hb
        exact this.2.1 (.inr ⟨m, l1, l3, j1⟩)
    · obtain ⟨b', j1, j2⟩ := named k3
      rw [hb] at j2
      cases j2
      rcases inside h2 with e2 | ⟨l1, l2, l3⟩
      · have := q1.blk_lt (n := m) (by rw [e2]; exact h2) hb2
        exact this.2.1 (.inr ⟨n, k1, k3, j1⟩)
      · obtain ⟨b'', j3, j4⟩ := named l3
        rw [hb2] at j4
        cases j4
        exact hM.sep n m hne k3 l3 b j1 j3

section
variable {P : Program} {CR : CallRel} {tb : Nat → Option (List D)} {ev ev' : Operand → Option D}

theorem opH_congr {op : Op} {hp : Hp} {nm : Nm} (h : ∀ x ∈ op.operands.toList, ev x = ev' x) : opH P ev hp nm op = opH P ev' hp nm op := by
  cases op with
  | alloc t => rfl
  | box t x => simp only [opH, h x (by simp [Op.operands])]
  | load t x => simp only [opH, h x (by simp [Op.operands]), opP_congr (P := P) h]
  | store t x y => simp only [opH, h x (by simp [Op.operands]), h y (by simp [Op.operands])]
  | buildSlice t n ps =>
    have : partsD ev ps.toList = partsD ev' ps.toList := partsD_congr (fun x hx => h x (by simpa [Op.operands] using hx))
    simp only [opH, this]
  | makeSlice t x y => simp only [opH, h x (by simp [Op.operands]), h y (by simp [Op.operands])]
  | makeMap t r =>
    cases r with
    | none => rfl
    | some x => simp only [opH, h x (by simp [Op.operands])]
  | slice t x lo hi mx =>
    simp only [opH, h x (by simp [Op.operands]), optD_congr (x := lo) (fun y hy => h y (by simp [Op.operands, hy])), optD_congr (x := hi) (fun y hy => h y (by simp [Op.operands, hy])), optD_congr (x := mx) (fun y hy => h y (by simp [Op.operands, hy]))]
  | indexAddr t x y => simp only [opH, h x (by simp [Op.operands]), h y (by simp [Op.operands])]
  | lookup t x y c => simp only [opH, h x (by simp [Op.operands]), h y (by simp [Op.operands])]
  | mapUpdate t x y z => simp only [opH, h x (by simp [Op.operands]), h y (by simp [Op.operands]), h z (by simp [Op.operands])]
  | mapEntry t x y => simp only [opH, h x (by simp [Op.operands]), h y (by simp [Op.operands])]
  | entryStore t x y z => simp only [opH, h x (by simp [Op.operands]), h y (by simp [Op.operands]), h z (by simp [Op.operands])]
  | range t x => simp only [opH, h x (by simp [Op.operands])]
  | next x s =>
    cases s with
    | true => simp only [opH, opP_congr (P := P) h]
    | false => simp only [opH, h x (by simp [Op.operands])]
  | entry x => simp only [opH, h x (by simp [Op.operands])]
  | convert s d x => simp only [opH, h x (by simp [Op.operands])]
  | binOp op t x y yt => simp only [opH, h x (by simp [Op.operands]), h y (by simp [Op.operands])]
  | call c =>
    have h' : ∀ x ∈ c.operands.toList, ev x = ev' x := h
    have ha : allD ev c.args.toList = allD ev' c.args.toList := allD_congr fun x hx => h' x (by simp [Call.operands]; exact .inr (by simpa using hx))
    simp only [opH, ha, callD_congr h']
  | _ => simp only [opH]; rw [opP_congr (P := P) h]

theorem lenH_local {hp hp' : Hp} {t : TypeId} {x d : D} {rd : List Nm} (h : lenH P hp t x = some (d, rd)) (hl : ∀ n ∈ rd, hp n = hp' n) : lenH P hp' t x = some (d, rd) := by
  unfold lenH at h ⊢
  split at h
  · exact h
  · exact h
  · rename_i m _
    have q : m ∈ rd := by
      split at h
      · cases h; simp
      · cases h
    rw [← hl m q]
    exact h
  · cases h

theorem builtinH_local {hp hp' : Hp} {nm : Nm} {b : Builtin} {ds : List D} {ts : List TypeId} {d : D} {us : Up} {rd : List Nm} (h : builtinH P hp nm b ds ts = some (d, us, rd)) (hl : ∀ n ∈ rd, hp n = hp' n) : builtinH P hp' nm b ds ts = some (d, us, rd) := by
  unfold builtinH at h ⊢
  split at h
  · exact appendD_local h hl
  · exact copyD_local h hl
  · exact clearD_local h hl
  · simp only [Option.map_eq_some_iff] at h ⊢
    obtain ⟨⟨us', rd'⟩, hq, heq⟩ := h
    cases heq
    exact ⟨(us', rd'), deleteD_local hq hl, rfl⟩
  · simp only [Option.map_eq_some_iff] at h ⊢
    obtain ⟨⟨d', rd'⟩, hq, heq⟩ := h
    cases heq
    exact ⟨(d', rd'), lenH_local hq hl, rfl⟩
  · exact h
  · cases h

theorem opH_local {hp hp' : Hp} {nm : Nm} {op : Op} {d : D} {us : Up} {rd : List Nm} (h : opH P ev hp nm op = some (d, us, rd)) (hl : ∀ n ∈ rd, hp n = hp' n) : opH P ev hp' nm op = some (d, us, rd) := by
  cases op with
  | load t x =>
    simp only [opH] at h ⊢
    split at h
    · rename_i n off hx
      have q : n ∈ rd := by
        split at h
        · split at h
          · cases h; simp
          · cases h
        · cases h
      rw [← hl n q]
      exact h
    · exact h
  | store t x y =>
    simp only [opH] at h ⊢
    split at h
    · rename_i n off dy hx hy
      have q : n ∈ rd := by
        split at h
        · split at h
          · cases h; simp
          · cases h
        · cases h
      rw [← hl n q]
      exact h
    · cases h
  | slice t x lo hi mx =>
    simp only [opH] at h ⊢
    split at h
    · split at h
      · rename_i hpl
        simp only [hpl, if_true]
        split at h
        · rename_i hs
          cases h
          simp only [sliceH_local hs hl]
        · cases h
      · rename_i hpl
        simp only [hpl]
        exact h
    · cases h
  | lookup t x y c =>
    simp only [opH] at h ⊢
    split at h
    · split at h
      · rename_i hs
        cases h
        simp only [lookupD_local hs hl]
      · cases h
    · cases h
  | mapUpdate t x y z =>
    simp only [opH] at h ⊢
    split at h
    · split at h
      · rename_i hs
        cases h
        simp only [mapUpdateD_local hs hl]
      · cases h
    · cases h
  | mapEntry t x y =>
    simp only [opH] at h ⊢
    split at h
    · exact mapEntryD_local h hl
    · cases h
  | entryStore t x y z =>
    simp only [opH] at h ⊢
    split at h
    · split at h
      · rename_i hs
        cases h
        simp only [entryStoreD_local hs hl]
      · cases h
    · cases h
  | range t x =>
    simp only [opH] at h ⊢
    split at h
    · exact rangeD_local h hl
    · cases h
  | next x s =>
    cases s with
    | true => exact h
    | false =>
      simp only [opH] at h ⊢
      split at h
      · exact nextD_local h hl
      · cases h
  | entry x =>
    simp only [opH] at h ⊢
    split at h
    · split at h
      · rename_i hs
        cases h
        simp only [entryD_local hs hl]
      · cases h
    · cases h
  | convert s d' x =>
    simp only [opH] at h ⊢
    split at h
    · split at h
      · split at h
        · rename_i hb
          simp only [hb, if_true]
          split at h
          · rename_i hs
            have q := srcD_local (hp' := hp') hs (by
              split at h
              · cases h; exact hl
              · cases h)
            simp only [q]
            exact h
          · cases h
        · cases h
      · cases h
    · exact h
    · cases h
  | binOp op t x y yt =>
    simp only [opH] at h ⊢
    split at h
    · rename_i dx dy hx hy
      split at h
      · rename_i hs
        cases h
        have : binH P hp' op t dx dy = some (d, rd) := by
          unfold binH at hs ⊢
          split at hs
          · rename_i hn
            simp only [hn, if_true]
            split at hs
            · rename_i hi
              have q := isNilD_local (hp' := hp') hi (by
                split at hs
                · cases hs; exact hl
                · cases hs; exact hl
                · cases hs)
              simp only [q]
              exact hs
            · cases hs
          · rename_i hn
            simp only [hn]
            exact hs
        simp only [this]
      · cases h
    · cases h
  | call c =>
    simp only [opH] at h ⊢
    split at h
    · split at h
      · split at h
        · rename_i hlk
          simp only [hlk, if_true]
          exact builtinH_local h hl
        · rename_i hlk
          simp only [hlk]
          exact h
      · cases h
    · cases h
  | _ => exact h


def clearPt (u : Pt) : Prop := ∀ n, u n = none
/-- A change leaves what is looked at. -/
def avoid (u : Pt) : Rd → Prop
  | .of l => ∀ n ∈ l, u n = none
  | .but l => ∀ n, n ∉ l → u n = none

theorem app_clear {hp : Hp} {u : Pt} (h : clearPt u) : hp.app u = hp := by
  funext n
  simp [Hp.app, h n]

theorem app_comm {hp : Hp} {u v : Pt} (h : ∀ n, u n = none ∨ v n = none) : (hp.app u).app v = (hp.app v).app u := by
  funext n
  simp only [Hp.app]
  rcases h n with e | e <;> rw [e] <;> simp

theorem app_at {hp : Hp} {u : Pt} {n : Nm} (h : u n = none) : hp.app u n = hp n := by simp [Hp.app, h]

variable {ops : Array Oper} {G : Nat} {o : Oper} {env : Env} {hp : Hp} {cur cur' : Nat} {d : D} {us : Pt} {rd : Rd}

theorem ValH.put {dst : Option Tmp} {d' : D} (hd : ∀ t, dst = some t → t ∉ o.looksAt ops) : ValH P CR tb ops G o (putE env dst d') hp cur d us rd cur' ↔ ValH P CR tb ops G o env hp cur d us rd cur' := by
  have hc : ∀ x ∈ o.op.operands.toList, evE tb (putE env dst d') x = evE tb env x := fun x hx => evE_put fun t ht => tmp_of_looksAt (hd t ht) x hx
  unfold ValH
  rw [wantE_put hd, opH_congr hc]
  split
  · constructor
    · rintro (h | ⟨c, f, df, ds, tg, as, hid, h1, h2, h3, h4, ht, h5, h6⟩)
      · exact .inl h
      · refine .inr ⟨c, f, df, ds, tg, as, hid, h1, h2, ?_, ?_, ht, h5, h6⟩
        · rw [← hc f (by rw [h1]; simp [Op.operands, Call.operands, h2])]; exact h3
        · rw [← h4]; exact allD_congr fun x hx => (hc x (by rw [h1]; simp [Op.operands, Call.operands]; exact .inr (by simpa using hx))).symm
    · rintro (h | ⟨c, f, df, ds, tg, as, hid, h1, h2, h3, h4, ht, h5, h6⟩)
      · exact .inl h
      · refine .inr ⟨c, f, df, ds, tg, as, hid, h1, h2, ?_, ?_, ht, h5, h6⟩
        · rw [hc f (by rw [h1]; simp [Op.operands, Call.operands, h2])]; exact h3
        · rw [← h4]; exact allD_congr fun x hx => hc x (by rw [h1]; simp [Op.operands, Call.operands]; exact .inr (by simpa using hx))
  · exact Iff.rfl
  · exact Iff.rfl

theorem ValH.swap {hp' : Hp} (h : ValH P CR tb ops G o env hp cur d us rd cur') (hr : match rd with | .but l => ∀ n, n ∉ l → hp n = hp' n | .of l => ∀ n ∈ l, hp n = hp' n) : ValH P CR tb ops G o env hp' cur d us rd cur' := by
  unfold ValH at h ⊢
  split at h
  · rcases h with ⟨ul, rl, h1, h2, rfl, h4⟩ | ⟨c, f, df, ds, tg, as, hid, h1, h2, h3, h4, ht, h5, h6, rfl⟩
    · exact .inl ⟨ul, rl, opH_local h1 hr, h2, rfl, h4⟩
    · refine .inr ⟨c, f, df, ds, tg, as, hid, h1, h2, h3, h4, ht, ?_, h6, rfl⟩
      have : hide hid hp' = hide hid hp := by
        funext n
        simp only [hide]
        by_cases hn : n ∈ hid
        · simp [hn]
        · simp [hn, hr n hn]
      rw [this]; exact h5
  · exact h
  · exact h

theorem ValH.app {u : Pt} (ha : avoid u rd) : ValH P CR tb ops G o env (hp.app u) cur d us rd cur' ↔ ValH P CR tb ops G o env hp cur d us rd cur' := by
  constructor
  · intro h
    refine h.swap ?_
    cases rd with
    | but l => exact fun n hn => app_at (ha n hn)
    | of l => exact fun n hn => app_at (ha n hn)
  · intro h
    refine h.swap ?_
    cases rd with
    | but l => exact fun n hn => (app_at (ha n hn)).symm
    | of l => exact fun n hn => (app_at (ha n hn)).symm

/-- What is no call leaves the counter. -/
theorem ValH.cur_of {l : List Nm} (h : ValH P CR tb ops G o env hp cur d us (.of l) cur') : cur' = cur ∧ ∀ c, ValH P CR tb ops G o env hp c d us (.of l) c := by
  unfold ValH at h ⊢
  split at h
  · rcases h with ⟨ul, rl, h1, h2, h3, h4⟩ | ⟨c, f, df, ds, tg, as, hid, h1, h2, h3, h4, ht, h5, h7, h6⟩
    · exact ⟨h4, fun c => .inl ⟨ul, rl, h1, h2, h3, rfl⟩⟩
    · cases h6
  · exact ⟨h.2.2.2, fun c => ⟨h.1, h.2.1, h.2.2.1, rfl⟩⟩
  · cases h

abbrev Foot := Pt × Rd

/-- Two operations that may come in either order. -/
def okF (a b : Foot) : Prop := avoid a.1 b.2 ∧ avoid b.1 a.2 ∧ (∀ n, a.1 n = none ∨ b.1 n = none) ∧ (a.2.isCall = false ∨ b.2.isCall = false)

theorem okF.symm {a b : Foot} (h : okF a b) : okF b a := ⟨h.2.1, h.1, fun n => (h.2.2.1 n).symm, h.2.2.2.symm⟩

/-- Does j wait for i? -/
def ancB (md : Region.Mode) (ops : Array Oper) : Nat → Nat → Nat → Bool
  | 0, _, _ => false
  | f + 1, i, j => match ops[j]? with
    | none => false
    | some o => o.after.toList.any fun e => Region.binds md e && (e.on == i || ancB md ops f i e.on)

def Closed (md : Region.Mode) (ops : Array Oper) (listed : Array Bool) : Prop :=
  ∀ k o, ops[k]? = some o → listed.getD k false = true → ∀ e ∈ o.after, Region.binds md e = true → listed.getD e.on false = true

theorem anc_listed {md : Region.Mode} {ops : Array Oper} {listed : Array Bool} {i : Nat} (hc : Closed md ops listed) : ∀ (f j : Nat) (o : Oper), ops[j]? = some o →
    (∀ e ∈ o.after, Region.binds md e = true → listed.getD e.on false = true) → ancB md ops f i j = true → listed.getD i false = true
  | 0, _, _, _, _, h => by simp [ancB] at h
  | f + 1, j, o, ho, hp, h => by
    simp only [ancB, ho, List.any_eq_true, Bool.and_eq_true, Bool.or_eq_true, beq_iff_eq] at h
    obtain ⟨e, he, hb, h⟩ := h
    have he' : e ∈ o.after := by simpa using he
    rcases h with rfl | h
    · exact hp e he' hb
    · cases ho' : ops[e.on]? with
      | none =>
        cases f with
        | zero => simp [ancB] at h
        | succ f => simp [ancB, ho'] at h
      | some o' => exact anc_listed hc f e.on o' ho' (hc e.on o' ho' (hp e he' hb)) h

/-- Whatever order is picked from here on. F: what each operation changes and looks at. -/
def anyH (P : Program) (CR : CallRel) (tb : Nat → Option (List D)) (md : Region.Mode) (ops : Array Oper) (G : Nat) (F : Nat → Foot) (K : Env → Hp → Nat → Prop) : Nat → Array Bool → Env → Hp → Nat → Prop
  | 0, listed, env, hp, cur => Region.ready md ops listed = [] ∧ K env hp cur
  | fuel + 1, listed, env, hp, cur =>
    (Region.ready md ops listed = [] → K env hp cur) ∧
    ∀ i ∈ Region.ready md ops listed, ∃ o d us rd cur', ops[i]? = some o ∧ ValH P CR tb ops G o env hp cur d us rd cur' ∧ F i = (us, rd) ∧
      anyH P CR tb md ops G F K fuel (listed.setIfInBounds i true) (putE env o.dst d) (hp.app us) cur'

theorem getD_false_of_true {listed : Array Bool} {i : Nat} (h : listed.getD i true = false) : listed.getD i false = false := by
  rcases Nat.lt_or_ge i listed.size with h' | h'
  · simp [h'] at h ⊢; exact h
  · simp [Array.getElem?_eq_none h'] at h

theorem Closed.set {md : Region.Mode} {ops : Array Oper} {listed : Array Bool} (hc : Closed md ops listed) {j : Nat} (hj : j ∈ Region.ready md ops listed) : Closed md ops (listed.setIfInBounds j true) := by
  obtain ⟨hjun, oj, hoj, hall⟩ := mem_ready.1 hj
  have mono : ∀ k, listed.getD k false = true → (listed.setIfInBounds j true).getD k false = true := by
    intro k hk
    by_cases hkj : j = k
    · subst hkj
      rw [getD_false_of_true hjun] at hk
      cases hk
    · rw [getD_set_ne false hkj]; exact hk
  intro k o ho hk e he hb
  by_cases hkj : j = k
  · subst hkj
    rw [hoj] at ho
    cases ho
    exact mono _ (hall e he hb)
  · rw [getD_set_ne false hkj] at hk
    exact mono _ (hc k o ho hk e he hb)

theorem anyH_first {md : Region.Mode} {F : Nat → Foot} {K : Env → Hp → Nat → Prop} {i : Nat} {oi : Oper} {di : D} {ui : Pt} {ri : Rd} (hi : ops[i]? = some oi) (hFi : F i = (ui, ri)) (n : Nat)
    (hF : ∀ j, j ≠ i → ancB md ops n i j = true ∨ ancB md ops n j i = true ∨ okF (F i) (F j)) :
    ∀ (fuel : Nat) (listed : Array Bool) (env : Env) (hp : Hp) (cur ci : Nat), Closed md ops listed →
      (∀ j oj, ops[j]? = some oj → j ≠ i → listed.getD j true = false → (∀ e ∈ oj.after, Region.binds md e = true → e.on ≠ i) → oi.apart ops oj = true) →
      i ∈ Region.ready md ops listed → ValH P CR tb ops G oi env hp cur di ui ri ci →
      anyH P CR tb md ops G F K fuel (listed.setIfInBounds i true) (putE env oi.dst di) (hp.app ui) ci → anyH P CR tb md ops G F K (fuel + 1) listed env hp cur := by
  intro fuel
  induction fuel with
  | zero =>
    intro listed env hp cur ci _ _ hr hy H
    refine ⟨fun h => (by rw [h] at hr; cases hr), fun j hj => ?_⟩
    by_cases hji : j = i
    · subst hji; exact ⟨oi, di, ui, ri, ci, hi, hy, hFi, H⟩
    · have := ready_mono hj hji
      rw [H.1] at this
      cases this
  | succ fuel ih =>
    intro listed env hp cur ci hcl hfree hr hy H
    refine ⟨fun h => (by rw [h] at hr; cases hr), fun j hj => ?_⟩
    by_cases hji : j = i
    · subst hji; exact ⟨oi, di, ui, ri, ci, hi, hy, hFi, H⟩
    · obtain ⟨oj, dj, uj, rj, cj, hoj, hdj, hFj, h1⟩ := H.2 j (ready_mono hj hji)
      obtain ⟨hjun, oj', hoj', hall⟩ := mem_ready.1 hj
      rw [hoj] at hoj'
      cases hoj'
      obtain ⟨hiun, oi', hoi', hali⟩ := mem_ready.1 hr
      rw [hi] at hoi'
      cases hoi'
      have hi0 := getD_false_of_true hiun
      have hj0 := getD_false_of_true hjun
      have hnot : ∀ e ∈ oj.after, Region.binds md e = true → e.on ≠ i := fun e he hb heq => by
        have h1 := hall e he hb
        rw [heq] at h1
        rw [hi0] at h1
        cases h1
      have hok : okF (F i) (F j) := by
        rcases hF j hji with h | h | h
        · have := anc_listed hcl n j oj hoj hall h
          rw [hi0] at this; cases this
        · have := anc_listed hcl n i oi hi hali h
          rw [hj0] at this; cases this
        · exact h
      rw [hFi, hFj] at hok
      obtain ⟨k1, k2, k3, k4⟩ := hok
      simp only at k1 k2 k3 k4
      obtain ⟨a1, a2, a3⟩ := Oper.apart_spec (hfree j oj hoj hji hjun hnot)
      rw [ValH.put a1, ValH.app k1] at hdj
      have hfree' : ∀ k ok, ops[k]? = some ok → k ≠ i → (listed.setIfInBounds j true).getD k true = false →
          (∀ e ∈ ok.after, Region.binds md e = true → e.on ≠ i) → oi.apart ops ok = true := fun k ok hk hki hun hno => by
        refine hfree k ok hk hki ?_ hno
        by_cases hjk : j = k
        · subst hjk; exact hjun
        · rw [getD_set_ne true hjk] at hun; exact hun
      have key : ∃ c1, ValH P CR tb ops G oj env hp cur dj uj rj c1 ∧ ValH P CR tb ops G oi env hp c1 di ui ri cj := by
        cases ri with
        | of l =>
          obtain ⟨e1, e2⟩ := hy.cur_of
          subst e1
          exact ⟨cj, hdj, e2 cj⟩
        | but l' =>
          cases rj with
          | but l => simp [Rd.isCall] at k4
          | of l =>
            obtain ⟨e1, e2⟩ := hdj.cur_of
            subst e1
            exact ⟨cur, e2 cur, hy⟩
      obtain ⟨c1, v1, v2⟩ := key
      refine ⟨oj, dj, uj, rj, c1, hoj, v1, hFj, ?_⟩
      refine ih (listed.setIfInBounds j true) (putE env oj.dst dj) (hp.app uj) c1 cj (hcl.set hj) hfree' (ready_mono hr (Ne.symm hji)) (by rw [ValH.put a3, ValH.app k2]; exact v2) ?_
      rw [Array.setIfInBounds_comm _ _ hji, ← putE_comm a2, ← app_comm k3]
      exact h1

/-- The run in the order of the text. -/
def RunH (P : Program) (CR : CallRel) (tb : Nat → Option (List D)) (ops : Array Oper) (G : Nat) : List Oper → Env → Hp → Nat → Env → Hp → Nat → List Foot → Prop
  | [], env, hp, cur, env', hp', cur', fs => env = env' ∧ hp = hp' ∧ cur = cur' ∧ fs = []
  | o :: rest, env, hp, cur, env', hp', cur', fs => ∃ d us rd c1 fs1, ValH P CR tb ops G o env hp cur d us rd c1 ∧ fs = (us, rd) :: fs1 ∧ RunH P CR tb ops G rest (putE env o.dst d) (hp.app us) c1 env' hp' cur' fs1

theorem anyH_lex {md : Region.Mode} {F : Nat → Foot} {K : Env → Hp → Nat → Prop} (n : Nat) (hF : ∀ i j, j ≠ i → ancB md ops n i j = true ∨ ancB md ops n j i = true ∨ okF (F i) (F j)) :
    ∀ (l : List Oper) (k : Nat) (listed : Array Bool) (env env' : Env) (hp hp' : Hp) (cur cur' : Nat) (fs : List Foot), (∀ j, l[j]? = ops[k + j]?) →
    Region.lexFrom md ops l.length k listed = true → Closed md ops listed → RunH P CR tb ops G l env hp cur env' hp' cur' fs → (∀ j f, fs[j]? = some f → F (k + j) = f) → K env' hp' cur' → anyH P CR tb md ops G F K l.length listed env hp cur
  | [], _, _, env, env', hp, hp', cur, cur', fs, _, hB, _, h, _, hK => by
    simp only [RunH] at h
    obtain ⟨rfl, rfl, rfl, rfl⟩ := h
    exact ⟨by simpa [Region.lexFrom] using hB, hK⟩
  | o :: l, k, listed, env, env', hp, hp', cur, cur', fs, hl, hB, hcl, h, hfs, hK => by
    have h0 : ops[k]? = some o := by simpa using (hl 0).symm
    simp only [List.length_cons, Region.lexFrom, Bool.and_eq_true] at hB
    obtain ⟨⟨hr, hf⟩, hB'⟩ := hB
    have hr' : k ∈ Region.ready md ops listed := by simpa using hr
    simp only [RunH] at h
    obtain ⟨d, us, rd, c1, fs1, hv, rfl, hrest⟩ := h
    have hFk : F k = (us, rd) := by simpa using hfs 0 (us, rd) (by simp)
    exact anyH_first h0 hFk n (fun j hj => hF k j hj) l.length listed env hp cur c1 hcl (Region.free_spec h0 hf) hr' hv
      (anyH_lex n hF l (k + 1) _ _ env' _ hp' c1 cur' fs1 (fun j => by have := hl (j + 1); simpa [Nat.add_assoc, Nat.add_comm 1 j] using this) hB' (hcl.set hr') hrest
        (fun j f hj => by have := hfs (j + 1) f (by simpa using hj); simpa [Nat.add_assoc, Nat.add_comm 1 j] using this) hK)

end
end Go.Ab
