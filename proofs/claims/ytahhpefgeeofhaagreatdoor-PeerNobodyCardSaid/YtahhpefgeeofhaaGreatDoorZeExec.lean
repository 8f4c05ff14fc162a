/-
  A run of code over plain data and things by name, and that the machine runs so.
-/
import Derived.Test.YtahhpefgeeofhaaGreatDoorZeTrie
import Derived.LoopN
set_option linter.unusedSimpArgs false
set_option linter.unusedVariables false
namespace Go.Ab

/-! ### Working out what is laid down -/

def forceN {α : Type} (n : Nat) (k : Nat → α) : α := match n with | 0 => k 0 | m + 1 => k (m + 1)
theorem forceN_eq {α : Type} (n : Nat) (k : Nat → α) : forceN n k = k n := by cases n <;> rfl

def forceV {α : Type} (v : Value) (k : Value → α) : α := match v with
  | .int q (.ofNat n) => forceN n fun n => k (.int q (.ofNat n))
  | .int q (.negSucc n) => forceN n fun n => k (.int q (.negSucc n))
  | .bool true => k (.bool true)
  | .bool false => k (.bool false)
  | v => k v
theorem forceV_eq {α : Type} (v : Value) (k : Value → α) : forceV v k = k v := by
  unfold forceV
  split <;> simp only [forceN_eq]

mutual
def forceD {α : Type} : D → (D → α) → α
  | .v x, k => forceV x fun x => k (.v x)
  | .agg cs, k => forceL cs fun cs => k (.agg cs)
  | .tup cs, k => forceL cs fun cs => k (.tup cs)
  | .ptr o off, k => forceN o fun o => forceN off fun off => k (.ptr o off)
  | .sl w o off len cap, k => forceN w fun w => forceN o fun o => forceN off fun off => forceN len fun len => (match cap with
      | none => k (.sl w o off len none)
      | some c => forceN c fun c => k (.sl w o off len (some c)))
  | .own o, k => forceN o fun o => k (.own o)
  | .func f a b, k => forceL a fun a => forceL b fun b => k (.func f a b)
  | d, k => k d
def forceL {α : Type} : List D → (List D → α) → α
  | [], k => k []
  | d :: ds, k => forceD d fun d => forceL ds fun ds => k (d :: ds)
end

mutual
theorem forceD_eq {α : Type} : ∀ (d : D) (k : D → α), forceD d k = k d
  | .v x, k => by simp only [forceD, forceV_eq]
  | .agg cs, k => by simp only [forceD, forceL_eq cs]
  | .tup cs, k => by simp only [forceD, forceL_eq cs]
  | .ptr o off, k => by simp only [forceD, forceN_eq]
  | .sl w o off len cap, k => by cases cap <;> simp only [forceD, forceN_eq]
  | .own o, k => by simp only [forceD, forceN_eq]
  | .func f a b, k => by simp only [forceD, forceL_eq a, forceL_eq b]
  | .list _ _, k => by simp only [forceD]
  | .full _ _, k => by simp only [forceD]
  | .elem _ _, k => by simp only [forceD]
  | .yld _, k => by simp only [forceD]
  | .opq _, k => by simp only [forceD]
theorem forceL_eq {α : Type} : ∀ (ds : List D) (k : List D → α), forceL ds k = k ds
  | [], k => by simp only [forceL]
  | d :: ds, k => by simp only [forceL, forceD_eq d, forceL_eq ds]
end

def forceM {α : Type} : List MEnt → (List MEnt → α) → α
  | [], k => k []
  | e :: es, k => forceD e.key fun a => forceD e.val fun b => forceN e.born fun n => forceM es fun es => k (⟨a, b, n⟩ :: es)
theorem forceM_eq {α : Type} : ∀ (es : List MEnt) (k : List MEnt → α), forceM es k = k es
  | [], k => rfl
  | e :: es, k => by simp only [forceM, forceD_eq, forceN_eq, forceM_eq es]

def forceNs {α : Type} : List Nat → (List Nat → α) → α
  | [], k => k []
  | n :: ns, k => forceN n fun n => forceNs ns fun ns => k (n :: ns)
theorem forceNs_eq {α : Type} : ∀ (ns : List Nat) (k : List Nat → α), forceNs ns k = k ns
  | [], k => rfl
  | n :: ns, k => by simp only [forceNs, forceN_eq, forceNs_eq ns]

def forceOb {α : Type} : Option Ob → (Option Ob → α) → α
  | none, k => k none
  | some (.cells cs), k => forceL cs fun cs => k (some (.cells cs))
  | some (.map es c), k => forceM es fun es => forceN c fun c => k (some (.map es c))
  | some (.iter m a s b), k => forceN a fun a => forceNs s fun s => forceN b fun b => k (some (.iter m a s b))
  | o, k => k o
theorem forceOb_eq {α : Type} : ∀ (o : Option Ob) (k : Option Ob → α), forceOb o k = k o
  | none, k => rfl
  | some (.cells cs), k => by simp only [forceOb, forceL_eq]
  | some (.map es c), k => by simp only [forceOb, forceM_eq, forceN_eq]
  | some (.iter m a s b), k => by simp only [forceOb, forceN_eq, forceNs_eq]
  | some (.loop _ _ _ _ _ _), k => rfl
  | some .dfr, k => rfl

def forceUp {α : Type} : Up → (Up → α) → α
  | [], k => k []
  | (n, o) :: us, k => forceN n fun n => forceOb o fun o => forceUp us fun us => k ((n, o) :: us)
theorem forceUp_eq {α : Type} : ∀ (us : Up) (k : Up → α), forceUp us k = k us
  | [], k => rfl
  | (n, o) :: us, k => by simp only [forceUp, forceN_eq, forceOb_eq, forceUp_eq us]

/-! ### One operation, a region -/

abbrev CallT := Tgt → List D → Tr → Nat → Option (D × Tr × Nat × List Nm)
abbrev FootX := List Nm × Rd

/-- What a call has changed: the names in wl, as they are in t. -/
def ptOf (wl : List Nm) (t : Tr) : Pt := fun n => if n ∈ wl then some (t.get n) else none

def CTOK (P : Program) (tb : Nat → Option (List D)) (CT : CallT) : Prop :=
  ∀ f ds t cur d t' cur' wl, CT f ds t cur = some (d, t', cur', wl) → CallOK P tb f ds t.get cur d (ptOf wl t') cur' ∧ ∀ n, n ∉ wl → t'.get n = t.get n

def CRof (CT : CallT) : CallRel := fun f ds hp cur d us cur' => ∃ t t' wl, hp = t.get ∧ CT f ds t cur = some (d, t', cur', wl) ∧ us = ptOf wl t'

def callOf (tb : Nat → Option (List D)) (env : Env) (op : Op) : Option (Tgt × List D) :=
  match op with
  | .call c => (match c.callee with
    | .value f => (match evE tb env f, allD (evE tb env) c.args.toList with
      | some df, some ds => tgtOf df ds
      | _, _ => none)
    | _ => none)
  | _ => none

/-- The names of hid, as they are in t. -/
def backUp (t : Tr) : List Nm → Up
  | [] => []
  | n :: ns => (n, t.get n) :: backUp t ns
def goneUp : List Nm → Up
  | [] => []
  | n :: ns => (n, none) :: goneUp ns

/-- May these names be hidden from a call that has written wl? -/
def hidOK (gn : Nat) (hid wl : List Nm) : Bool := hid.all fun n => Nat.blt n ((gn + 1) * KB) && Nat.blt (n + 1) (2 ^ 64) && !wl.contains n

def stepX (P : Program) (CT : CallT) (tb : Nat → Option (List D)) (hid : List Nm) (ops : Array Oper) (gn : Nat) (o : Oper) (env : Env) (t : Tr) (cur : Nat) : Option (D × Tr × Nat × List Nm × Rd) :=
  match wantE ops env o with
  | some true => (match callOf tb env o.op with
    | some (k, ds) => (match CT k ds (t.ups (goneUp hid)) cur with
      | some (d, t', cur', wl) => if hidOK gn hid wl = true then some (d, t'.ups (backUp t hid), cur', wl, .but hid) else none
      | none => none)
    | none => (match opH P (evE tb env) t.get (nameH gn o) o.op with
      | some (d, ul, rl) => if smallUp ul = true then forceUp ul fun ul => some (d, t.ups ul, cur, ul.map (·.1), .of rl) else none
      | none => none))
  | some false => some (D.undef, t, cur, [], .of [])
  | none => none

def runX (P : Program) (CT : CallT) (tb : Nat → Option (List D)) (hid : Nat → List Nm) (ops : Array Oper) (gn : Nat) : Nat → List Oper → Env → Tr → Nat → List Nm → Option (Env × Tr × Nat × List Nm × List FootX)
  | _, [], env, t, cur, log => some (env, t, cur, log, [])
  | i, o :: rest, env, t, cur, log => match stepX P CT tb (hid i) ops gn o env t cur with
    | some (d, t', cur', wl, rd) => forceD d fun d => (match runX P CT tb hid ops gn (i + 1) rest (putE env o.dst d) t' cur' (wl ++ log) with
      | some (e, t2, c2, l2, fs) => some (e, t2, c2, l2, (wl, rd) :: fs)
      | none => none)
    | none => none

def makesAt (ops : Array Oper) (i : Nat) : Option Nat := match ops[i]? with
  | some o => if makesH o.op = true then some (o.dst.getD 0) else none
  | none => none

/-- The things that a region makes and that operation i need not know of. -/
def hidFrom (ops : Array Oper) (gn i : Nat) : Nat → Nat → List Nm
  | _, 0 => []
  | j, k + 1 => match makesAt ops j with
    | some d => if j == i || ancB .any ops ops.size j i then hidFrom ops gn i (j + 1) k else (gn * KB + d) :: hidFrom ops gn i (j + 1) k
    | none => hidFrom ops gn i (j + 1) k

def avoidX (wl : List Nm) : Rd → Bool
  | .of l => l.all fun n => !wl.contains n
  | .but l => wl.all fun n => l.contains n

def okX (a b : FootX) : Bool := avoidX a.1 b.2 && avoidX b.1 a.2 && (a.1.all fun n => !b.1.contains n) && (!a.2.isCall || !b.2.isCall)

def restOK (ops : Array Oper) (i : Nat) (f : FootX) : Nat → List FootX → Bool
  | _, [] => true
  | j, g :: gs => (okX f g || ancB .any ops ops.size i j || ancB .any ops ops.size j i) && restOK ops i f (j + 1) gs

def pairsFrom (ops : Array Oper) : Nat → List FootX → Bool
  | _, [] => true
  | i, f :: fs => restOK ops i f (i + 1) fs && pairsFrom ops (i + 1) fs

section
variable {P : Program} {CT : CallT} {tb : Nat → Option (List D)} {ops : Array Oper} {gn : Nat}

theorem callOf_spec {env : Env} {op : Op} {k : Tgt} {ds : List D} (h : callOf tb env op = some (k, ds)) :
    ∃ c f df ds', op = .call c ∧ c.callee = .value f ∧ evE tb env f = some df ∧ allD (evE tb env) c.args.toList = some ds' ∧ tgtOf df ds' = some (k, ds) := by
  unfold callOf at h
  split at h
  · rename_i c
    split at h
    · rename_i f hc
      split at h
      · rename_i df ds' h1 h2
        exact ⟨c, f, df, ds', rfl, hc, h1, h2, h⟩
      · cases h
    · cases h
  · cases h

theorem pt_of_map : ∀ {us : Up} {n : Nm}, n ∉ us.map (·.1) → Up.pt us n = none
  | [], n, _ => rfl
  | (m, o) :: us, n, h => by
    simp only [List.map_cons, List.mem_cons, not_or] at h
    simp only [Up.pt, pt_of_map h.2, h.1, if_false]

theorem back_pt {t : Tr} {n : Nm} : ∀ {l : List Nm}, Up.pt (backUp t l) n = if n ∈ l then some (t.get n) else none
  | [] => by simp [backUp, Up.pt]
  | m :: l => by
    simp only [backUp, Up.pt, back_pt (l := l), List.mem_cons]
    by_cases h1 : n ∈ l
    · simp [h1]
    · by_cases h2 : n = m
      · subst h2; simp [h1]
      · simp [h1, h2]

theorem gone_pt {n : Nm} : ∀ {l : List Nm}, Up.pt (goneUp l) n = if n ∈ l then some none else none
  | [] => by simp [goneUp, Up.pt]
  | m :: l => by
    simp only [goneUp, Up.pt, gone_pt (l := l), List.mem_cons]
    by_cases h1 : n ∈ l
    · simp [h1]
    · by_cases h2 : n = m
      · subst h2; simp [h1]
      · simp [h1, h2]

theorem small_back {t : Tr} : ∀ {l : List Nm}, (∀ n ∈ l, Nat.blt (n + 1) (2 ^ 64) = true) → smallUp (backUp t l) = true
  | [], _ => rfl
  | m :: l, h => by
    simp only [backUp, smallUp, Bool.and_eq_true]
    exact ⟨h m (by simp), small_back fun n hn => h n (by simp [hn])⟩

theorem small_gone : ∀ {l : List Nm}, (∀ n ∈ l, Nat.blt (n + 1) (2 ^ 64) = true) → smallUp (goneUp l) = true
  | [], _ => rfl
  | m :: l, h => by
    simp only [goneUp, smallUp, Bool.and_eq_true]
    exact ⟨h m (by simp), small_gone fun n hn => h n (by simp [hn])⟩

theorem stepX_sound (hCT : CTOK P tb CT) {hid : List Nm} {o : Oper} {env : Env} {t t' : Tr} {cur cur' : Nat} {d : D} {wl : List Nm} {rd : Rd} (h : stepX P CT tb hid ops gn o env t cur = some (d, t', cur', wl, rd)) :
    ∃ us, ValH P (CRof CT) tb ops gn o env t.get cur d us rd cur' ∧ Hp.app t.get us = t'.get ∧ ∀ n, n ∉ wl → us n = none := by
  unfold stepX at h
  split at h
  · rename_i hw
    split at h
    · rename_i k ds hc
      obtain ⟨c, f, df, ds', h1, h2, h3, h4, ht⟩ := callOf_spec hc
      split at h
      · rename_i d' t2 c2 wl' hct
        split at h
        · rename_i hok
          cases h
          have hall : ∀ n ∈ hid, (n < (gn + 1) * KB) ∧ Nat.blt (n + 1) (2 ^ 64) = true ∧ n ∉ wl := fun n hn => by
            have := List.all_eq_true.1 hok n hn
            simp only [Bool.and_eq_true, Bool.not_eq_true'] at this
            refine ⟨by simpa using this.1.1, this.1.2, fun hm => ?_⟩
            have h5 := this.2
            simp at h5
            exact h5 hm
          have hg : (t.ups (goneUp hid)).get = hide hid t.get := by
            rw [Tr.get_ups _ _ (small_gone fun n hn => (hall n hn).2.1)]
            funext n
            simp only [Hp.app, gone_pt, hide]
            by_cases hn : n ∈ hid <;> simp [hn]
          have hb : (t2.ups (backUp t hid)).get = fun n => if n ∈ hid then t.get n else t2.get n := by
            rw [Tr.get_ups _ _ (small_back fun n hn => (hall n hn).2.1)]
            funext n
            simp only [Hp.app, back_pt]
            by_cases hn : n ∈ hid <;> simp [hn]
          refine ⟨ptOf wl t2, ?_, ?_, ?_⟩
          · unfold ValH
            rw [hw]
            refine .inr ⟨c, f, df, ds', k, ds, hid, h1, h2, h3, h4, ht, ⟨t.ups (goneUp hid), t2, wl, hg.symm, hct, rfl⟩, fun n hn => ⟨?_, (hall n hn).1⟩, rfl⟩
            simp [ptOf, (hall n hn).2.2]
          · rw [hb]
            funext n
            simp only [Hp.app, ptOf]
            by_cases hn : n ∈ hid
            · simp [hn, (hall n hn).2.2]
            · by_cases hm : n ∈ wl
              · simp [hn, hm]
              · have := (hCT _ _ _ _ _ _ _ _ hct).2 n hm
                rw [hg] at this
                simp [hn, hm, this, hide]
          · intro n hn
            simp [ptOf, hn]
        · cases h
      · cases h
    · split at h
      · rename_i d' ul rl hop
        split at h
        · rename_i hs
          rw [forceUp_eq] at h
          cases h
          refine ⟨ul.pt, ?_, (Tr.get_ups ul t hs).symm, fun n hn => pt_of_map hn⟩
          unfold ValH
          rw [hw]
          exact .inl ⟨ul, rl, hop, rfl, rfl, rfl⟩
        · cases h
      · cases h
  · rename_i hw
    cases h
    refine ⟨Up.pt [], ?_, app_nil, fun n _ => rfl⟩
    unfold ValH
    rw [hw]
    exact ⟨rfl, rfl, rfl, rfl⟩
  · cases h

/-- What is noted of an operation covers what it does. -/
def Covers (x : FootX) (f : Foot) : Prop := x.2 = f.2 ∧ ∀ n, n ∉ x.1 → f.1 n = none

def CoversL : List FootX → List Foot → Prop
  | [], fs => fs = []
  | x :: xs, fs => ∃ f gs, fs = f :: gs ∧ Covers x f ∧ CoversL xs gs

theorem runX_sound (hCT : CTOK P tb CT) {hid : Nat → List Nm} : ∀ {i : Nat} {l : List Oper} {env env' : Env} {t t' : Tr} {cur cur' : Nat} {log log' : List Nm} {xs : List FootX}, runX P CT tb hid ops gn i l env t cur log = some (env', t', cur', log', xs) →
    ∃ fs, RunH P (CRof CT) tb ops gn l env t.get cur env' t'.get cur' fs ∧ CoversL xs fs ∧ (∀ n ∈ log, n ∈ log') ∧ (∀ n, n ∉ log' → t'.get n = t.get n)
  | i, [], env, env', t, t', cur, cur', log, log', xs, h => by
    simp only [runX] at h
    cases h
    exact ⟨[], ⟨rfl, rfl, rfl, rfl⟩, rfl, fun _ h => h, fun _ _ => rfl⟩
  | i, o :: rest, env, env', t, t', cur, cur', log, log', xs, h => by
    simp only [runX] at h
    split at h
    · rename_i d t1 c1 wl rd hs
      rw [forceD_eq] at h
      split at h
      · rename_i e t2 c2 l2 fs' hr
        cases h
        obtain ⟨us, h1, h2, h3⟩ := stepX_sound hCT hs
        obtain ⟨fs, q1, q2, q3, q4⟩ := runX_sound hCT hr
        refine ⟨(us, rd) :: fs, ⟨d, us, rd, c1, fs, h1, rfl, by rw [h2]; exact q1⟩, ⟨(us, rd), fs, rfl, ⟨rfl, h3⟩, q2⟩, fun n hn => q3 n (by simp [hn]), fun n hn => ?_⟩
        rw [q4 n hn, ← h2]
        have : n ∉ wl := fun hw => hn (q3 n (by simp [hw]))
        exact app_at (h3 n this)
      · cases h
    · cases h

theorem avoidX_sound {a b : FootX} {f g : Foot} (ha : Covers a f) (hb : Covers b g) (h : avoidX a.1 b.2 = true) : avoid f.1 g.2 := by
  rw [← hb.1]
  cases hr : b.2 with
  | but l =>
    rw [hr] at h
    simp only [avoidX, List.all_eq_true] at h
    intro n hn
    refine ha.2 n fun hm => hn ?_
    have := h n hm
    simpa using this
  | of l =>
    rw [hr] at h
    simp only [avoidX, List.all_eq_true, Bool.not_eq_true'] at h
    intro n hn
    refine ha.2 n fun hm => ?_
    have := h n hn
    simp at this
    exact this hm

theorem okX_sound {a b : FootX} {f g : Foot} (ha : Covers a f) (hb : Covers b g) (h : okX a b = true) : okF f g := by
  simp only [okX, Bool.and_eq_true, Bool.or_eq_true] at h
  obtain ⟨⟨⟨h1, h2⟩, h3⟩, h4⟩ := h
  refine ⟨avoidX_sound ha hb h1, avoidX_sound hb ha h2, fun n => ?_, ?_⟩
  · by_cases hn : n ∈ a.1
    · right
      refine hb.2 n fun hm => ?_
      have := List.all_eq_true.1 h3 n hn
      simp at this
      exact this hm
    · exact .inl (ha.2 n hn)
  · rw [← ha.1, ← hb.1]
    rcases h4 with h | h
    · left; simpa using h
    · right; simpa using h

theorem restOK_sound {i : Nat} {f : FootX} : ∀ {gs : List FootX} {j : Nat}, restOK ops i f j gs = true → ∀ (k : Nat) (g : FootX), gs[k]? = some g → okX f g = true ∨ ancB .any ops ops.size i (j + k) = true ∨ ancB .any ops ops.size (j + k) i = true
  | [], j, _, k, g, hg => by simp at hg
  | x :: gs, j, h, k, g, hg => by
    simp only [restOK, Bool.and_eq_true, Bool.or_eq_true] at h
    cases k with
    | zero =>
      simp at hg
      subst hg
      rcases h.1 with (h1 | h1) | h1
      · exact .inl h1
      · exact .inr (.inl h1)
      · exact .inr (.inr h1)
    | succ k =>
      have := restOK_sound h.2 k g (by simpa using hg)
      rw [show j + 1 + k = j + (k + 1) by omega] at this
      exact this

theorem pairsFrom_sound : ∀ {fs : List FootX} {i : Nat}, pairsFrom ops i fs = true → ∀ (a b : Nat) (f g : FootX), a < b → fs[a]? = some f → fs[b]? = some g → okX f g = true ∨ ancB .any ops ops.size (i + a) (i + b) = true ∨ ancB .any ops ops.size (i + b) (i + a) = true
  | [], i, _, a, b, f, g, _, hf, _ => by simp at hf
  | x :: fs, i, h, a, b, f, g, hab, hf, hg => by
    simp only [pairsFrom, Bool.and_eq_true] at h
    cases b with
    | zero => omega
    | succ b =>
      cases a with
      | zero =>
        simp at hf
        subst hf
        have := restOK_sound h.1 b g (by simpa using hg)
        rw [show i + 1 + b = i + (b + 1) by omega] at this
        simpa using this
      | succ a =>
        have := pairsFrom_sound h.2 a b f g (by omega) (by simpa using hf) (by simpa using hg)
        rw [show i + 1 + a = i + (a + 1) by omega, show i + 1 + b = i + (b + 1) by omega] at this
        exact this

theorem CoversL.get : ∀ {xs : List FootX} {fs : List Foot}, CoversL xs fs → xs.length = fs.length ∧ ∀ (i : Nat) (f : Foot), fs[i]? = some f → ∃ x, xs[i]? = some x ∧ Covers x f
  | [], fs, h => by
    simp only [CoversL] at h
    subst h
    exact ⟨rfl, fun i f hf => by simp at hf⟩
  | x :: xs, fs, h => by
    simp only [CoversL] at h
    obtain ⟨f, gs, rfl, h1, h2⟩ := h
    obtain ⟨q1, q2⟩ := h2.get
    refine ⟨by simp [q1], fun i f' hf => ?_⟩
    cases i with
    | zero => simp at hf; subst hf; exact ⟨x, by simp, h1⟩
    | succ i => obtain ⟨y, hy, hc⟩ := q2 i f' (by simpa using hf); exact ⟨y, by simpa using hy, hc⟩

theorem pairs_ok {xs : List FootX} {fs : List Foot} (hc : CoversL xs fs) (h : pairsFrom ops 0 xs = true) (i j : Nat) (hij : j ≠ i) :
    ancB .any ops ops.size i j = true ∨ ancB .any ops ops.size j i = true ∨ okF (fs.getD i (Up.pt [], .of [])) (fs.getD j (Up.pt [], .of [])) := by
  obtain ⟨hl, hg⟩ := hc.get
  have none_ok : ∀ f : Foot, okF (Up.pt [], .of []) f := fun f => by
    refine ⟨?_, (show avoid f.1 (.of []) from fun n hn => by cases hn), fun n => Or.inl rfl, Or.inl rfl⟩
    cases hf : f.2 with
    | but l => exact fun n _ => rfl
    | of l => exact fun n _ => rfl
  cases hi : fs[i]? with
  | none => right; right; simp only [List.getD_eq_getElem?_getD, hi, Option.getD_none]; exact none_ok _
  | some f =>
    cases hj : fs[j]? with
    | none => right; right; simp only [List.getD_eq_getElem?_getD, hj, Option.getD_none]; exact (none_ok _).symm
    | some g =>
      obtain ⟨x, hx, cx⟩ := hg i f hi
      obtain ⟨y, hy, cy⟩ := hg j g hj
      simp only [List.getD_eq_getElem?_getD, hi, hj, Option.getD_some]
      rcases Nat.lt_or_gt_of_ne hij with hlt | hlt
      · rcases pairsFrom_sound h j i y x hlt hy hx with q | q | q
        · exact .inr (.inr (okX_sound cy cx q).symm)
        · simp at q; exact .inr (.inl q)
        · simp at q; exact .inl q
      · rcases pairsFrom_sound h i j x y hlt hx hy with q | q | q
        · exact .inr (.inr (okX_sound cx cy q))
        · simp at q; exact .inl q
        · simp at q; exact .inr (.inl q)

end
end Go.Ab
