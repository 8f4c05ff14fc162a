/-
  The same run, laid out so that it is quick to work out: a function's places in a tree, and all that is laid down worked out at once.
-/
import Derived.Test.YtahhpefgeeofhaaGreatDoorZeCall
set_option linter.unusedSimpArgs false
set_option linter.unusedVariables false
set_option linter.constructorNameAsVariable false
namespace Go.Ab

/-! ### Places -/

inductive ET where
  | e
  | n (v : Option D) (l r : ET)

def ET.get : ET → Nat → Option D
  | .e, _ => none
  | .n v l r, k => bif Nat.beq k 0 then v else bif Nat.beq (k % 2) 0 then r.get ((k - 1) / 2) else l.get ((k - 1) / 2)

def ET.set : Nat → ET → Nat → Option D → ET
  | 0, t, _, _ => t
  | f + 1, .e, k, o => bif Nat.beq k 0 then .n o .e .e else bif Nat.beq (k % 2) 0 then .n none .e (ET.set f .e ((k - 1) / 2) o) else .n none (ET.set f .e ((k - 1) / 2) o) .e
  | f + 1, .n v l r, k, o => bif Nat.beq k 0 then .n o l r else bif Nat.beq (k % 2) 0 then .n v l (ET.set f r ((k - 1) / 2) o) else .n v (ET.set f l ((k - 1) / 2) o) r

theorem ET.get_set : ∀ (f : Nat) (t : ET) (k : Nat) (o : Option D) (j : Nat), k + 1 < 2 ^ f → (ET.set f t k o).get j = if j = k then o else t.get j
  | 0, t, k, o, j, h => by simp at h
  | f + 1, t, k, o, j, h => by
    have hk : k ≠ 0 → (k - 1) / 2 + 1 < 2 ^ f := fun hk => by
      rw [Nat.pow_succ] at h
      omega
    have hjk : ∀ {p : Nat}, k ≠ 0 → j ≠ 0 → k % 2 = p → j % 2 = p → ((j - 1) / 2 = (k - 1) / 2 ↔ j = k) := fun h1 h2 h3 h4 => by omega
    have hg : ∀ (v : Option D) (l r : ET), (ET.n v l r).get j = if j = 0 then v else if j % 2 = 0 then r.get ((j - 1) / 2) else l.get ((j - 1) / 2) := fun v l r => by
      simp only [ET.get, Nat.beq_eq_true_eq, cond_eq_ite, Nat.beq_eq]
    have he : ET.e.get j = none := rfl
    by_cases k0 : k = 0
    · subst k0
      have hs : ET.set (f + 1) t 0 o = .n o (match t with | .e => .e | .n _ l _ => l) (match t with | .e => .e | .n _ _ r => r) := by cases t <;> rfl
      rw [hs, hg]
      by_cases j0 : j = 0
      · simp [j0]
      · simp only [j0, if_false]
        cases t with
        | e => simp [ET.get]
        | n v l r => rw [hg]; simp [j0]
    · have kb : Nat.beq k 0 = false := by cases hb : Nat.beq k 0 with
      | false => rfl
      | true => exact absurd (Nat.eq_of_beq_eq_true hb) k0
      by_cases kp : k % 2 = 0
      · have kpb : Nat.beq (k % 2) 0 = true := by simp [kp]
        cases t with
        | e =>
          simp only [ET.set, kb, kpb, cond_true, cond_false]
          rw [hg, ET.get_set f _ _ _ _ (hk k0), he]
          by_cases j0 : j = 0
          · have : j ≠ k := by omega
            simp [j0, this]; omega
          · by_cases jp : j % 2 = 0
            · simp only [j0, jp, if_true, if_false, hjk k0 j0 kp jp, ET.get]
            · have : j ≠ k := fun e => jp (e ▸ kp)
              simp [j0, jp, this, ET.get]
        | n v l r =>
          simp only [ET.set, kb, kpb, cond_true, cond_false]
          rw [hg, hg, ET.get_set f _ _ _ _ (hk k0)]
          by_cases j0 : j = 0
          · have : j ≠ k := by omega
            simp [j0]; omega
          · by_cases jp : j % 2 = 0
            · simp only [j0, jp, if_true, if_false, hjk k0 j0 kp jp]
            · have : j ≠ k := fun e => jp (e ▸ kp)
              simp [j0, jp, this]
      · have kpb : Nat.beq (k % 2) 0 = false := by cases hb : Nat.beq (k % 2) 0 with
        | false => rfl
        | true => exact absurd (Nat.eq_of_beq_eq_true hb) kp
        have kp1 : k % 2 = 1 := by omega
        cases t with
        | e =>
          simp only [ET.set, kb, kpb, cond_true, cond_false]
          rw [hg, ET.get_set f _ _ _ _ (hk k0), he]
          by_cases j0 : j = 0
          · have : j ≠ k := by omega
            simp [j0, this]; omega
          · by_cases jp : j % 2 = 0
            · have : j ≠ k := fun e => by omega
              simp [j0, jp, this, ET.get]
            · have jp1 : j % 2 = 1 := by omega
              simp only [j0, jp, if_false, hjk k0 j0 kp1 jp1, ET.get]
        | n v l r =>
          simp only [ET.set, kb, kpb, cond_true, cond_false]
          rw [hg, hg, ET.get_set f _ _ _ _ (hk k0)]
          by_cases j0 : j = 0
          · have : j ≠ k := by omega
            simp [j0]; omega
          · by_cases jp : j % 2 = 0
            · have : j ≠ k := fun e => by omega
              simp [j0, jp, this]
            · have jp1 : j % 2 = 1 := by omega
              simp only [j0, jp, if_false, hjk k0 j0 kp1 jp1]

def ET.setK {α : Type} : Nat → ET → Nat → Option D → (ET → α) → α
  | 0, t, _, _, K => K t
  | f + 1, .e, k, o, K => bif Nat.beq k 0 then K (.n o .e .e) else bif Nat.beq (k % 2) 0 then ET.setK f .e ((k - 1) / 2) o (fun r => K (.n none .e r)) else ET.setK f .e ((k - 1) / 2) o (fun l => K (.n none l .e))
  | f + 1, .n v l r, k, o, K => bif Nat.beq k 0 then K (.n o l r) else bif Nat.beq (k % 2) 0 then ET.setK f r ((k - 1) / 2) o (fun r => K (.n v l r)) else ET.setK f l ((k - 1) / 2) o (fun l => K (.n v l r))

theorem ET.setK_eq {α : Type} : ∀ (f : Nat) (t : ET) (k : Nat) (o : Option D) (K : ET → α), ET.setK f t k o K = K (ET.set f t k o)
  | 0, t, k, o, K => rfl
  | f + 1, .e, k, o, K => by
    simp only [ET.setK, ET.set, ET.setK_eq f]
    cases Nat.beq k 0 <;> cases Nat.beq (k % 2) 0 <;> rfl
  | f + 1, .n v l r, k, o, K => by
    simp only [ET.setK, ET.set, ET.setK_eq f]
    cases Nat.beq k 0 <;> cases Nat.beq (k % 2) 0 <;> rfl

def Tr.setK {α : Type} : Nat → Tr → Nat → Option Ob → (Tr → α) → α
  | 0, t, _, _, K => K t
  | f + 1, .e, k, o, K => bif Nat.beq k 0 then K (.n o .e .e) else bif Nat.beq (k % 2) 0 then Tr.setK f .e ((k - 1) / 2) o (fun r => K (.n none .e r)) else Tr.setK f .e ((k - 1) / 2) o (fun l => K (.n none l .e))
  | f + 1, .n v l r, k, o, K => bif Nat.beq k 0 then K (.n o l r) else bif Nat.beq (k % 2) 0 then Tr.setK f r ((k - 1) / 2) o (fun r => K (.n v l r)) else Tr.setK f l ((k - 1) / 2) o (fun l => K (.n v l r))

theorem Tr.setK_eq {α : Type} : ∀ (f : Nat) (t : Tr) (k : Nat) (o : Option Ob) (K : Tr → α), Tr.setK f t k o K = K (Tr.set f t k o)
  | 0, t, k, o, K => rfl
  | f + 1, .e, k, o, K => by
    simp only [Tr.setK, Tr.set, Tr.setK_eq f]
    cases Nat.beq k 0 <;> cases Nat.beq (k % 2) 0 <;> rfl
  | f + 1, .n v l r, k, o, K => by
    simp only [Tr.setK, Tr.set, Tr.setK_eq f]
    cases Nat.beq k 0 <;> cases Nat.beq (k % 2) 0 <;> rfl

def Tr.upsK {α : Type} (t : Tr) : Up → (Tr → α) → α
  | [], K => K t
  | (m, o) :: us, K => Tr.setK TF t m o fun t => Tr.upsK t us K

theorem Tr.upsK_eq {α : Type} : ∀ (us : Up) (t : Tr) (K : Tr → α), Tr.upsK t us K = K (t.ups us)
  | [], t, K => rfl
  | (m, o) :: us, t, K => by
    simp only [Tr.upsK, Tr.setK_eq, Tr.upsK_eq us]
    rfl

def appK {α : Type} : List Nat → List Nat → (List Nat → α) → α
  | [], l, K => K l
  | n :: ns, l, K => appK ns l fun l => K (n :: l)
theorem appK_eq {α : Type} : ∀ (ns l : List Nat) (K : List Nat → α), appK ns l K = K (ns ++ l)
  | [], l, K => rfl
  | n :: ns, l, K => by simp only [appK, appK_eq ns]; rfl

/-- The tree et has what env has. -/
structure Lays (n : Nat) (et : ET) (env : Env) : Prop where
  len : env.length = n
  get : ∀ i, env.getD i none = et.get i

def evT (tb : Nat → Option (List D)) (et : ET) : Operand → Option D
  | .tmp t => et.get t
  | .const v => D.ofV v
  | .global i => (match tb i with | some cs => some (.elem cs 0) | none => none)
  | .func f => some (.func (.func f) [] [])

theorem evT_eq {n : Nat} {tb : Nat → Option (List D)} {et : ET} {env : Env} (h : Lays n et env) : evE tb env = evT tb et := by
  funext x
  cases x with
  | tmp t => exact h.get t
  | const v => rfl
  | global i => simp only [evE, evT]; cases tb i <;> rfl
  | func f => rfl

def wantT (ops : Array Oper) (et : ET) (o : Oper) : Option Bool :=
  match o.guard with
  | none => some true
  | some (j, want) => match (ops[j]?).bind (·.dst) with
    | some t => match et.get t with
      | some (.v (.bool b)) => some (b == want)
      | some (.v (.tuple _)) => some false
      | _ => none
    | none => none

theorem wantT_sound {n : Nat} {ops : Array Oper} {et : ET} {env : Env} {o : Oper} {r : Bool} (h : Lays n et env) (hw : wantT ops et o = some r) : wantE ops env o = some r := by
  have key : ∀ (t : Nat), env[t]? = some (et.get t) ∨ et.get t = none := fun t => by
    have hgt := h.get t
    rw [List.getD_eq_getElem?_getD] at hgt
    cases he : env[t]? with
    | none => rw [he] at hgt; exact .inr hgt.symm
    | some x => rw [he] at hgt; exact .inl (congrArg some hgt)
  cases hg : o.guard with
  | none => simp only [wantT, hg] at hw; simp only [wantE, hg]; exact hw
  | some jw =>
    obtain ⟨j, want⟩ := jw
    simp only [wantT, hg] at hw
    simp only [wantE, hg]
    cases ht : (ops[j]?).bind (·.dst) with
    | none => rw [ht] at hw; cases hw
    | some t =>
      rw [ht] at hw
      simp only at hw ⊢
      rcases key t with he | he
      · rw [he]
        split at hw
        · rename_i b hb; rw [hb]; exact hw
        · rename_i b hb; rw [hb]; exact hw
        · cases hw
      · rw [he] at hw; cases hw

def EF : Nat := 14

/-- One more place filled; none: out of range. -/
def putT {α : Type} (n : Nat) (et : ET) (dst : Option Tmp) (d : D) (K : ET → Option α) : Option α :=
  match dst with
  | some t => bif Nat.blt t n && Nat.blt (t + 1) 16384 then ET.setK EF et t (some d) K else none
  | none => K et

theorem putT_sound {α : Type} {n : Nat} {et : ET} {env : Env} {dst : Option Tmp} {d : D} {K : ET → Option α} {r : α} (h : Lays n et env) (hp : putT n et dst d K = some r) :
    ∃ et', Lays n et' (putE env dst d) ∧ K et' = some r := by
  unfold putT at hp
  split at hp
  · rename_i t
    cases hb : (Nat.blt t n && Nat.blt (t + 1) 16384) with
    | false => rw [hb] at hp; cases hp
    | true =>
      rw [hb, cond_true, ET.setK_eq] at hp
      simp only [Bool.and_eq_true] at hb
      have h1 : t < n := by simpa using hb.1
      have h2 : t + 1 < 2 ^ EF := by have := hb.2; simp only [Nat.blt_eq] at this; simpa [EF] using this
      refine ⟨_, ⟨?_, fun i => ?_⟩, hp⟩
      · simp only [putE, List.length_set, h.len]
      · rw [ET.get_set _ _ _ _ _ h2]
        simp only [putE]
        rw [List.getD_eq_getElem?_getD, List.getElem?_set]
        by_cases hi : i = t
        · subst hi
          simp [h.len, h1]
        · rw [if_neg (fun e => hi e.symm), if_neg hi, ← h.get i, List.getD_eq_getElem?_getD]
  · exact ⟨et, h, hp⟩

def fillK {α : Type} (n : Nat) : Nat → List (Option D) → ET → (ET → Option α) → Option α
  | _, [], et, K => K et
  | i, none :: ds, et, K => fillK n (i + 1) ds et K
  | i, some d :: ds, et, K => bif Nat.blt i n && Nat.blt (i + 1) 16384 then forceD d fun d => ET.setK EF et i (some d) fun et => fillK n (i + 1) ds et K else none

theorem fillK_sound {α : Type} {n : Nat} {K : ET → Option α} {r : α} : ∀ {i : Nat} {ds : List (Option D)} {et : ET}, fillK n i ds et K = some r →
    ∃ et', K et' = some r ∧ ∀ j, et'.get j = if i ≤ j ∧ ds.getD (j - i) none ≠ none then ds.getD (j - i) none else et.get j
  | i, [], et, h => ⟨et, h, fun j => by simp⟩
  | i, none :: ds, et, h => by
    obtain ⟨et', hK, hg⟩ := fillK_sound (i := i + 1) (ds := ds) h
    refine ⟨et', hK, fun j => ?_⟩
    rw [hg j]
    by_cases hj : i + 1 ≤ j
    · have : j - i = (j - (i + 1)) + 1 := by omega
      rw [this]
      simp only [List.getD_cons_succ, hj, Nat.le_of_succ_le hj, true_and]
    · simp only [hj, false_and, if_false]
      by_cases hij : i ≤ j
      · have : j - i = 0 := by omega
        simp [this]
      · simp [hij]
  | i, some d :: ds, et, h => by
    simp only [fillK] at h
    cases hb : (Nat.blt i n && Nat.blt (i + 1) 16384) with
    | false => rw [hb] at h; cases h
    | true =>
      rw [hb, cond_true, forceD_eq, ET.setK_eq] at h
      simp only [Bool.and_eq_true] at hb
      have h2 : i + 1 < 2 ^ EF := by have := hb.2; simp only [Nat.blt_eq] at this; simpa [EF] using this
      obtain ⟨et', hK, hg⟩ := fillK_sound (i := i + 1) (ds := ds) h
      refine ⟨et', hK, fun j => ?_⟩
      rw [hg j, ET.get_set _ _ _ _ _ h2]
      by_cases hj : i + 1 ≤ j
      · have : j - i = (j - (i + 1)) + 1 := by omega
        have hne : j ≠ i := by omega
        rw [this]
        simp only [List.getD_cons_succ, hj, Nat.le_of_succ_le hj, true_and, hne, if_false]
      · simp only [hj, false_and, if_false]
        by_cases hij : j = i
        · subst hij; simp
        · have : ¬ i ≤ j := by omega
          simp [hij, this]

theorem fillK_lays {α : Type} {n : Nat} {K : ET → Option α} {r : α} {env : Env} (hl : env.length = n) (h : fillK n 0 env .e K = some r) : ∃ et, Lays n et env ∧ K et = some r := by
  obtain ⟨et', hK, hg⟩ := fillK_sound h
  refine ⟨et', ⟨hl, fun i => ?_⟩, hK⟩
  rw [hg i]
  by_cases hn : env.getD i none = none
  · simp [hn, ET.get]
  · rw [if_pos ⟨Nat.zero_le _, hn⟩]; rfl

def etL (et : ET) : Nat → Nat → Env
  | _, 0 => []
  | i, k + 1 => et.get i :: etL et (i + 1) k

theorem etL_get {et : ET} : ∀ {k i j : Nat}, (etL et i k)[j]? = if j < k then some (et.get (i + j)) else none
  | 0, i, j => by simp [etL]
  | k + 1, i, 0 => by simp [etL]
  | k + 1, i, j + 1 => by
    simp only [etL, List.getElem?_cons_succ, etL_get (k := k), Nat.add_lt_add_iff_right]
    rw [show i + 1 + j = i + (j + 1) by omega]

theorem etL_lays {n : Nat} {et : ET} {env : Env} (h : Lays n et env) : etL et 0 n = env := by
  apply List.ext_getElem?
  intro j
  rw [etL_get, Nat.zero_add, ← h.get j, List.getD_eq_getElem?_getD]
  by_cases hj : j < n
  · have : j < env.length := by rw [h.len]; exact hj
    simp [hj, this]
  · have : env.length ≤ j := by rw [h.len]; omega
    simp [hj, this]

theorem etL_len {et : ET} : ∀ {k i : Nat}, (etL et i k).length = k
  | 0, _ => rfl
  | k + 1, i => by simp only [etL, List.length_cons, etL_len (k := k)]

/-! ### The run -/

def callOfG (ev : Operand → Option D) (op : Op) : Option (Tgt × List D) :=
  match op with
  | .call c => (match c.callee with
    | .value f => (match ev f, allD ev c.args.toList with
      | some df, some ds => tgtOf df ds
      | _, _ => none)
    | _ => none)
  | _ => none

def stepF (P : Program) (CT : CallT) (tb : Nat → Option (List D)) (hid : List Nm) (ops : Array Oper) (gn : Nat) (o : Oper) (et : ET) (t : Tr) (cur : Nat) : Option (D × Tr × Nat × List Nm × Rd) :=
  match wantT ops et o with
  | some true => (match callOfG (evT tb et) o.op with
    | some (k, ds) => forceL ds fun ds => Tr.upsK t (goneUp hid) fun t0 => (match CT k ds t0 cur with
      | some (d, t', cur', wl) => bif hidOK gn hid wl then Tr.upsK t' (backUp t hid) fun t' => some (d, t', cur', wl, .but hid) else none
      | none => none)
    | none => (match opH P (evT tb et) t.get (nameH gn o) o.op with
      | some (d, ul, rl) => bif smallUp ul then forceUp ul fun ul => Tr.upsK t ul fun t' => some (d, t', cur, ul.map (·.1), .of rl) else none
      | none => none))
  | some false => some (D.undef, t, cur, [], .of [])
  | none => none

def runF (P : Program) (CT : CallT) (tb : Nat → Option (List D)) (hid : Nat → List Nm) (ops : Array Oper) (gn n : Nat) : Nat → List Oper → ET → Tr → Nat → List Nm → Option (ET × Tr × Nat × List Nm × List FootX)
  | _, [], et, t, cur, log => some (et, t, cur, log, [])
  | i, o :: rest, et, t, cur, log => match stepF P CT tb (hid i) ops gn o et t cur with
    | some (d, t', cur', wl, rd) => forceD d fun d => forceN cur' fun cur' => putT n et o.dst d fun et' => forceNs wl fun wl => appK wl log fun log' => (match runF P CT tb hid ops gn n (i + 1) rest et' t' cur' log' with
      | some (e, t2, c2, l2, fs) => some (e, t2, c2, l2, (wl, rd) :: fs)
      | none => none)
    | none => none

abbrev OutF := Option (Ex × ET × Tr × Nat × List Nm × List Nm)

def execF (P : Program) (CT : CallT) (tb : Nat → Option (List D)) (inR : Bool) (n : Nat) : Nat → Code → ET → Tr → Nat → List Nm → List Nm → OutF
  | 0, _, _, _, _, _, _ => none
  | f + 1, c, et, t, cur, log, ms => match c with
    | .skip => some (.normal, et, t, cur, log, ms)
    | .label _ => some (.normal, et, t, cur, log, ms)
    | .exit id => some (.exit id, et, t, cur, log, ms)
    | .ret => some (.ret, et, t, cur, log, ms)
    | .seq a b => (match execF P CT tb inR n f a et t cur log ms with
      | some (.normal, e, t, c, l, m) => execF P CT tb inR n f b e t c l m
      | r => r)
    | .cond x a b => (match evT tb et x with
      | some (.v (.bool true)) => execF P CT tb inR n f a et t cur log ms
      | some (.v (.bool false)) => execF P CT tb inR n f b et t cur log ms
      | _ => none)
    | .block id b => (match execF P CT tb inR n f b et t cur log ms with
      | some (.exit j, e, t, c, l, m) => bif Nat.beq j id then some (.normal, e, t, c, l, m) else some (.exit j, e, t, c, l, m)
      | r => r)
    | .loop b => (match execF P CT tb inR n f b et t cur log ms with
      | some (.normal, e, t, c, l, m) => execF P CT tb inR n f (.loop b) e t c l m
      | r => r)
    | .region _ ops draw => (match runF P CT tb (bif draw then fun i => hidFrom ops cur i 0 ops.size else fun _ => []) ops cur n 0 ops.toList et t (cur + 1) log with
      | some (e, t, c, l, fs) => bif !draw || pairsFrom ops 0 fs then forceN c fun c => some (.normal, e, t, c, l, ms) else none
      | none => none)
    | .rangeFunc x ps assign body => bif inR then none else (match evT tb et x with
      | some df => (match tgtOf df [.yld (cur * KB)] with
        | some (.fn k, as) => bif Nat.blt (cur * KB + 2) (2 ^ 64) then forceL as fun as => forceN (cur * KB) fun o => forceN (cur * KB + 1) fun o1 => Tr.upsK t [(o1, some .dfr), (o, some (.loop (etL et 0 n) ps assign body .ready none))] fun t0 => (match CT (.fn k) as t0 (cur + 1) with
          | some (_, t', cur', wl) => (match t'.get o with
            | some (.loop _ _ _ _ .busy pend) => none
            | some (.loop _ _ _ _ _ pend) => (match exOf pend with
              | some ex => Tr.upsK t' [(o, none)] fun t2 => appK wl (o :: o1 :: log) fun log => some (ex, et, t2, cur', log, o1 :: ms)
              | none => none)
            | _ => none)
          | none => none) else none
        | _ => none)
      | none => none)
    | _ => none

section
variable {P : Program} {CT CF : CallT} {tb : Nat → Option (List D)} {n : Nat}

theorem stepF_sound (hc : ∀ tg ds t cur r, CF tg ds t cur = some r → CT tg ds t cur = some r) {hid : List Nm} {ops : Array Oper} {gn : Nat} {o : Oper} {et : ET} {env : Env} {t : Tr} {cur : Nat} {r : D × Tr × Nat × List Nm × Rd}
    (hL : Lays n et env) (h : stepF P CF tb hid ops gn o et t cur = some r) : stepX P CT tb hid ops gn o env t cur = some r := by
  have hco : callOf tb env o.op = callOfG (evT tb et) o.op := by rw [← evT_eq hL]; rfl
  unfold stepF at h
  unfold stepX
  split at h
  · rename_i hw
    rw [wantT_sound hL hw]
    simp only [hco, evT_eq hL]
    split at h
    · rename_i k ds hk
      rw [hk]
      simp only [forceL_eq, Tr.upsK_eq] at h ⊢
      split at h
      · rename_i d t' cur' wl hcall
        rw [hc _ _ _ _ _ hcall]
        cases hh : hidOK gn hid wl with
        | false => rw [hh] at h; cases h
        | true => rw [hh] at h; simpa [hh] using h
      · cases h
    · rename_i hk
      rw [hk]
      simp only
      split at h
      · rename_i d ul rl ho
        simp only [ho]
        simp only [forceUp_eq, Tr.upsK_eq] at h ⊢
        cases hs : smallUp ul with
        | false => rw [hs] at h; cases h
        | true => rw [hs] at h; simpa [hs] using h
      · cases h
  · rename_i hw
    rw [wantT_sound hL hw]
    exact h
  · cases h

theorem runF_sound (hc : ∀ tg ds t cur r, CF tg ds t cur = some r → CT tg ds t cur = some r) {hid : Nat → List Nm} {ops : Array Oper} {gn : Nat} : ∀ {l : List Oper} {i : Nat} {et : ET} {env : Env} {t : Tr} {cur : Nat} {log : List Nm} {e2 : ET} {r : Tr × Nat × List Nm × List FootX},
    Lays n et env → runF P CF tb hid ops gn n i l et t cur log = some (e2, r) → ∃ env2, Lays n e2 env2 ∧ runX P CT tb hid ops gn i l env t cur log = some (env2, r)
  | [], i, et, env, t, cur, log, e2, r, hL, h => by
    simp only [runF, Option.some.injEq, Prod.mk.injEq] at h
    obtain ⟨h1, h2⟩ := h
    subst h1 h2
    exact ⟨env, hL, rfl⟩
  | o :: rest, i, et, env, t, cur, log, e2, r, hL, h => by
    unfold runF at h
    split at h
    · rename_i d t' cur' wl rd hs
      simp only [forceD_eq, forceN_eq] at h
      obtain ⟨et', hL', hK⟩ := putT_sound hL h
      simp only [forceNs_eq, appK_eq] at hK
      split at hK
      · rename_i e t2 c2 l2 fs hr
        obtain ⟨env2, hL2, hX⟩ := runF_sound hc hL' hr
        simp only [Option.some.injEq, Prod.mk.injEq] at hK
        obtain ⟨h1, h2⟩ := hK
        subst h1 h2
        refine ⟨env2, hL2, ?_⟩
        unfold runX
        simp only [stepF_sound hc hL hs, forceD_eq, hX]
      · cases hK
    · cases h

theorem execF_sound (hc : ∀ tg ds t cur r, CF tg ds t cur = some r → CT tg ds t cur = some r) {inR : Bool} : ∀ {f : Nat} {c : Code} {et : ET} {env : Env} {t : Tr} {cur : Nat} {log ms : List Nm} {ex : Ex} {e2 : ET} {r : Tr × Nat × List Nm × List Nm},
    Lays n et env → execF P CF tb inR n f c et t cur log ms = some (ex, e2, r) → ∃ env2, Lays n e2 env2 ∧ execC P CT tb inR f c env t cur log ms = some (ex, env2, r)
  | 0, _, _, _, _, _, _, _, _, _, _, hL, h => by cases h
  | f + 1, c, et, env, t, cur, log, ms, ex, e2, r, hL, h => by
    cases c with
    | skip => simp only [execF, Option.some.injEq, Prod.mk.injEq] at h; obtain ⟨h0, h1, h2⟩ := h; subst h0 h1 h2; exact ⟨env, hL, rfl⟩
    | label _ => simp only [execF, Option.some.injEq, Prod.mk.injEq] at h; obtain ⟨h0, h1, h2⟩ := h; subst h0 h1 h2; exact ⟨env, hL, rfl⟩
    | exit _ => simp only [execF, Option.some.injEq, Prod.mk.injEq] at h; obtain ⟨h0, h1, h2⟩ := h; subst h0 h1 h2; exact ⟨env, hL, rfl⟩
    | ret => simp only [execF, Option.some.injEq, Prod.mk.injEq] at h; obtain ⟨h0, h1, h2⟩ := h; subst h0 h1 h2; exact ⟨env, hL, rfl⟩
    | seq a b =>
      simp only [execF] at h
      simp only [execC]
      cases ha : execF P CF tb inR n f a et t cur log ms with
      | none => rw [ha] at h; cases h
      | some q =>
        obtain ⟨x, e1, t1, c1, l1, m1⟩ := q
        obtain ⟨env1, hL1, hX⟩ := execF_sound hc hL ha
        rw [ha] at h
        rw [hX]
        cases x with
        | normal => exact execF_sound hc hL1 h
        | exit id => simp only [Option.some.injEq, Prod.mk.injEq] at h; obtain ⟨h0, h1, h2⟩ := h; subst h0 h1 h2; exact ⟨env1, hL1, rfl⟩
        | ret => simp only [Option.some.injEq, Prod.mk.injEq] at h; obtain ⟨h0, h1, h2⟩ := h; subst h0 h1 h2; exact ⟨env1, hL1, rfl⟩
    | cond x a b =>
      simp only [execF] at h
      simp only [execC, evT_eq hL]
      split at h
      · rename_i hx; simp only [hx]; exact execF_sound hc hL h
      · rename_i hx; simp only [hx]; exact execF_sound hc hL h
      · cases h
    | block id b =>
      simp only [execF] at h
      simp only [execC]
      cases ha : execF P CF tb inR n f b et t cur log ms with
      | none => rw [ha] at h; cases h
      | some q =>
        obtain ⟨x, e1, t1, c1, l1, m1⟩ := q
        obtain ⟨env1, hL1, hX⟩ := execF_sound hc hL ha
        rw [ha] at h
        rw [hX]
        cases x with
        | normal => simp only [Option.some.injEq, Prod.mk.injEq] at h; obtain ⟨h0, h1, h2⟩ := h; subst h0 h1 h2; exact ⟨env1, hL1, rfl⟩
        | exit j =>
          simp only at h ⊢
          cases hb : Nat.beq j id with
          | true =>
            have : j = id := Nat.eq_of_beq_eq_true hb
            rw [hb] at h
            simp only [cond_true, Option.some.injEq, Prod.mk.injEq] at h; obtain ⟨h0, h1, h2⟩ := h; subst h0 h1 h2
            exact ⟨env1, hL1, by rw [if_pos this]⟩
          | false =>
            have : j ≠ id := fun e => by rw [e, Nat.beq_refl] at hb; cases hb
            rw [hb] at h
            simp only [cond_false, Option.some.injEq, Prod.mk.injEq] at h; obtain ⟨h0, h1, h2⟩ := h; subst h0 h1 h2
            exact ⟨env1, hL1, by rw [if_neg this]⟩
        | ret => simp only [Option.some.injEq, Prod.mk.injEq] at h; obtain ⟨h0, h1, h2⟩ := h; subst h0 h1 h2; exact ⟨env1, hL1, rfl⟩
    | loop b =>
      simp only [execF] at h
      simp only [execC]
      cases ha : execF P CF tb inR n f b et t cur log ms with
      | none => rw [ha] at h; cases h
      | some q =>
        obtain ⟨x, e1, t1, c1, l1, m1⟩ := q
        obtain ⟨env1, hL1, hX⟩ := execF_sound hc hL ha
        rw [ha] at h
        rw [hX]
        cases x with
        | normal => exact execF_sound hc hL1 h
        | exit id => simp only [Option.some.injEq, Prod.mk.injEq] at h; obtain ⟨h0, h1, h2⟩ := h; subst h0 h1 h2; exact ⟨env1, hL1, rfl⟩
        | ret => simp only [Option.some.injEq, Prod.mk.injEq] at h; obtain ⟨h0, h1, h2⟩ := h; subst h0 h1 h2; exact ⟨env1, hL1, rfl⟩
    | region id ops draw =>
      simp only [execF] at h
      simp only [execC]
      have hid : (if draw = true then fun i => hidFrom ops cur i 0 ops.size else fun _ => []) = (bif draw then fun i => hidFrom ops cur i 0 ops.size else fun _ => []) := by cases draw <;> rfl
      rw [hid]
      split at h
      · rename_i e t1 c1 l1 fs hr
        obtain ⟨env1, hL1, hX⟩ := runF_sound hc hL hr
        rw [hX]
        simp only [forceN_eq] at h ⊢
        cases hb : (!draw || pairsFrom ops 0 fs) with
        | false => rw [hb] at h; cases h
        | true =>
          rw [hb] at h
          simp only [cond_true, Option.some.injEq, Prod.mk.injEq] at h; obtain ⟨h0, h1, h2⟩ := h; subst h0 h1 h2
          exact ⟨env1, hL1, by simp [hb]⟩
      · cases h
    | rangeFunc x ps assign body =>
      simp only [execF] at h
      simp only [execC, evT_eq hL]
      cases inR with
      | true => cases h
      | false =>
        simp only [cond_false, Bool.false_eq_true, if_false] at h ⊢
        split at h
        · rename_i df hdf
          split at h
          · rename_i k as hk
            simp only [hdf, hk]
            cases hb : Nat.blt (cur * KB + 2) (2 ^ 64) with
            | false => rw [hb] at h; cases h
            | true =>
              rw [hb] at h
              simp only [cond_true, if_true, forceL_eq, forceN_eq, Tr.upsK_eq, appK_eq, etL_lays hL] at h ⊢
              split at h
              · rename_i d0 t' cur' wl hcall
                rw [hc _ _ _ _ _ hcall]
                simp only
                split at h
                · cases h
                · rename_i q1 q2 q3 q4 q5 pend hnb ho
                  rw [ho]
                  simp only
                  have : q5 ≠ .busy := fun e => hnb e
                  rw [if_neg this]
                  split at h
                  · rename_i ex' hex
                    rw [hex]
                    simp only [Option.some.injEq, Prod.mk.injEq] at h; obtain ⟨h0, h1, h2⟩ := h; subst h0 h1 h2
                    exact ⟨env, hL, rfl⟩
                  · cases h
                · cases h
              · cases h
          · cases h
        · cases h
    | _ => simp only [execF] at h; cases h
end

/-! ### Functions -/

def resOneT (P : Program) (et : ET) (t : Tr) : ResultVar → Option D
  | .tmp k => et.get k
  | .cell k ty => (match et.get k with
    | some (.ptr n off) => (match t.get n with
      | some (.cells cs) => partD P ty cs off
      | _ => none)
    | _ => none)

def resLT (P : Program) (et : ET) (t : Tr) : List ResultVar → Option (List D)
  | [] => some []
  | r :: rs => (match resOneT P et t r, resLT P et t rs with
    | some d, some ds => some (d :: ds)
    | _, _ => none)

theorem resLT_eq {P : Program} {et : ET} {env : Env} {n : Nat} {t : Tr} (h : Lays n et env) : ∀ rs, resL P env t rs = resLT P et t rs
  | [] => rfl
  | r :: rs => by
    have : resOne P env t r = resOneT P et t r := by cases r with
      | tmp k => exact h.get k
      | cell k ty => simp only [resOne, resOneT, h.get]; rfl
    simp only [resL, resLT, this, resLT_eq h rs]
    rfl

def endF (P : Program) (fn : Func) (e : ET) (t : Tr) (cur : Nat) (l ms : List Nm) : Option (D × Tr × Nat × List Nm) :=
  bif marksOK t ms then Tr.upsK t (goneUp ms) fun t => (match resLT P e t fn.results.toList with
    | some [d] => forceD d fun d => appK ms l fun l => some (d, t, cur, l)
    | some ds => forceL ds fun ds => appK ms l fun l => some (.tup ds, t, cur, l)
    | none => none) else none

theorem endF_sound {P : Program} {fn : Func} {et : ET} {env : Env} {n : Nat} {t : Tr} {cur : Nat} {l ms : List Nm} {r : D × Tr × Nat × List Nm} (h : Lays n et env) (hE : endF P fn et t cur l ms = some r) : endFn P fn env t cur l ms = some r := by
  unfold endF at hE
  unfold endFn resD
  cases hm : marksOK t ms with
  | false => rw [hm] at hE; cases hE
  | true =>
    simp only [hm, cond_true, Tr.upsK_eq, if_true, resLT_eq h] at hE ⊢
    split at hE
    · rename_i d hd
      simp only [hd, forceD_eq, appK_eq] at hE ⊢
      exact hE
    · rename_i ds hne hd
      simp only [hd, forceL_eq, appK_eq] at hE ⊢
      rcases ds with _ | ⟨d, _ | ⟨d', ds'⟩⟩
      · exact hE
      · exact absurd rfl (hne d)
      · show forceD (D.tup (d :: d' :: ds')) (fun d => some (d, t.ups (goneUp ms), cur, ms ++ l)) = some r
        rw [forceD_eq]; exact hE
    · cases hE

def callF (P : Program) (FT : FuncId → Option Func) (XT : CallT) (tb : Nat → Option (List D)) : Nat → CallT
  | 0, _, _, _, _ => none
  | m + 1, tg, ds, t, cur => match XT tg ds t cur with
    | some r => some r
    | none => (match tg with
      | .fn f => (match FT f with
        | some fn => (match fn.body with
          | some c => bif Nat.ble ds.length fn.ntmps then fillK fn.ntmps 0 (ds.map some) .e fun et => (match execF P (callF P FT XT tb m) tb false fn.ntmps LF c et t cur [] [] with
            | some (.normal, e, t', c', l, ms) => endF P fn e t' c' l ms
            | some (.ret, e, t', c', l, ms) => endF P fn e t' c' l ms
            | _ => none) else none
          | none => none)
        | none => none)
      | .yld o => (match t.get o with
        | some (.loop env ps assign body .ready none) => bif ps.size == ds.length && codeOK assign && codeOK body && Nat.blt (o + 1) (2 ^ 64) then
            (fillK env.length 0 (setParams env ps.toList ds) .e fun et => (match execF P (callF P FT XT tb m) tb true env.length LF assign et t cur [] [] with
            | some (.normal, e1, t1, c1, l1, []) => (match t1.get o with
              | some (.loop env' ps' as' b' .ready pd) => Tr.upsK t1 [(o, some (.loop env' ps' as' b' .busy pd))] fun t1 => (match execF P (callF P FT XT tb m) tb true env.length LF body e1 t1 c1 l1 [] with
                | some (ex, e3, t3, c3, l3, []) => (match t3.get o, roundEnd ex with
                  | some (.loop env2 ps2 as2 b2 _ _), some (st, pend, r) => Tr.upsK t3 [(o, some (.loop env2 ps2 as2 b2 st pend))] fun t4 => some (.v (.bool r), t4, c3, o :: l3)
                  | _, _ => none)
                | _ => none)
              | _ => none)
            | _ => none)) else none
        | _ => none))

theorem setParams_len : ∀ {ps : List Tmp} {ds : List D} {env : Env}, (setParams env ps ds).length = env.length
  | [], _, _ => by simp [setParams]
  | _ :: _, [], _ => by simp [setParams]
  | p :: ps, d :: ds, env => by simp only [setParams, setParams_len, List.length_set]

theorem fill_entry {α : Type} {n : Nat} {ds : List D} {K : ET → Option α} {r : α} (hl : ds.length ≤ n) (h : fillK n 0 (ds.map some) .e K = some r) : ∃ et, Lays n et (entryEnv ds n) ∧ K et = some r := by
  obtain ⟨et', hK, hg⟩ := fillK_sound h
  refine ⟨et', ⟨by simp [entryEnv]; omega, fun i => ?_⟩, hK⟩
  rw [hg i]
  simp only [entryEnv, List.getD_eq_getElem?_getD, Nat.sub_zero, Nat.zero_le, true_and]
  by_cases hi : i < ds.length
  · rw [List.getElem?_append_left (by simpa using hi)]
    simp [hi]
  · rw [List.getElem?_append_right (by simpa using Nat.le_of_not_lt hi)]
    have h0 : (ds.map some)[i]? = none := by simp; omega
    rw [h0]
    simp only [Option.getD_none, ne_eq, not_true_eq_false, if_false, ET.get]
    rw [List.getElem?_replicate]
    split <;> rfl

theorem callF_sound {P : Program} {FT : FuncId → Option Func} {XT : CallT} {tb : Nat → Option (List D)} : ∀ (m : Nat) tg ds t cur r, callF P FT XT tb m tg ds t cur = some r → callX P FT XT tb m tg ds t cur = some r
  | 0, _, _, _, _, _, h => by cases h
  | m + 1, tg, ds, t, cur, r, h => by
    have hc := callF_sound (P := P) (FT := FT) (XT := XT) (tb := tb) m
    unfold callF at h
    unfold callX
    cases hx : XT tg ds t cur with
    | some q => rw [hx] at h; exact h
    | none =>
      rw [hx] at h
      cases tg with
      | fn f =>
        simp only at h ⊢
        cases hf : FT f with
        | none => rw [hf] at h; cases h
        | some fn =>
          rw [hf] at h
          simp only at h ⊢
          cases hb : fn.body with
          | none => rw [hb] at h; cases h
          | some c =>
            rw [hb] at h
            simp only at h ⊢
            cases hle : Nat.ble ds.length fn.ntmps with
            | false => rw [hle] at h; cases h
            | true =>
              rw [hle, cond_true] at h
              obtain ⟨et, hL, hK⟩ := fill_entry (Nat.le_of_ble_eq_true hle) h
              split at hK
              · rename_i e t' c' l ms he
                obtain ⟨env2, hL2, hX⟩ := execF_sound hc hL he
                rw [hX]
                exact endF_sound hL2 hK
              · rename_i e t' c' l ms he
                obtain ⟨env2, hL2, hX⟩ := execF_sound hc hL he
                rw [hX]
                exact endF_sound hL2 hK
              · cases hK
      | yld o =>
        simp only at h ⊢
        split at h
        · rename_i env ps assign body ho
          simp only [ho]
          cases hg : (ps.size == ds.length && codeOK assign && codeOK body && Nat.blt (o + 1) (2 ^ 64)) with
          | false => rw [hg] at h; cases h
          | true =>
            rw [hg, cond_true] at h
            simp only [if_true]
            obtain ⟨et, hL, hK⟩ := fillK_lays (setParams_len) h
            split at hK
            · rename_i e1 t1 c1 l1 he
              obtain ⟨env1, hL1, hX⟩ := execF_sound hc hL he
              rw [hX]
              simp only
              split at hK
              · rename_i env' ps' as' b' pd ho1
                simp only [ho1, Tr.upsK_eq] at hK ⊢
                split at hK
                · rename_i ex e3 t3 c3 l3 he3
                  obtain ⟨env3, hL3, hX3⟩ := execF_sound hc hL1 he3
                  rw [hX3]
                  simp only
                  split at hK
                  · rename_i env2 ps2 as2 b2 q1 q2 st pend r' ho3 hre
                    simp only [ho3, hre]
                    exact hK
                  · cases hK
                · cases hK
              · cases hK
            · cases hK
        · cases h

end Go.Ab
