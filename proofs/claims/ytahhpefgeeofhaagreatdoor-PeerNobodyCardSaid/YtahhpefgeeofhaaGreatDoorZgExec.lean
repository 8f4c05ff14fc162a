/-
  Regions, code, functions, for the kernel.
-/
import Derived.Test.YtahhpefgeeofhaaGreatDoorZgStep
set_option linter.unusedSimpArgs false
set_option linter.unusedVariables false
set_option linter.constructorNameAsVariable false
namespace Go.Ab

noncomputable def kPut (n : Nat) (et : ET) (dst : Option Tmp) (d : D) (F : ET → Bool) : Bool :=
  Option.rec (motive := fun _ => Bool) (F et) (fun t => br (Nat.ble (Nat.succ t) n) (br (Nat.ble t 16382) (ET.kset EF et t d F) false) false) dst
theorem kPut_sound {n : Nat} {et : ET} {env : Env} {dst : Option Tmp} {d : D} {F : ET → Bool} (h : Lays n et env) (hp : kPut n et dst d F = true) :
    ∃ et', Lays n et' (putE env dst d) ∧ F et' = true := by
  cases dst with
  | none => exact ⟨et, h, hp⟩
  | some t =>
    rcases br_or (show br (Nat.ble (Nat.succ t) n) (br (Nat.ble t 16382) (ET.kset EF et t d F) false) false = true from hp) with h1 | ⟨hb, h1⟩
    · cases h1
    rcases br_or h1 with h2 | ⟨hb2, h2⟩
    · cases h2
    rw [ET.kset_eq] at h2
    have h3 : t < n := Nat.le_of_ble_eq_true hb
    have h4 : t + 1 < 2 ^ EF := Nat.lt_of_le_of_lt (Nat.succ_le_succ (Nat.le_of_ble_eq_true hb2)) (show 16383 < 2 ^ EF by decide)
    refine ⟨_, ⟨?_, fun i => ?_⟩, h2⟩
    · simp only [putE, List.length_set, h.len]
    · rw [ET.get_set _ _ _ _ _ h4]
      simp only [putE]
      rw [List.getD_eq_getElem?_getD, List.getElem?_set]
      by_cases hi : i = t
      · subst hi
        simp [h.len, h3]
      · rw [if_neg (fun e => hi e.symm), if_neg hi, ← h.get i, List.getD_eq_getElem?_getD]

/-- A region in the order of the text. -/
noncomputable def kRunT (P : Program) (tb : Nat → Option (List D)) (CK : CallK) (ops : Array Oper) (gn n : Nat) (l : List Oper) : ET → Tr → Nat → List Nm → (ET → Tr → Nat → List Nm → Bool) → Bool :=
  List.rec (motive := fun _ => ET → Tr → Nat → List Nm → (ET → Tr → Nat → List Nm → Bool) → Bool) (fun et t cur log K => K et t cur log)
    (fun o _ ih et t cur log K => kStep P tb CK [] ops gn o et t cur fun d t' cur' wl _ => kPut n et o.dst d fun et' => kApp wl log fun log' => ih et' t' cur' log' K) l

/-- A region that draws its order. -/
noncomputable def kRunD (P : Program) (tb : Nat → Option (List D)) (CK : CallK) (hid : Nat → List Nm) (ops : Array Oper) (gn n : Nat) (l : List Oper) : Nat → ET → Tr → Nat → List Nm → (ET → Tr → Nat → List Nm → List FootX → Bool) → Bool :=
  List.rec (motive := fun _ => Nat → ET → Tr → Nat → List Nm → (ET → Tr → Nat → List Nm → List FootX → Bool) → Bool) (fun _ et t cur log K => K et t cur log [])
    (fun o _ ih i et t cur log K => kStep P tb CK (hid i) ops gn o et t cur fun d t' cur' wl rd => kPut n et o.dst d fun et' => kApp wl log fun log' => ih (Nat.succ i) et' t' cur' log' fun e2 t2 c2 l2 fs => K e2 t2 c2 l2 ((wl, rd) :: fs)) l

section
variable {P : Program} {tb : Nat → Option (List D)} {CK : CallK} {CT : CallT} {n : Nat}

theorem kRunT_sound (hc : KOK CK CT) {ops : Array Oper} {gn : Nat} : ∀ {l : List Oper} {i : Nat} {et : ET} {env : Env} {t : Tr} {cur : Nat} {log : List Nm} {K : ET → Tr → Nat → List Nm → Bool},
    Lays n et env → kRunT P tb CK ops gn n l et t cur log K = true → ∃ e2 env2 t2 c2 l2 fs, Lays n e2 env2 ∧ runX P CT tb (fun _ => []) ops gn i l env t cur log = some (env2, t2, c2, l2, fs) ∧ K e2 t2 c2 l2 = true
  | [], i, et, env, t, cur, log, K, hL, h => ⟨et, env, t, cur, log, [], hL, rfl, h⟩
  | o :: rest, i, et, env, t, cur, log, K, hL, h => by
    have h1 : kStep P tb CK [] ops gn o et t cur (fun d t' cur' wl _ => kPut n et o.dst d fun et' => kApp wl log fun log' => kRunT P tb CK ops gn n rest et' t' cur' log' K) = true := h
    obtain ⟨d, t', cur', wl, rd, hs, h2⟩ := kStep_sound hc hL h1
    obtain ⟨et', hL', h3⟩ := kPut_sound hL h2
    rw [kApp_eq] at h3
    obtain ⟨e2, env2, t2, c2, l2, fs, hL2, hX, hK⟩ := kRunT_sound hc (i := i + 1) hL' h3
    refine ⟨e2, env2, t2, c2, l2, (wl, rd) :: fs, hL2, ?_, hK⟩
    unfold runX
    simp only [hs, forceD_eq, hX]

theorem kRunD_sound (hc : KOK CK CT) {hid : Nat → List Nm} {ops : Array Oper} {gn : Nat} : ∀ {l : List Oper} {i : Nat} {et : ET} {env : Env} {t : Tr} {cur : Nat} {log : List Nm} {K : ET → Tr → Nat → List Nm → List FootX → Bool},
    Lays n et env → kRunD P tb CK hid ops gn n l i et t cur log K = true → ∃ e2 env2 t2 c2 l2 fs, Lays n e2 env2 ∧ runX P CT tb hid ops gn i l env t cur log = some (env2, t2, c2, l2, fs) ∧ K e2 t2 c2 l2 fs = true
  | [], i, et, env, t, cur, log, K, hL, h => ⟨et, env, t, cur, log, [], hL, rfl, h⟩
  | o :: rest, i, et, env, t, cur, log, K, hL, h => by
    have h0 : kStep P tb CK (hid i) ops gn o et t cur (fun d t' cur' wl rd => kPut n et o.dst d fun et' => kApp wl log fun log' => kRunD P tb CK hid ops gn n rest (i + 1) et' t' cur' log' fun e2 t2 c2 l2 fs => K e2 t2 c2 l2 ((wl, rd) :: fs)) = true := h
    obtain ⟨d, t', cur', wl, rd, hs, h2⟩ := kStep_sound hc hL h0
    obtain ⟨et', hL', h3⟩ := kPut_sound hL h2
    rw [kApp_eq] at h3
    obtain ⟨e2, env2, t2, c2, l2, fs, hL2, hX, hK⟩ := kRunD_sound hc hL' h3
    refine ⟨e2, env2, t2, c2, l2, (wl, rd) :: fs, hL2, ?_, hK⟩
    unfold runX
    simp only [hs, forceD_eq, hX]
end

abbrev NextK := Ex → ET → Tr → Nat → List Nm → List Nm → Bool
abbrev CodeK := Code → ET → Tr → Nat → List Nm → List Nm → NextK → Bool

noncomputable def kSeq (rec : CodeK) (b : Code) (K : NextK) : NextK := fun ex e t c l m =>
  Ex.rec (motive := fun _ => Bool) (rec b e t c l m K) (fun id => K (.exit id) e t c l m) (K .ret e t c l m) ex
noncomputable def kBlk (id : Nat) (K : NextK) : NextK := fun ex e t c l m =>
  Ex.rec (motive := fun _ => Bool) (K .normal e t c l m) (fun j => br (Nat.beq j id) (K .normal e t c l m) (K (.exit j) e t c l m)) (K .ret e t c l m) ex
noncomputable def kCondV (rec : CodeK) (a b : Code) (et : ET) (t : Tr) (cur : Nat) (log ms : List Nm) (K : NextK) (d : D) : Bool :=
  kV d (fun v => kB v (fun c => br c (rec a et t cur log ms K) (rec b et t cur log ms K)) false) false
noncomputable def kRegion (P : Program) (tb : Nat → Option (List D)) (CK : CallK) (n : Nat) (ops : Array Oper) (draw : Bool) (et : ET) (t : Tr) (cur : Nat) (log ms : List Nm) (K : NextK) : Bool :=
  kN (Nat.succ cur) fun c1 => br draw
    (kRunD P tb CK (fun i => hidFrom ops cur i 0 ops.size) ops cur n ops.toList 0 et t c1 log fun e t c l fs => br (pairsFrom ops 0 fs) (K .normal e t c l ms) false)
    (kRunT P tb CK ops cur n ops.toList et t c1 log fun e t c l => K .normal e t c l ms)
noncomputable def kLoopEnd (st : LoopState) (x : Bool) : Bool := match st with | .busy => false | _ => x
noncomputable def kRange (tb : Nat → Option (List D)) (CK : CallK) (inR : Bool) (n : Nat) (x : Operand) (ps : Array Tmp) (assign body : Code) (et : ET) (t : Tr) (cur : Nat) (log ms : List Nm) (K : NextK) : Bool :=
  br inR false (kEv tb et x fun df => match tgtOf df [.yld (cur * KB)] with
    | some (.fn k, as) => br (Nat.blt (cur * KB + 2) (2 ^ 64)) (kSpine as fun as => kN (Nat.succ cur) fun c1 => kUps [(cur * KB + 1, some .dfr), (cur * KB, some (.loop (etL et 0 n) ps assign body .ready none))] t fun t0 => CK (.fn k) as t0 c1 fun _ t' cur' wl =>
      (match t'.get (cur * KB) with
        | some (.loop _ _ _ _ st pend) => kLoopEnd st (match exOf pend with
          | some ex => kUps [(cur * KB, none)] t' fun t2 => kApp wl (cur * KB :: (cur * KB + 1) :: log) fun log => K ex et t2 cur' log ((cur * KB + 1) :: ms)
          | none => false)
        | _ => false)) false
    | _ => false)

noncomputable def kExec (P : Program) (tb : Nat → Option (List D)) (CK : CallK) (inR : Bool) (n : Nat) (f : Nat) : CodeK :=
  Nat.rec (motive := fun _ => CodeK) (fun _ _ _ _ _ _ _ => false) (fun _ rec c et t cur log ms K =>
    Code.rec (motive := fun _ => Bool) (K .normal et t cur log ms) (fun _ ops draw => kRegion P tb CK n ops draw et t cur log ms K) (fun a b _ _ => rec a et t cur log ms (kSeq rec b K))
      (fun x a b _ _ => kEv tb et x (kCondV rec a b et t cur log ms K)) (fun id b _ => rec b et t cur log ms (kBlk id K)) (fun b _ => rec b et t cur log ms (kSeq rec (.loop b) K))
      (fun x ps assign body _ _ => kRange tb CK inR n x ps assign body et t cur log ms K) (fun id => K (.exit id) et t cur log ms) (fun _ _ => false) (fun _ => K .normal et t cur log ms) (fun _ => false) (K .ret et t cur log ms) (fun _ => false) c) f

section
variable {P : Program} {tb : Nat → Option (List D)} {CK : CallK} {CT : CallT} {n : Nat} {inR : Bool}

/-- The run of code c comes to an end, and what comes next with it. -/
def ExecOK (P : Program) (CT : CallT) (tb : Nat → Option (List D)) (inR : Bool) (n f : Nat) (c : Code) (env : Env) (t : Tr) (cur : Nat) (log ms : List Nm) (K : NextK) : Prop :=
  ∃ ex e2 env2 t2 c2 l2 m2, Lays n e2 env2 ∧ execC P CT tb inR f c env t cur log ms = some (ex, env2, t2, c2, l2, m2) ∧ K ex e2 t2 c2 l2 m2 = true

theorem kExec_sound (hc : KOK CK CT) : ∀ {f : Nat} {c : Code} {et : ET} {env : Env} {t : Tr} {cur : Nat} {log ms : List Nm} {K : NextK},
    Lays n et env → kExec P tb CK inR n f c et t cur log ms K = true → ExecOK P CT tb inR n f c env t cur log ms K
  | 0, c, et, env, t, cur, log, ms, K, hL, h => by cases h
  | f + 1, c, et, env, t, cur, log, ms, K, hL, h => by
    cases c with
    | skip => exact ⟨.normal, et, env, t, cur, log, ms, hL, rfl, h⟩
    | label _ => exact ⟨.normal, et, env, t, cur, log, ms, hL, rfl, h⟩
    | exit id => exact ⟨.exit id, et, env, t, cur, log, ms, hL, rfl, h⟩
    | ret => exact ⟨.ret, et, env, t, cur, log, ms, hL, rfl, h⟩
    | scope _ => cases h
    | goto _ => cases h
    | refuse _ => cases h
    | seq a b =>
      have h1 : kExec P tb CK inR n f a et t cur log ms (kSeq (kExec P tb CK inR n f) b K) = true := h
      obtain ⟨ex, e1, env1, t1, c1, l1, m1, hL1, hX, hK⟩ := kExec_sound hc hL h1
      cases ex with
      | normal =>
        obtain ⟨ex, e2, env2, t2, c2, l2, m2, hL2, hX2, hK2⟩ := kExec_sound hc hL1 (show kExec P tb CK inR n f b e1 t1 c1 l1 m1 K = true from hK)
        exact ⟨ex, e2, env2, t2, c2, l2, m2, hL2, by simp only [execC, hX, hX2], hK2⟩
      | exit id => exact ⟨.exit id, e1, env1, t1, c1, l1, m1, hL1, by simp only [execC, hX], hK⟩
      | ret => exact ⟨.ret, e1, env1, t1, c1, l1, m1, hL1, by simp only [execC, hX], hK⟩
    | cond x a b =>
      obtain ⟨d, hx, h1⟩ := kEv_eq (show kEv tb et x (kCondV (kExec P tb CK inR n f) a b et t cur log ms K) = true from h)
      rcases kV_eq (show kV d (fun v => kB v (fun c => br c (kExec P tb CK inR n f a et t cur log ms K) (kExec P tb CK inR n f b et t cur log ms K)) false) false = true from h1) with h2 | ⟨v, rfl, h2⟩
      · cases h2
      rcases kB_eq h2 with h3 | ⟨q, rfl, h3⟩
      · cases h3
      rw [br_eq] at h3
      cases q with
      | true =>
        obtain ⟨ex, e2, env2, t2, c2, l2, m2, hL2, hX2, hK2⟩ := kExec_sound hc hL (show kExec P tb CK inR n f a et t cur log ms K = true from h3)
        exact ⟨ex, e2, env2, t2, c2, l2, m2, hL2, by simp only [execC, evT_eq hL, hx, hX2], hK2⟩
      | false =>
        obtain ⟨ex, e2, env2, t2, c2, l2, m2, hL2, hX2, hK2⟩ := kExec_sound hc hL (show kExec P tb CK inR n f b et t cur log ms K = true from h3)
        exact ⟨ex, e2, env2, t2, c2, l2, m2, hL2, by simp only [execC, evT_eq hL, hx, hX2], hK2⟩
    | block id b =>
      have h1 : kExec P tb CK inR n f b et t cur log ms (kBlk id K) = true := h
      obtain ⟨ex, e1, env1, t1, c1, l1, m1, hL1, hX, hK⟩ := kExec_sound hc hL h1
      cases ex with
      | normal => exact ⟨.normal, e1, env1, t1, c1, l1, m1, hL1, by simp only [execC, hX], hK⟩
      | exit j =>
        have hK' : br (Nat.beq j id) (K .normal e1 t1 c1 l1 m1) (K (.exit j) e1 t1 c1 l1 m1) = true := hK
        rw [br_eq] at hK'
        cases hb : Nat.beq j id with
        | true =>
          rw [hb] at hK'
          exact ⟨.normal, e1, env1, t1, c1, l1, m1, hL1, by simp only [execC, hX, Nat.eq_of_beq_eq_true hb, if_true], hK'⟩
        | false =>
          rw [hb] at hK'
          have : j ≠ id := fun e => by rw [e, Nat.beq_refl] at hb; cases hb
          exact ⟨.exit j, e1, env1, t1, c1, l1, m1, hL1, by simp only [execC, hX, this, if_false], hK'⟩
      | ret => exact ⟨.ret, e1, env1, t1, c1, l1, m1, hL1, by simp only [execC, hX], hK⟩
    | loop b =>
      have h1 : kExec P tb CK inR n f b et t cur log ms (kSeq (kExec P tb CK inR n f) (.loop b) K) = true := h
      obtain ⟨ex, e1, env1, t1, c1, l1, m1, hL1, hX, hK⟩ := kExec_sound hc hL h1
      cases ex with
      | normal =>
        obtain ⟨ex, e2, env2, t2, c2, l2, m2, hL2, hX2, hK2⟩ := kExec_sound hc hL1 (show kExec P tb CK inR n f (.loop b) e1 t1 c1 l1 m1 K = true from hK)
        exact ⟨ex, e2, env2, t2, c2, l2, m2, hL2, by simp only [execC, hX, hX2], hK2⟩
      | exit id => exact ⟨.exit id, e1, env1, t1, c1, l1, m1, hL1, by simp only [execC, hX], hK⟩
      | ret => exact ⟨.ret, e1, env1, t1, c1, l1, m1, hL1, by simp only [execC, hX], hK⟩
    | region id ops draw =>
      have h1 : kRegion P tb CK n ops draw et t cur log ms K = true := h
      unfold kRegion at h1
      rw [kN_eq, br_eq] at h1
      cases draw with
      | true =>
        obtain ⟨e2, env2, t2, c2, l2, fs, hL2, hX, hK⟩ := kRunD_sound hc hL (show kRunD P tb CK (fun i => hidFrom ops cur i 0 ops.size) ops cur n ops.toList 0 et t (cur + 1) log (fun e t c l fs => br (pairsFrom ops 0 fs) (K .normal e t c l ms) false) = true from h1)
        rcases br_or hK with hK | ⟨hp, hK⟩
        · cases hK
        exact ⟨.normal, e2, env2, t2, c2, l2, ms, hL2, by simp only [execC, if_true, hX, hp, Bool.or_true, forceN_eq], hK⟩
      | false =>
        obtain ⟨e2, env2, t2, c2, l2, fs, hL2, hX, hK⟩ := kRunT_sound hc (i := 0) hL (show kRunT P tb CK ops cur n ops.toList et t (cur + 1) log (fun e t c l => K .normal e t c l ms) = true from h1)
        exact ⟨.normal, e2, env2, t2, c2, l2, ms, hL2, by simp only [execC, Bool.false_eq_true, if_false, hX, Bool.not_false, Bool.true_or, if_true, forceN_eq], hK⟩
    | rangeFunc x ps assign body =>
      have h1 : kRange tb CK inR n x ps assign body et t cur log ms K = true := h
      unfold kRange at h1
      rw [br_eq] at h1
      cases inR with
      | true => cases h1
      | false =>
        rw [cond_false] at h1
        obtain ⟨df, hx, h2⟩ := kEv_eq h1
        split at h2
        · rename_i k as hk
          rcases br_or h2 with h3 | ⟨hb, h3⟩
          · cases h3
          rw [kSpine_eq, kN_eq, kUps_eq] at h3
          obtain ⟨d0, t', cur', wl, hcall, h4⟩ := hc _ _ _ _ _ h3
          rw [etL_lays hL] at hcall
          split at h4
          · rename_i q1 q2 q3 q4 st pend ho
            have hst : st ≠ .busy := fun e => by subst e; cases h4
            have h5 : (match exOf pend with
              | some ex => kUps [(cur * KB, none)] t' fun t2 => kApp wl (cur * KB :: (cur * KB + 1) :: log) fun log => K ex et t2 cur' log ((cur * KB + 1) :: ms)
              | none => false) = true := by cases st <;> first | exact h4 | exact absurd rfl hst
            split at h5
            · rename_i ex hex
              rw [kUps_eq, kApp_eq] at h5
              refine ⟨ex, et, env, _, _, _, _, hL, ?_, h5⟩
              have hcall' : CT (.fn k) as (t.ups [(cur * KB + 1, some .dfr), (cur * KB, some (.loop env ps assign body .ready none))]) (cur + 1) = some (d0, t', cur', wl) := hcall
              simp only [execC, Bool.false_eq_true, if_false, evT_eq hL, hx, hk, hb, if_true, hcall', ho, if_neg hst, hex]
            · cases h5
          · cases h4
        · cases h2
end

/-! ### Functions -/

noncomputable def kFill (n : Nat) (ds : List (Option D)) : Nat → ET → (ET → Bool) → Bool :=
  List.rec (motive := fun _ => Nat → ET → (ET → Bool) → Bool) (fun _ et K => K et) (fun x _ ih i et K =>
    Option.rec (motive := fun _ => Bool) (ih (Nat.succ i) et K) (fun d => br (Nat.ble (Nat.succ i) n) (br (Nat.ble i 16382) (ET.kset EF et i d fun et => ih (Nat.succ i) et K) false) false) x) ds

theorem kFill_sound {n : Nat} {K : ET → Bool} : ∀ {ds : List (Option D)} {i : Nat} {et : ET}, kFill n ds i et K = true →
    ∃ et', K et' = true ∧ ∀ j, et'.get j = if i ≤ j ∧ ds.getD (j - i) none ≠ none then ds.getD (j - i) none else et.get j
  | [], i, et, h => ⟨et, h, fun j => by simp⟩
  | none :: ds, i, et, h => by
    obtain ⟨et', hK, hg⟩ := kFill_sound (ds := ds) (i := i + 1) (show kFill n ds (i + 1) et K = true from h)
    refine ⟨et', hK, fun j => ?_⟩
    rw [hg j]
    by_cases hj : i + 1 ≤ j
    · have : j - i = (j - (i + 1)) + 1 := by omega
      rw [this]
      simp only [List.getD_cons_succ, hj, Nat.le_of_succ_le hj, true_and]
    · simp only [hj, false_and, if_false]
      by_cases hij : i ≤ j
      · have : j - i = 0 := by omega
        simp [this]
      · simp [hij]
  | some d :: ds, i, et, h => by
    rcases br_or (show br (Nat.ble (Nat.succ i) n) (br (Nat.ble i 16382) (ET.kset EF et i d fun et => kFill n ds (i + 1) et K) false) false = true from h) with h1 | ⟨hb, h1⟩
    · cases h1
    rcases br_or h1 with h2 | ⟨hb2, h2⟩
    · cases h2
    rw [ET.kset_eq] at h2
    have h4 : i + 1 < 2 ^ EF := Nat.lt_of_le_of_lt (Nat.succ_le_succ (Nat.le_of_ble_eq_true hb2)) (show 16383 < 2 ^ EF by decide)
    obtain ⟨et', hK, hg⟩ := kFill_sound (ds := ds) (i := i + 1) h2
    refine ⟨et', hK, fun j => ?_⟩
    rw [hg j, ET.get_set _ _ _ _ _ h4]
    by_cases hj : i + 1 ≤ j
    · have : j - i = (j - (i + 1)) + 1 := by omega
      have hne : j ≠ i := by omega
      rw [this]
      simp only [List.getD_cons_succ, hj, Nat.le_of_succ_le hj, true_and, hne, if_false]
    · simp only [hj, false_and, if_false]
      by_cases hij : j = i
      · subst hij; simp
      · have : ¬ i ≤ j := by omega
        simp [hij, this]

theorem kFill_lays {n : Nat} {K : ET → Bool} {env : Env} (hl : env.length = n) (h : kFill n env 0 .e K = true) : ∃ et, Lays n et env ∧ K et = true := by
  obtain ⟨et', hK, hg⟩ := kFill_sound h
  refine ⟨et', ⟨hl, fun i => ?_⟩, hK⟩
  rw [hg i]
  by_cases hn : env.getD i none = none
  · simp [hn, ET.get]
  · rw [if_pos ⟨Nat.zero_le _, hn⟩]; rfl

theorem kFill_entry {n : Nat} {ds : List D} {K : ET → Bool} (hl : ds.length ≤ n) (h : kFill n (ds.map some) 0 .e K = true) : ∃ et, Lays n et (entryEnv ds n) ∧ K et = true := by
  obtain ⟨et', hK, hg⟩ := kFill_sound h
  refine ⟨et', ⟨by simp [entryEnv]; omega, fun i => ?_⟩, hK⟩
  rw [hg i]
  simp only [entryEnv, List.getD_eq_getElem?_getD, Nat.sub_zero, Nat.zero_le, true_and]
  by_cases hi : i < ds.length
  · rw [List.getElem?_append_left (by simpa using hi)]
    simp [hi]
  · rw [List.getElem?_append_right (by simpa using Nat.le_of_not_lt hi)]
    have h0 : (ds.map some)[i]? = none := by simp; omega
    rw [h0]
    simp only [Option.getD_none, ne_eq, not_true_eq_false, if_false, ET.get]
    rw [List.getElem?_replicate]
    split <;> rfl

/-- A function's end. -/
noncomputable def kEnd (P : Program) (fn : Func) (K : D → Tr → Nat → List Nm → Bool) (e : ET) (t : Tr) (cur : Nat) (l ms : List Nm) : Bool :=
  br (marksOK t ms) (kUps (goneUp ms) t fun t => kO (resLT P e t fn.results.toList) fun ds => kSpine ds fun ds => kApp ms l fun l =>
    List.rec (motive := fun _ => Bool) (K (.tup []) t cur l) (fun d tl _ => List.rec (motive := fun _ => Bool) (K d t cur l) (fun _ _ _ => K (.tup ds) t cur l) tl) ds) false
theorem kEnd_sound {P : Program} {fn : Func} {et : ET} {env : Env} {n : Nat} {t : Tr} {cur : Nat} {l ms : List Nm} {K : D → Tr → Nat → List Nm → Bool} (h : Lays n et env) (hE : kEnd P fn K et t cur l ms = true) :
    ∃ d t' c' l', endFn P fn env t cur l ms = some (d, t', c', l') ∧ K d t' c' l' = true := by
  unfold kEnd at hE
  rcases br_or hE with h1 | ⟨hm, h1⟩
  · cases h1
  rw [kUps_eq] at h1
  obtain ⟨ds, hr, h2⟩ := kO_eq h1
  rw [kSpine_eq, kApp_eq] at h2
  have hr' := hr
  rw [← resLT_eq h] at hr'
  unfold endFn resD
  rw [if_pos hm, hr']
  rcases ds with _ | ⟨d, _ | ⟨d', ds'⟩⟩
  · exact ⟨.tup [], _, _, _, by simp only [forceD_eq], h2⟩
  · exact ⟨d, _, _, _, by simp only [forceD_eq], h2⟩
  · exact ⟨.tup (d :: d' :: ds'), _, _, _, by simp only [forceD_eq], h2⟩

noncomputable def kFnEnd (P : Program) (fn : Func) (K : D → Tr → Nat → List Nm → Bool) : NextK := fun ex e t c l m =>
  Ex.rec (motive := fun _ => Bool) (kEnd P fn K e t c l m) (fun _ => false) (kEnd P fn K e t c l m) ex

noncomputable def kFn (P : Program) (tb : Nat → Option (List D)) (CK : CallK) (fn : Func) (ds : List D) (t : Tr) (cur : Nat) (K : D → Tr → Nat → List Nm → Bool) : Bool :=
  kO fn.body fun c => br (Nat.ble ds.length fn.ntmps) (kFill fn.ntmps (ds.map some) 0 .e fun et => kExec P tb CK false fn.ntmps LF c et t cur [] [] (kFnEnd P fn K)) false

theorem kFn_sound {P : Program} {tb : Nat → Option (List D)} {CK : CallK} {CT : CallT} (hc : KOK CK CT) {fn : Func} {ds : List D} {t : Tr} {cur : Nat} {K : D → Tr → Nat → List Nm → Bool} (h : kFn P tb CK fn ds t cur K = true) :
    ∃ c d t' c' wl, fn.body = some c ∧ (match execC P CT tb false LF c (entryEnv ds fn.ntmps) t cur [] [] with
      | some (.normal, e, t', c', l, ms) => endFn P fn e t' c' l ms
      | some (.ret, e, t', c', l, ms) => endFn P fn e t' c' l ms
      | _ => none) = some (d, t', c', wl) ∧ K d t' c' wl = true := by
  obtain ⟨c, hb, h1⟩ := kO_eq h
  rcases br_or h1 with h2 | ⟨hl, h2⟩
  · cases h2
  obtain ⟨et, hL, h3⟩ := kFill_entry (Nat.le_of_ble_eq_true hl) h2
  obtain ⟨ex, e2, env2, t2, c2, l2, m2, hL2, hX, hK⟩ := kExec_sound hc hL h3
  cases ex with
  | normal =>
    obtain ⟨d, t', c', l', hE, hK2⟩ := kEnd_sound hL2 (show kEnd P fn K e2 t2 c2 l2 m2 = true from hK)
    exact ⟨c, d, t', c', l', hb, by rw [hX]; exact hE, hK2⟩
  | exit _ => cases hK
  | ret =>
    obtain ⟨d, t', c', l', hE, hK2⟩ := kEnd_sound hL2 (show kEnd P fn K e2 t2 c2 l2 m2 = true from hK)
    exact ⟨c, d, t', c', l', hb, by rw [hX]; exact hE, hK2⟩

/-- A round of a loop over a function. -/
noncomputable def kRnd2 (o : Nat) (K : D → Tr → Nat → List Nm → Bool) : NextK := fun ex e3 t3 c3 l3 m3 =>
  match m3, t3.get o, roundEnd ex with
  | [], some (.loop env2 ps2 as2 b2 _ _), some (st, pend, r) => kUps [(o, some (.loop env2 ps2 as2 b2 st pend))] t3 fun t4 => K (.v (.bool r)) t4 c3 (o :: l3)
  | _, _, _ => false
noncomputable def kRnd1 (P : Program) (tb : Nat → Option (List D)) (CK : CallK) (n : Nat) (o : Nat) (body : Code) (K : D → Tr → Nat → List Nm → Bool) : NextK := fun ex e1 t1 c1 l1 m1 =>
  match ex, m1, t1.get o with
  | .normal, [], some (.loop env' ps' as' b' .ready pd) => kUps [(o, some (.loop env' ps' as' b' .busy pd))] t1 fun t1 => kExec P tb CK true n LF body e1 t1 c1 l1 [] (kRnd2 o K)
  | _, _, _ => false
noncomputable def kRnd (P : Program) (tb : Nat → Option (List D)) (CK : CallK) (o : Nat) (ds : List D) (t : Tr) (cur : Nat) (K : D → Tr → Nat → List Nm → Bool) : Bool :=
  match t.get o with
  | some (.loop env ps assign body .ready none) => br (ps.size == ds.length && codeOK assign && codeOK body && Nat.blt (o + 1) (2 ^ 64))
      (kFill env.length (setParams env ps.toList ds) 0 .e fun et => kExec P tb CK true env.length LF assign et t cur [] [] (kRnd1 P tb CK env.length o body K)) false
  | _ => false

noncomputable def kCallAt (P : Program) (FT : FuncId → Option Func) (tb : Nat → Option (List D)) (CK : CallK) (tg : Tgt) (ds : List D) (t : Tr) (cur : Nat) (K : D → Tr → Nat → List Nm → Bool) : Bool :=
  Tgt.rec (motive := fun _ => Bool) (fun f => kO (FT f) fun fn => kFn P tb CK fn ds t cur K) (fun o => kRnd P tb CK o ds t cur K) tg
noncomputable def callK (P : Program) (FT : FuncId → Option Func) (tb : Nat → Option (List D)) (n : Nat) : CallK :=
  Nat.rec (motive := fun _ => CallK) (fun _ _ _ _ _ => false) (fun _ rec tg ds t cur K => kCallAt P FT tb rec tg ds t cur K) n

theorem callK_sound {P : Program} {FT : FuncId → Option Func} {tb : Nat → Option (List D)} : ∀ n, KOK (callK P FT tb n) (callX P FT (fun _ _ _ _ => none) tb n)
  | 0 => fun tg ds t cur F h => by cases h
  | n + 1 => fun tg ds t cur F h => by
    have hc := callK_sound (P := P) (FT := FT) (tb := tb) n
    unfold callX
    simp only
    cases tg with
    | fn f =>
      obtain ⟨fn, hf, h1⟩ := kO_eq (show kO (FT f) (fun fn => kFn P tb (callK P FT tb n) fn ds t cur F) = true from h)
      obtain ⟨c, d, t', c', wl, hb, hX, hK⟩ := kFn_sound hc h1
      exact ⟨d, t', c', wl, by simp only [hf, hb]; exact hX, hK⟩
    | yld o =>
      have h1 : kRnd P tb (callK P FT tb n) o ds t cur F = true := h
      unfold kRnd at h1
      split at h1
      · rename_i env ps assign body ho
        rcases br_or h1 with h2 | ⟨hg, h2⟩
        · cases h2
        obtain ⟨et, hL, h3⟩ := kFill_lays (setParams_len) h2
        obtain ⟨ex, e1, env1, t1, c1, l1, m1, hL1, hX, hK⟩ := kExec_sound hc hL h3
        unfold kRnd1 at hK
        split at hK
        · rename_i env' ps' as' b' pd ho1
          rw [kUps_eq] at hK
          obtain ⟨ex, e3, env3, t3, c3, l3, m3, hL3, hX3, hK3⟩ := kExec_sound hc hL1 hK
          unfold kRnd2 at hK3
          split at hK3
          · rename_i env2 ps2 as2 b2 q1 q2 st pend r ho3 hre
            rw [kUps_eq] at hK3
            refine ⟨_, _, _, _, ?_, hK3⟩
            simp only [ho, hg, if_true, hX, ho1, hX3, ho3, hre]
          · cases hK3
        · cases hK
      · cases h1

end Go.Ab
