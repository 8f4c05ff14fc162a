/-
  Maps: what looking up, laying, taking out and walking do.
-/
import Derived.Test.YtahhpefgeeofhaaGreatDoorZeOps3
import Derived.MapKept
set_option linter.unusedSimpArgs false
set_option linter.unusedVariables false
namespace Go.Ab

def isScalar (P : Program) (t : TypeId) : Bool := match P.underlying t with | some .bool | some (.int _) | some .string => true | _ => false

/-- Are two numbers, texts or truths one? -/
def sameV : D → D → Bool
  | .v (.int j a), .v (.int k b) => j == k && a == b
  | .v (.string a), .v (.string b) => a == b
  | .v (.bool a), .v (.bool b) => a == b
  | _, _ => false

def scalarD : D → Bool
  | .v (.int _ _) | .v (.string _) | .v (.bool _) => true
  | _ => false

/-- A key that may be: a number, a text, a truth, or a row of such. -/
def keyOK (P : Program) (t : TypeId) : D → Bool
  | .v x => isScalar P t && scalarD (.v x)
  | .agg cs => (match P.underlying t with
    | some (.array n e) => isScalar P e && ((P.info? e).map (·.size) == some 1) && cs.length == n && cs.all scalarD
    | _ => false)
  | _ => false

def sameKey : D → D → Bool
  | .agg xs, .agg ys => xs.length == ys.length && (xs.zip ys).all fun p => sameV p.1 p.2
  | x, y => sameV x y

def findD (P : Program) (t : TypeId) (k : D) : List MEnt → Nat → Option (Option (Nat × MEnt))
  | [], _ => some none
  | e :: es, i => if keyOK P t e.key = true then (match eqD P 9 t k e.key with
    | some true => some (some (i, e))
    | some false => findD P t k es (i + 1)
    | none => none) else none

section
variable {P : Program} {tb : Nat → Option (List D)} {g g' : G} {B : Base} {w w' : World} {hp : Hp} {free : Nm → Prop} {a : Act}

theorem isScalar_spec {t : TypeId} (h : isScalar P t = true) : ∃ d, P.underlying t = some d ∧ (d = .bool ∨ (∃ k, d = .int k) ∨ d = .string) := by
  unfold isScalar at h
  split at h <;> first | (rename_i hd; exact ⟨_, hd, by simp⟩) | cases h

theorem run_checkKey_scalar {t : TypeId} (h : isScalar P t = true) (em : Bool) (n : Nat) (X : Value) : (Instr.checkKey em (n + 1) t X).run P w = .ok () w := by
  obtain ⟨d, hd, rfl | ⟨k, rfl⟩ | rfl⟩ := isScalar_spec h <;> simp [Instr.checkKey, run_underlying hd]

theorem run_forIn_unit (F : Nat → PUnit.{1} → Sem (ForInStep PUnit.{1})) : ∀ (k m : Nat), (∀ i s, m ≤ i → i < m + k → (F i s).run P w = .ok (.yield ()) w) →
    (forIn (m := Sem) (List.range' m k) PUnit.unit F).run P w = .ok PUnit.unit w
  | 0, m, _ => by simp
  | k + 1, m, h => by
    have h0 := h m PUnit.unit (Nat.le_refl _) (by omega)
    have ih := run_forIn_unit F k (m + 1) (fun i s h1 h2 => h i s (by omega) (by omega))
    simp only [List.range'_succ, List.forIn_cons, Sem.run_bind, h0, Result.andThen_ok]
    exact ih

theorem run_checkKey_ok {t : TypeId} {k : D} {K : Value} (h : keyOK P t k = true) (hr : Rel g w k K) (em : Bool) (m : Nat) : (Instr.checkKey em (m + 2) t K).run P w = .ok () w := by
  unfold keyOK at h
  split at h
  · simp only [Bool.and_eq_true] at h
    exact run_checkKey_scalar h.1 em (m + 1) K
  · rename_i cs
    split at h
    · rename_i n e ht
      simp only [Bool.and_eq_true, beq_iff_eq] at h
      obtain ⟨⟨⟨h1, h2⟩, h3⟩, h4⟩ := h
      simp only [Rel] at hr
      obtain ⟨vs, rfl, hl⟩ := hr
      have hs : (sizeOf e).run P w = .ok 1 w := by
        cases hi : P.info? e with
        | none => simp [hi] at h2
        | some i => simp [hi] at h2; simp [sizeOf, typeInfo, hi, h2]
      have hu : P.underlying e ≠ none := by obtain ⟨d, hd, _⟩ := isScalar_spec h1; rw [hd]; simp
      have ha : aggD P e = false := by
        obtain ⟨d, hd, hh⟩ := isScalar_spec h1
        rcases hh with rfl | ⟨k, rfl⟩ | rfl <;> simp [aggD, hd, TypeDesc.isRow]
      have hin : ∀ v, (Instr.checkKey em (m + 1) e v).run P w = .ok () w := fun v => run_checkKey_scalar h1 em m v
      obtain ⟨q, hq⟩ : ∃ q, q = m + 1 := ⟨_, rfl⟩
      rw [← hq] at hin
      rw [show m + 2 = q + 1 by omega]
      simp only [Instr.checkKey, Sem.run_bind, run_underlying ht, Result.andThen_ok]
      rw [Std.Legacy.Range.forIn_eq_forIn_range']
      simp only [Std.Legacy.Range.size, Nat.sub_zero, Nat.add_sub_cancel, Nat.div_one]
      rw [run_forIn_unit]
      · simp
      intro i s _ hi
      have hiv : i < vs.length := by have := hl.length; omega
      have px : (part e vs.toArray (i * 1)).run P w = .ok vs[i] w := by simp [part, Sem.run_bind, run_isAgg' hu, ha, hiv]
      simp only [Sem.run_bind, hs, Result.andThen_ok, px, hin, Sem.run_pure]
    · cases h
  · cases h

theorem scalarD_v {d : D} (h : scalarD d = true) : ∃ x, d = .v x := by
  unfold scalarD at h
  split at h <;> first | exact ⟨_, rfl⟩ | cases h

/-- The search for a key. -/
theorem find_asking {t : TypeId} {k : D} {K : Value} (hk : Rel g w k K) : ∀ {es : List MEnt} {xs : List MapEntry} {i : Nat} {r : Option (Nat × MEnt)}, findD P t k es i = some r → RelM g w es xs →
    (match r with
      | some (j, e) => ∃ x, xs[j - i]? = some x ∧ es[j - i]? = some e ∧ i ≤ j ∧ Rel g w e.key x.key ∧ Rel g w e.val x.val ∧ x.born = e.born ∧ keyOK P t e.key = true ∧ (Instr.findAsking t K xs i).run P w = .ok (some (j, x.val)) w
      | none => (Instr.findAsking t K xs i).run P w = .ok none w)
  | [], xs, i, r, h, hm => by
    simp only [findD] at h; cases h
    simp only [RelM] at hm; subst hm
    simp [Instr.findAsking]
  | e :: es, xs, i, r, h, hm => by
    simp only [RelM] at hm
    obtain ⟨x, ys, rfl, h1, h2, h3, h4⟩ := hm
    simp only [findD] at h
    split at h
    · rename_i hok
      split at h
      · rename_i heq
        cases h
        have := run_eqD heq (d := 10000) (by omega) hk h1
        refine ⟨x, by simp, by simp, Nat.le_refl _, h1, h2, h3, hok, ?_⟩
        simp [Instr.findAsking, Op.equal, Op.maxDepth, this]
      · rename_i heq
        have := run_eqD heq (d := 10000) (by omega) hk h1
        have ih := find_asking hk h h4
        have hrun : (Instr.findAsking t K (x :: ys) i).run P w = (Instr.findAsking t K ys (i + 1)).run P w := by
          simp [Instr.findAsking, Op.equal, Op.maxDepth, this]
        cases r with
        | none => rw [hrun]; exact ih
        | some p =>
          obtain ⟨j, e'⟩ := p
          obtain ⟨y, q1, q2, q3, q4, q5, q6, q7, q8⟩ := ih
          refine ⟨y, ?_, ?_, by omega, q4, q5, q6, q7, by rw [hrun]; exact q8⟩
          · rw [show j - i = (j - (i + 1)) + 1 by omega]; simpa using q1
          · rw [show j - i = (j - (i + 1)) + 1 by omega]; simpa using q2
      · cases h
    · cases h

theorem run_equalIn_now {t : TypeId} {d : TypeDesc} (hd : P.underlying t = some d) (hs : d = .bool ∨ (∃ k, d = .int k) ∨ d = .string) {X Y : Value} {b : Bool} (hb : Instr.sameNow d X Y = some b) (n : Nat) : (Op.equalIn (n + 1) t X Y).run P w = .ok b w := by
  unfold Instr.sameNow at hb
  split at hb
  · split at hb
    · rename_i hk
      cases hb
      simp [Op.equalIn, run_underlying hd, hk]
    · cases hb
  · cases hb; simp [Op.equalIn, run_underlying hd]
  · cases hb; simp [Op.equalIn, run_underlying hd]
  · cases hb

theorem findNow_asking {t : TypeId} {d : TypeDesc} (hd : P.underlying t = some d) (hs : d = .bool ∨ (∃ k, d = .int k) ∨ d = .string) {K : Value} : ∀ {xs : List MapEntry} {i : Nat} {r : Option (Nat × Value)},
    Instr.findNow d K xs i = some r → (Instr.findAsking t K xs i).run P w = .ok r w
  | [], i, r, h => by simp only [Instr.findNow] at h; cases h; simp [Instr.findAsking]
  | x :: xs, i, r, h => by
    simp only [Instr.findNow] at h
    have key : ∀ b, Instr.sameNow d K x.key = some b → (Op.equal t K x.key).run P w = .ok b w := by
      intro b hb
      exact run_equalIn_now hd hs hb 9999
    split at h
    · rename_i hb
      cases h
      simp [Instr.findAsking, key _ hb]
    · rename_i hb
      simp [Instr.findAsking, key _ hb, findNow_asking hd hs h]
    · cases h

theorem run_findKey_asking {t : TypeId} {k : D} {K : Value} (hk : keyOK P t k = true) {xs : List MapEntry} {r : Option (Nat × Value)} (h : (Instr.findAsking t K xs 0).run P w = .ok r w) : (Instr.findKey t K xs).run P w = .ok r w := by
  have hu : ∃ d, P.underlying t = some d ∧ ((d = .bool ∨ (∃ k, d = .int k) ∨ d = .string) ∨ ∃ n e, d = .array n e) := by
    unfold keyOK at hk
    split at hk
    · simp only [Bool.and_eq_true] at hk
      obtain ⟨d, hd, hs⟩ := isScalar_spec hk.1
      exact ⟨d, hd, .inl hs⟩
    · split at hk
      · rename_i n e ht; exact ⟨_, ht, .inr ⟨n, e, rfl⟩⟩
      · cases hk
    · cases hk
  obtain ⟨d, hd, hs⟩ := hu
  unfold Instr.findKey
  simp only [Sem.run_bind, run_underlying hd, Result.andThen_ok]
  cases hn : Instr.findNow d K xs 0 with
  | none => simp only [hn]; exact h
  | some r' =>
    rcases hs with hs | ⟨n, e, rfl⟩
    · have := findNow_asking (P := P) (w := w) hd hs hn
      rw [this] at h
      simp only [hn, Sem.run_pure]
      exact h
    · cases xs with
      | nil =>
        simp only [Instr.findNow] at hn
        cases hn
        simp only [Sem.run_pure]
        simpa [Instr.findAsking] using h
      | cons x xs => simp [Instr.findNow, Instr.sameNow] at hn

end
end Go.Ab
