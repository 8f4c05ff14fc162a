/-
  Operators, conversions, lengths, and the rest of what touches no memory.
-/
import Derived.Test.YtahhpefgeeofhaaGreatDoorZdOps
import Derived.Laws.StructEq
set_option linter.unusedSimpArgs false
set_option linter.unusedVariables false
namespace Go.Ab
section
variable {P : Program} {g : G} {w : World}

/-- Two whole numbers. -/
def intV (op : BinOp) (k : IntKind) (a : Int) (k' : IntKind) (b : Int) : Option Value :=
  match op with
  | .shl => if b < 0 then none else some (.int k (k.wrap (a * 2 ^ (min b.toNat k.bits))))
  | .shr => if b < 0 then none else some (.int k (a.fdiv (2 ^ (min b.toNat k.bits))))
  | _ => if k ≠ k' then none else
    match op with
    | .add => some (.int k (k.wrap (a + b)))
    | .sub => some (.int k (k.wrap (a - b)))
    | .mul => some (.int k (k.wrap (a * b)))
    | .quo => if b = 0 then none else some (.int k (k.wrap (a.tdiv b)))
    | .rem => if b = 0 then none else some (.int k (a.tmod b))
    | .and => some (.int k (k.wrap ((BitVec.ofInt k.bits a &&& BitVec.ofInt k.bits b).toNat)))
    | .or => some (.int k (k.wrap ((BitVec.ofInt k.bits a ||| BitVec.ofInt k.bits b).toNat)))
    | .xor => some (.int k (k.wrap ((BitVec.ofInt k.bits a ^^^ BitVec.ofInt k.bits b).toNat)))
    | .andNot => some (.int k (k.wrap ((BitVec.ofInt k.bits a &&& ~~~ BitVec.ofInt k.bits b).toNat)))
    | .eql => some (.bool (a == b))
    | .neq => some (.bool (a != b))
    | .lss => some (.bool (a < b))
    | .leq => some (.bool (a ≤ b))
    | .gtr => some (.bool (a > b))
    | .geq => some (.bool (a ≥ b))
    | _ => none

theorem run_intV {op : BinOp} {t : TypeId} {k k' : IntKind} {a b : Int} {v : Value} (h : intV op k a k' b = some v) :
    (binOp op t (.int k a) (.int k' b)).run P w = .ok v w := by
  by_cases hk : k = k'
  · subst hk
    by_cases hb : b < 0 <;> by_cases hz : b = 0 <;> cases op <;>
      simp [intV, hb, hz] at h <;> (try subst h) <;> simp [binOp, Op.shift, Op.intArith, Op.intBits, Op.intCmp, Op.intDiv, hb, hz]
  · by_cases hb : b < 0 <;> cases op <;> simp [intV, hk, hb] at h <;> (try subst h) <;> simp [binOp, Op.shift, hk, hb]

def strV (op : BinOp) (a b : ByteArray) : Option Value :=
  match op with
  | .add => if ((a.size + b.size : Nat) : Int) > IntKind.i64.max then none else some (.string (a ++ b))
  | .eql => some (.bool (a.toList == b.toList))
  | .neq => some (.bool !(a.toList == b.toList))
  | .lss => some (.bool (Op.bytesLess a.toList b.toList))
  | .leq => some (.bool (Op.bytesLess a.toList b.toList || a.toList == b.toList))
  | .gtr => some (.bool !(Op.bytesLess a.toList b.toList || a.toList == b.toList))
  | .geq => some (.bool !(Op.bytesLess a.toList b.toList))
  | _ => none

theorem run_strV {op : BinOp} {t : TypeId} {a b : ByteArray} {v : Value} (h : strV op a b = some v) :
    (binOp op t (.string a) (.string b)).run P w = .ok v w := by
  by_cases hb : ((a.size + b.size : Nat) : Int) > IntKind.i64.max <;> cases op <;>
    simp only [strV, hb, if_true, if_false, Option.some.injEq, reduceCtorEq] at h <;> (try subst h) <;>
    simp only [binOp, Op.stringOp, hb, if_true, if_false, Sem.run_pure] <;> cases h

theorem run_forIn_all {p : Nat → Bool} (F : Nat → (Option Bool × PUnit.{1}) → Sem (ForInStep (Option Bool × PUnit.{1}))) : ∀ (k m : Nat),
    (∀ i s, m ≤ i → i < m + k → (F i s).run P w = .ok (if p i = true then .yield (none, ()) else .done (some false, ())) w) →
    (forIn (m := Sem) (List.range' m k) (none, PUnit.unit) F).run P w = .ok (if (List.range' m k).all p = true then (none, PUnit.unit) else (some false, PUnit.unit)) w
  | 0, m, _ => by simp
  | k + 1, m, h => by
    have h0 := h m (none, PUnit.unit) (Nat.le_refl _) (by omega)
    have ih := run_forIn_all F k (m + 1) (fun i s h1 h2 => h i s (by omega) (by omega))
    simp only [List.range'_succ, List.forIn_cons, Sem.run_bind, h0, Result.andThen_ok, List.all_cons]
    cases hp : p m with
    | false => simp
    | true => simp only [if_true, Bool.true_and]; exact ih

/-- Two rows of numbers, texts or truths are held against one another one by one. -/
theorem run_equalIn_row {d : Nat} {t e : TypeId} {n : Nat} {xs ys : List Value} {p : Nat → Bool} (ht : P.underlying t = some (.array n e)) (he : (P.info? e).map (·.size) = some 1)
    (hx : xs.length = n) (hy : ys.length = n) (ha : aggD P e = false) (hu : P.underlying e ≠ none)
    (h : ∀ i x y, xs[i]? = some x → ys[i]? = some y → (Op.equalIn d e x y).run P w = .ok (p i) w) :
    (Op.equalIn (d + 1) t (.agg xs.toArray) (.agg ys.toArray)).run P w = .ok ((List.range n).all p) w := by
  have hs : (sizeOf e).run P w = .ok 1 w := by
    cases hi : P.info? e with
    | none => simp [hi] at he
    | some i => simp [hi] at he; simp [sizeOf, typeInfo, hi, he]
  simp only [Op.equalIn, Sem.run_bind, run_underlying ht, Result.andThen_ok, hs]
  rw [Std.Legacy.Range.forIn_eq_forIn_range']
  simp only [Std.Legacy.Range.size, Nat.sub_zero, Nat.add_sub_cancel, Nat.div_one]
  rw [List.range_eq_range', run_forIn_all (p := p)]
  · cases (List.range' 0 n).all p <;> simp
  · intro m s _ hm
    have hmx : m < xs.length := by omega
    have hmy : m < ys.length := by omega
    have h1 := h m xs[m] ys[m] (by simp [hmx]) (by simp [hmy])
    have px : (part e xs.toArray (m * 1)).run P w = .ok xs[m] w := by simp [part, Sem.run_bind, run_isAgg' hu, ha, hmx]
    have py : (part e ys.toArray (m * 1)).run P w = .ok ys[m] w := by simp [part, Sem.run_bind, run_isAgg' hu, ha, hmy]
    simp only [Sem.run_bind, px, py, h1, Result.andThen_ok]
    cases hp : p m <;> simp

def eqLD (E : D → D → Option Bool) : List D → List D → Option Bool
  | [], [] => some true
  | x :: xs, y :: ys => match E x y, eqLD E xs ys with
    | some a, some b => some (a && b)
    | _, _ => none
  | _, _ => none

def eqFieldsD (P : Program) (E : TypeId → D → D → Option Bool) (xs ys : List D) : List Field → Option Bool
  | [] => some true
  | f :: fs => if f.name = "_" then eqFieldsD P E xs ys fs else
    match partD P f.type xs f.offset, partD P f.type ys f.offset with
    | some a, some b => match E f.type a b, eqFieldsD P E xs ys fs with
      | some r, some q => some (r && q)
      | _, _ => none
    | _, _ => none

/-- Are two things the same? -/
def eqD (P : Program) : Nat → TypeId → D → D → Option Bool
  | 0, _, _, _ => none
  | n + 1, t, x, y => match P.underlying t, x, y with
    | some .bool, .v (.bool a), .v (.bool b) => some (a == b)
    | some (.int _), .v (.int k a), .v (.int k' b) => if k = k' then some (a == b) else none
    | some .string, .v (.string a), .v (.string b) => some (a.toList == b.toList)
    | some (.pointer _), .v (.pointer none), .v (.pointer none) => some true
    | some (.pointer _), .ptr _ _, .v (.pointer none) => some false
    | some (.pointer _), .v (.pointer none), .ptr _ _ => some false
    | some (.array len e), .agg xs, .agg ys =>
      if (P.info? e).map (·.size) = some 1 ∧ aggD P e = false ∧ xs.length = len ∧ ys.length = len then eqLD (eqD P n e) xs ys else none
    | some (.struct fs), .agg xs, .agg ys => if P.stoodInHeld t = true then none else eqFieldsD P (eqD P n) xs ys fs.toList
    | _, _, _ => none

theorem eqLD_all {E : D → D → Option Bool} : ∀ {xs ys : List D} {r : Bool}, eqLD E xs ys = some r →
    ∃ p : Nat → Bool, (List.range xs.length).all p = r ∧ ∀ i x y, xs[i]? = some x → ys[i]? = some y → E x y = some (p i)
  | [], [], r, h => by simp only [eqLD] at h; cases h; exact ⟨fun _ => true, by simp, fun i x y hx => by simp at hx⟩
  | [], _ :: _, r, h => by simp [eqLD] at h
  | _ :: _, [], r, h => by simp [eqLD] at h
  | x :: xs, y :: ys, r, h => by
    simp only [eqLD] at h
    split at h
    · rename_i a b h1 h2
      cases h
      obtain ⟨p, hp, hall⟩ := eqLD_all h2
      refine ⟨fun i => if i = 0 then a else p (i - 1), ?_, ?_⟩
      · rw [List.length_cons, List.range_succ_eq_map, List.all_cons, List.all_map, ← hp]
        simp [Function.comp_def]
      · intro i x' y' hx hy
        cases i with
        | zero => simp at hx hy; subst hx hy; simpa using h1
        | succ i => simp at hx hy; simpa using hall i x' y' hx hy
    · cases h

theorem run_eqFields {n d : Nat} {xs ys : List D} {us vs : List Value} (E : TypeId → D → D → Option Bool) (hx : RelL g w xs us) (hy : RelL g w ys vs)
    (hE : ∀ t x y X Y r, E t x y = some r → Rel g w x X → Rel g w y Y → (Op.equalIn d t X Y).run P w = .ok r w) :
    ∀ (fs : List Field) (r : Bool), eqFieldsD P E xs ys fs = some r → (Op.eqFields d us.toArray vs.toArray fs).run P w = .ok r w
  | [], r, h => by simp only [eqFieldsD] at h; cases h; simp [Op.eqFields]
  | f :: fs, r, h => by
    simp only [eqFieldsD] at h
    split at h
    · rename_i hn
      have := run_eqFields (n := n) E hx hy hE fs r h
      simpa [Op.eqFields, hn] using this
    · rename_i hn
      split at h
      · rename_i a b h1 h2
        split at h
        · rename_i r1 q h3 h4
          cases h
          obtain ⟨X, hX, rX⟩ := run_part (P := P) h1 hx
          obtain ⟨Y, hY, rY⟩ := run_part (P := P) h2 hy
          have h5 := hE _ _ _ _ _ _ h3 rX rY
          have h6 := run_eqFields (n := n) E hx hy hE fs q h4
          simp only [Op.eqFields, ne_eq, hn, not_false_eq_true, if_true, Sem.run_bind, hX, hY, h5, Result.andThen_ok]
          cases r1 with
          | false => simp
          | true => simpa using h6
        · cases h
      · cases h

theorem run_eqD : ∀ {n d : Nat} {t : TypeId} {x y : D} {X Y : Value} {r : Bool}, eqD P n t x y = some r → n ≤ d → Rel g w x X → Rel g w y Y → (Op.equalIn d t X Y).run P w = .ok r w
  | 0, _, _, _, _, _, _, _, h, _, _, _ => by simp [eqD] at h
  | n + 1, 0, _, _, _, _, _, _, _, hd, _, _ => by omega
  | n + 1, d + 1, t, x, y, X, Y, r, h, hd, rX, rY => by
    simp only [eqD] at h
    split at h
    · rename_i hu; cases h; simp only [Rel] at rX rY; obtain ⟨rfl, _⟩ := rX; obtain ⟨rfl, _⟩ := rY
      simp [Op.equalIn, run_underlying hu w]
    · rename_i hu; split at h
      · rename_i hk; subst hk; cases h; simp only [Rel] at rX rY; obtain ⟨rfl, _⟩ := rX; obtain ⟨rfl, _⟩ := rY
        simp [Op.equalIn, run_underlying hu w]
      · cases h
    · rename_i hu; cases h; simp only [Rel] at rX rY; obtain ⟨rfl, _⟩ := rX; obtain ⟨rfl, _⟩ := rY
      simp [Op.equalIn, run_underlying hu w, beq_toListBytes]
    · rename_i hu; cases h; simp only [Rel] at rX rY; obtain ⟨rfl, _⟩ := rX; obtain ⟨rfl, _⟩ := rY
      simp [Op.equalIn, run_underlying hu w]
    · rename_i hu; cases h; simp only [Rel] at rX rY; obtain ⟨_, _, _, rfl⟩ := rX; obtain ⟨rfl, _⟩ := rY
      simp [Op.equalIn, run_underlying hu w]
    · rename_i hu; cases h; simp only [Rel] at rX rY; obtain ⟨rfl, _⟩ := rX; obtain ⟨_, _, _, rfl⟩ := rY
      simp [Op.equalIn, run_underlying hu w]
    · rename_i len e xs ys hu
      split at h
      · rename_i hc
        obtain ⟨h1, h2, h3, h4⟩ := hc
        obtain ⟨p, hp, hall⟩ := eqLD_all h
        simp only [Rel] at rX rY
        obtain ⟨us, rfl, rX⟩ := rX
        obtain ⟨vs, rfl, rY⟩ := rY
        have hlx := rX.length
        have hly := rY.length
        by_cases hlen : len = 0
        · subst hlen
          have e1 : xs = [] := List.length_eq_zero_iff.1 h3
          subst e1
          simp at hp
          subst hp
          have hs : (sizeOf e).run P w = .ok 1 w := by
            cases hi : P.info? e with
            | none => simp [hi] at h1
            | some i => simp [hi] at h1; simp [sizeOf, typeInfo, hi, h1]
          simp only [Op.equalIn, Sem.run_bind, run_underlying hu, Result.andThen_ok, hs]
          rw [Std.Legacy.Range.forIn_eq_forIn_range']
          simp [Std.Legacy.Range.size]
        · have hue : P.underlying e ≠ none := by
            intro hn
            have hx0 : 0 < xs.length := by omega
            have hy0 : 0 < ys.length := by omega
            have h6 := hall 0 xs[0] ys[0] (by simp [hx0]) (by simp [hy0])
            cases n with
            | zero => simp [eqD] at h6
            | succ n => simp [eqD, hn] at h6
          have := run_equalIn_row (P := P) (w := w) (d := d) (t := t) (e := e) (n := len) (xs := us) (ys := vs) (p := p) hu h1 (by omega) (by omega) h2 hue (by
            intro i X Y hX hY
            have hi : i < xs.length := by have := (List.getElem?_eq_some_iff.1 hX).1; omega
            have hi' : i < ys.length := by omega
            obtain ⟨X', hX', r1⟩ := rX.get (i := i) (d := xs[i]) (by simp [hi])
            obtain ⟨Y', hY', r2⟩ := rY.get (i := i) (d := ys[i]) (by simp [hi'])
            rw [hX] at hX'; cases hX'
            rw [hY] at hY'; cases hY'
            exact run_eqD (hall i _ _ (by simp [hi]) (by simp [hi'])) (by omega) r1 r2)
          rw [this, ← hp, h3]
      · cases h
    · rename_i fs xs ys hu
      split at h
      · cases h
      · rename_i hs
        simp only [Rel] at rX rY
        obtain ⟨us, rfl, rX⟩ := rX
        obtain ⟨vs, rfl, rY⟩ := rY
        have hf : P.fieldsOf t = fs := by simp [Program.fieldsOf, hu]
        rw [run_equalIn_struct w d t us.toArray vs.toArray (by rw [hf]; exact hu) (by simpa using hs), hf]
        exact run_eqFields (n := n) (eqD P n) rX rY (fun t x y X Y r h1 h2 h3 => run_eqD h1 (by omega) h2 h3) fs.toList r h
    · cases h

end
end Go.Ab
