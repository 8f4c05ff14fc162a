/-
  Operations on plain data: what each yields (opP), and that the machine yields it, whatever memory does.
-/
import Derived.Test.YtahhpefgeeofhaaGreatDoorZdBase
import Derived.Laws.Slices
set_option linter.unusedSimpArgs false
set_option linter.unusedVariables false
namespace Go.Ab

def szD (P : Program) (t : TypeId) : Nat := ((P.info? t).map (·.size)).getD 0
def aggD (P : Program) (t : TypeId) : Bool := match P.underlying t with | some d => d.isRow | none => false

/-- A part of some cells, at a type. -/
def partD (P : Program) (t : TypeId) (cs : List D) (off : Nat) : Option D :=
  if P.underlying t = none ∨ P.info? t = none then none
  else if aggD P t then (if off + szD P t ≤ cs.length then some (.agg ((cs.drop off).take (szD P t))) else none) else cs[off]?

def D.ofV : Value → Option D
  | .agg cs => if cs.toList.all noAgg then some (.agg (cs.toList.map .v)) else none
  | x => some (.v x)

theorem relL_map {g : G} {w : World} : ∀ {vs : List Value}, vs.all noAgg = true → RelL g w (vs.map .v) vs
  | [], _ => by simp [RelL]
  | x :: xs, h => by
    simp only [List.all_cons, Bool.and_eq_true] at h
    simp only [List.map_cons, RelL, Rel]
    exact ⟨x, xs, rfl, ⟨rfl, h.1⟩, relL_map h.2⟩

theorem rel_ofV {g : G} {w : World} {v : Value} {d : D} (h : D.ofV v = some d) : Rel g w d v := by
  unfold D.ofV at h
  split at h
  · rename_i cs
    split at h
    · rename_i hall
      cases h
      simp only [Rel]
      exact ⟨cs.toList, by simp, relL_map hall⟩
    · cases h
  · rename_i hne
    cases h
    show v = v ∧ noAgg v = true
    refine ⟨rfl, ?_⟩
    cases v <;> first | rfl | exact absurd rfl (hne _)

section
variable {P : Program} {g : G} {w : World}

theorem run_isAgg' {t : TypeId} (h : P.underlying t ≠ none) : (isAgg t).run P w = .ok (aggD P t) w := by
  cases hu : P.underlying t with
  | none => exact absurd hu h
  | some d => unfold isAgg; simp only [Sem.run_bind, run_underlying hu w, Result.andThen_ok]; cases d <;> simp [aggD, hu, TypeDesc.isRow]

theorem run_sizeOf' {t : TypeId} (h : P.info? t ≠ none) : (sizeOf t).run P w = .ok (szD P t) w := by
  cases hu : P.info? t with
  | none => exact absurd hu h
  | some i => simp [sizeOf, typeInfo, hu, szD]

theorem underlying_of_info {t : TypeId} (h : P.underlying t ≠ none) : P.info? t ≠ none := by
  intro hn
  apply h
  unfold Program.underlying
  rw [hn]

theorem run_part {t : TypeId} {cs : List D} {vs : List Value} {off : Nat} {d : D} (h : partD P t cs off = some d) (hr : RelL g w cs vs) :
    ∃ u, (part t vs.toArray off).run P w = .ok u w ∧ Rel g w d u := by
  unfold partD at h
  split at h
  · cases h
  · rename_i hn
    have hu : P.underlying t ≠ none := fun e => hn (.inl e)
    have hi := underlying_of_info hu
    split at h
    · rename_i ha
      split at h
      · cases h
        refine ⟨.agg ((vs.drop off).take (szD P t)).toArray, ?_, ?_⟩
        · simp only [part, Sem.run_bind, run_isAgg' hu, ha, Result.andThen_ok, if_true, run_sizeOf' hi, Sem.run_pure]
          congr 2
          simp [List.take_drop]
        · simp only [Rel]
          exact ⟨_, rfl, (hr.drop off).take _⟩
      · cases h
    · rename_i ha
      obtain ⟨x, hx, hrel⟩ := hr.get h
      refine ⟨x, ?_, hrel⟩
      have ha' : aggD P t = false := by simpa using ha
      simp [part, Sem.run_bind, run_isAgg' hu, ha', Result.andThen_ok, hx]

/-- A read of what never changes. -/
theorem run_load_elem {t : TypeId} {cs : List D} {off : Nat} {d : D} {p : Value} (h : partD P t cs off = some d) (hr : Rel g w (.elem cs off) p) :
    ∃ u, (Instr.loadAt t p).run P w = .ok u w ∧ Rel g w d u := by
  simp only [Rel] at hr
  obtain ⟨b, o, vs, rfl, hc, hl⟩ := hr
  unfold partD at h
  split at h
  · cases h
  · rename_i hn
    have hu : P.underlying t ≠ none := fun e => hn (.inl e)
    have hi := underlying_of_info hu
    cases hui : P.underlying t with
    | none => exact absurd hui hu
    | some dd =>
      split at h
      · rename_i ha
        split at h
        · rename_i hle
          cases h
          have hlen := hl.length
          have hd : dd.isRow = true := by simpa [aggD, hui] using ha
          have hsz : (P.info? t).map (·.size) = some ((vs.drop off).take (szD P t)).length := by
            cases hii : P.info? t with
            | none => exact absurd hii hi
            | some i =>
              have hz : szD P t = i.size := by simp [szD, hii]
              rw [hz] at hle ⊢
              simp
              omega
          refine ⟨.agg ((vs.drop off).take (szD P t)).toArray, ?_, ?_⟩
          · refine run_loadAt_mid w b (o + off) t ((vs.drop off).take (szD P t)) dd ?_ hui hd hsz
            intro j v hj
            exact ((hc.drop off (by omega)).take (szD P t)).2 j v hj
          · simp only [Rel]
            exact ⟨_, rfl, ((hl.drop off).take _).up⟩
        · cases h
      · rename_i ha
        obtain ⟨x, hx, hrel⟩ := hl.get h
        have ha' : aggD P t = false := by simpa using ha
        refine ⟨x, ?_, hrel.up⟩
        have hcell := hc.2 off x hx
        simp [Instr.loadAt, Instr.sureAddr, loadVar, Sem.run_bind, run_isAgg' hu, ha', Result.andThen_ok, hcell]

/-- Where a field lies. -/
def fieldOff (P : Program) (s : TypeId) (f : Nat) : Option (Nat × TypeId) :=
  match P.underlying s with
  | some (.struct fs) => match fs[f]? with
    | some x => if P.info? x.type = none ∨ szD P x.type = 0 then none else some (x.offset, x.type)
    | none => none
  | _ => none

theorem run_fieldAt {s : TypeId} {f k : Nat} {ft : TypeId} {b o : Nat} (h : fieldOff P s f = some (k, ft)) :
    (Instr.fieldAt s (.pointer (some ⟨b, o, none⟩)) f).run P w = .ok (.pointer (some ⟨b, o + k, none⟩)) w := by
  unfold fieldOff at h
  split at h
  · rename_i fs hu
    split at h
    · rename_i x hx
      split at h
      · cases h
      · rename_i hn
        have h1 : P.info? x.type ≠ none := fun e => hn (.inl e)
        have h2 : szD P x.type ≠ 0 := fun e => hn (.inr e)
        cases h
        simp [Instr.fieldAt, Sem.run_bind, run_underlying hu w, hx, Instr.sureAddr, fieldPlace, run_sizeOf' h1, h2, Addr.add_mid]
    · cases h
  · cases h

def fieldD (P : Program) (s : TypeId) (cs : List D) (f : Nat) : Option D :=
  match P.underlying s with
  | some (.struct fs) => match fs[f]? with
    | some x => partD P x.type cs x.offset
    | none => none
  | _ => none

theorem run_field {s : TypeId} {f : Nat} {cs : List D} {d : D} {u : Value} (h : fieldD P s cs f = some d) (hr : Rel g w (.agg cs) u) :
    ∃ v, (Instr.field s u f).run P w = .ok v w ∧ Rel g w d v := by
  simp only [Rel] at hr
  obtain ⟨vs, rfl, hl⟩ := hr
  unfold fieldD at h
  split at h
  · rename_i fs hu
    split at h
    · rename_i x hx
      obtain ⟨v, h1, h2⟩ := run_part (P := P) h hl
      exact ⟨v, by simp [Instr.field, Sem.run_bind, run_underlying hu w, hx, asAgg, h1], h2⟩
    · cases h
  · cases h

/-- An index, as a number below a bound. -/
def ixD : D → Nat → Option Nat
  | .v (.int _ i), n => if 0 ≤ i ∧ i < n then some i.toNat else none
  | _, _ => none

theorem ixD_spec {ix : D} {n i : Nat} {u : Value} (h : ixD ix n = some i) (hr : Rel g w ix u) : ∃ k, u = .int k (i : Int) ∧ i < n := by
  unfold ixD at h
  split at h
  · rename_i kk nn
    split at h
    · rename_i hc
      simp only [Rel] at hr
      obtain ⟨rfl, _⟩ := hr
      cases h
      exact ⟨_, by rw [Int.toNat_of_nonneg hc.1], by omega⟩
    · cases h
  · cases h

theorem Rel.list_of_full {k : Nat} {es : List D} {u : Value} (h : Rel g w (.full k es) u) : Rel g w (.list k es) u := by
  simp only [Rel] at h ⊢
  obtain ⟨hw, b, o, vs, h1, h2, h3⟩ := h
  exact ⟨hw, .inr ⟨b, o, es.length, vs, h1, Nat.le_refl _, h2, h3⟩⟩

/-- The place of an element of a list. -/
theorem run_indexAt_list {t e : TypeId} {k : Nat} {es : List D} {x ix : Value} {dix d : D} {i : Nat} (ht : P.underlying t = some (.slice e)) (he : P.info? e ≠ none) (hk : k = szD P e)
    (hx : Rel g w (.list k es) x) (hix : Rel g w dix ix) (hi : ixD dix es.length = some i) (hd : es[i]? = some d) :
    ∃ v, (Instr.indexAt t x ix).run P w = .ok v w ∧ Rel g w (.elem d.cells 0) v := by
  subst hk
  obtain ⟨k, rfl, hlt⟩ := ixD_spec hi hix
  simp only [Rel] at hx
  obtain ⟨hw, hx⟩ := hx
  rcases hx with ⟨rfl, rfl⟩ | ⟨b, o, c, vs, rfl, hc, hcells, hE⟩
  · simp at hd
  · obtain ⟨h1, h2⟩ := hE.at_ hw hd
    refine ⟨.pointer (some ⟨b, o + i * szD P e, none⟩), ?_, ?_⟩
    · simp [Instr.indexAt, asIntOf, Sem.run_bind, run_underlying ht w, run_sizeOf' he, hlt, Addr.add_mid]
    · simp only [Rel]
      exact ⟨b, o + i * szD P e, (vs.drop (i * szD P e)).take (szD P e), by simp, (hcells.drop _ (by omega)).take _, h1⟩

theorem run_indexAt_arr {t e : TypeId} {n b o : Nat} {ix : Value} {dix : D} {i : Nat} (ht : P.underlying t = some (.array n e)) (he : P.info? e ≠ none)
    (hix : Rel g w dix ix) (hi : ixD dix n = some i) :
    (Instr.indexAt t (.pointer (some ⟨b, o, none⟩)) ix).run P w = .ok (.pointer (some ⟨b, o + i * szD P e, none⟩)) w := by
  obtain ⟨k, rfl, hlt⟩ := ixD_spec hi hix
  simp [Instr.indexAt, asIntOf, Instr.sureAddr, Sem.run_bind, run_underlying ht w, run_sizeOf' he, hlt, Addr.add_mid]

/-! ### Slices -/

/-- Two bounds within a length. -/
def boundsD (len : Nat) (lo hi : Option D) : Option (Nat × Nat) :=
  match (match hi with
    | none => some len
    | some (.v (.int _ i)) => if 0 ≤ i ∧ i ≤ len then some i.toNat else none
    | some _ => none) with
  | none => none
  | some h => match lo with
    | none => some (0, h)
    | some (.v (.int _ i)) => if 0 ≤ i ∧ i ≤ h then some (i.toNat, h) else none
    | some _ => none

def RelO (g : G) (w : World) : Option D → Option Value → Prop
  | none, none => True
  | some d, some v => Rel g w d v
  | _, _ => False

theorem run_sliceBound {k : IntKind} {i : Int} {y : Nat} {c : BoundsCode} (h : 0 ≤ i ∧ i ≤ y) : (Instr.sliceBound (.int k i) y c).run P w = .ok i.toNat w := by
  simp [Instr.sliceBound, asIntOf, Sem.run_bind, h]

/-- Bounds below a length that lie within the room. -/
theorem run_sliceBounds {isS : Bool} {len cap l h : Nat} {lo hi : Option D} {vlo vhi : Option Value} (hb : boundsD len lo hi = some (l, h)) (hc : len ≤ cap) (hlo : RelO g w lo vlo) (hhi : RelO g w hi vhi) :
    (Instr.sliceBounds isS len cap vlo vhi none).run P w = .ok (l, h, cap) w ∧ l ≤ h ∧ h ≤ len := by
  unfold boundsD at hb
  split at hb
  · cases hb
  · rename_i h' hh'
    have key : (match vhi with
        | some v => (Instr.sliceBound v cap (if isS then .sliceAcap else .sliceAlen)).run P w
        | none => .ok len w) = .ok h' w ∧ h' ≤ len := by
      split at hh'
      · cases hh'
        cases vhi with
        | none => exact ⟨rfl, Nat.le_refl _⟩
        | some v => simp [RelO] at hhi
      · rename_i kk i
        cases vhi with
        | none => simp [RelO] at hhi
        | some v =>
          simp only [RelO, Rel] at hhi
          obtain ⟨rfl, _⟩ := hhi
          split at hh'
          · rename_i hcond
            cases hh'
            exact ⟨run_sliceBound ⟨hcond.1, by omega⟩, by omega⟩
          · cases hh'
      · cases hh'
    split at hb
    · cases hb
      cases vlo with
      | some v => simp [RelO] at hlo
      | none =>
        refine ⟨?_, Nat.zero_le _, key.2⟩
        cases vhi with
        | none => simp only [Result.ok.injEq] at key; simp [Instr.sliceBounds, Sem.run_bind, key.1.1]
        | some v => simp only at key; simp [Instr.sliceBounds, Sem.run_bind, key.1]
    · rename_i kk i
      split at hb
      · rename_i hcond
        cases hb
        cases vlo with
        | none => simp [RelO] at hlo
        | some v =>
          simp only [RelO, Rel] at hlo
          obtain ⟨rfl, _⟩ := hlo
          refine ⟨?_, by omega, key.2⟩
          have hb2 := run_sliceBound (P := P) (w := w) (k := kk) (c := .sliceB) hcond
          cases vhi with
          | none => simp only [Result.ok.injEq] at key; simp [Instr.sliceBounds, Sem.run_bind, key.1.1, hb2]
          | some v => simp only at key; simp [Instr.sliceBounds, Sem.run_bind, key.1, hb2]
      · cases hb
    · cases hb

/-- A part of a list. -/
theorem run_slice_list {t e : TypeId} {k : Nat} {es : List D} {x : Value} {lo hi : Option D} {vlo vhi : Option Value} {l h : Nat} (ht : P.underlying t = some (.slice e)) (he : P.info? e ≠ none)
    (hk : k = szD P e) (hx : Rel g w (.list k es) x) (hlo : RelO g w lo vlo) (hhi : RelO g w hi vhi) (hb : boundsD es.length lo hi = some (l, h)) :
    ∃ v, (Instr.sliceAt t x vlo vhi none).run P w = .ok v w ∧ Rel g w (.list k ((es.take h).drop l)) v := by
  subst hk
  simp only [Rel] at hx
  obtain ⟨hw, hx⟩ := hx
  rcases hx with ⟨rfl, rfl⟩ | ⟨b, o, c, vs, rfl, hc, hcells, hE⟩
  · obtain ⟨h1, h2, h3⟩ := run_sliceBounds (P := P) (isS := true) hb (Nat.zero_le 0) hlo hhi
    simp only [List.length_nil, Nat.le_zero_eq] at h3
    subst h3
    simp only [Nat.le_zero_eq] at h2
    subst h2
    refine ⟨.slice none 0 0, ?_, ?_⟩
    · simp only [List.length_nil] at h1
      simp [Instr.sliceAt, Instr.slice, Sem.run_bind, run_underlying ht w, h1, run_sizeOf' he]
    · simp only [Rel]
      exact ⟨fun d hd => by simp at hd, .inl (by simp)⟩
  · obtain ⟨h1, h2, h3⟩ := run_sliceBounds (P := P) (isS := true) hb hc hlo hhi
    have hlen := hE.length hw
    have hle : h * szD P e ≤ vs.length := by rw [hlen]; exact Nat.mul_le_mul_right _ h3
    have hle' : l * szD P e ≤ h * szD P e := Nat.mul_le_mul_right _ h2
    refine ⟨.slice (some (if c = l then ⟨b, o, none⟩ else ⟨b, o + l * szD P e, none⟩)) (h - l) (c - l), ?_, ?_⟩
    · simp only [Instr.sliceAt, Instr.slice, Sem.run_bind, run_underlying ht w, h1, run_sizeOf' he, Result.andThen_ok, Sem.run_pure]
      by_cases hcl : c = l <;> simp [hcl, Addr.add_mid]
    · simp only [Rel]
      refine ⟨(hw.take h).drop l, .inr ?_⟩
      by_cases hcl : c = l
      · have h4 : h = l := by omega
        refine ⟨b, o, c - l, [], ?_, by simp; omega, ?_, ?_⟩
        · rw [if_pos hcl]; simp; omega
        · exact ⟨by have := hcells.1; simp; omega, fun i x hx => by simp at hx⟩
        · have : (es.take h).drop l = [] := by simp; omega
          rw [this]; simp [RelE]
      · refine ⟨b, o + l * szD P e, c - l, (vs.take (h * szD P e)).drop (l * szD P e), ?_, ?_, ?_, ?_⟩
        · rw [if_neg hcl]; simp; omega
        · simp; omega
        · exact (hcells.take _).drop _ (by simp; omega)
        · exact (hE.take h hw).drop l (hw.take h)

/-- A part of a text. -/
theorem run_slice_str {t : TypeId} {s : ByteArray} {lo hi : Option D} {vlo vhi : Option Value} {l h : Nat} (ht : P.underlying t = some .string)
    (hlo : RelO g w lo vlo) (hhi : RelO g w hi vhi) (hb : boundsD s.size lo hi = some (l, h)) :
    (Instr.sliceAt t (.string s) vlo vhi none).run P w = .ok (.string (s.extract l h)) w := by
  obtain ⟨h1, h2, h3⟩ := run_sliceBounds (P := P) (isS := false) hb (Nat.le_refl _) hlo hhi
  simp [Instr.sliceAt, Instr.slice, Sem.run_bind, run_underlying ht w, h1]

end
end Go.Ab
