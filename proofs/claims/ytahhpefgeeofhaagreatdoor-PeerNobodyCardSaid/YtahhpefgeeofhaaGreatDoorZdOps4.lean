/-
  What is built of parts; single results.
-/
import Derived.Test.YtahhpefgeeofhaaGreatDoorZdOps3
set_option linter.unusedSimpArgs false
set_option linter.unusedVariables false
namespace Go.Ab
section
variable {P : Program} {g : G} {w : World}

theorem foldl_set_splice {α : Type} : ∀ (xs : List α) (k off : Nat) (cs : List α), off + k + xs.length ≤ cs.length →
    (xs.zipIdx k).foldl (fun cs p => cs.set (off + p.2) p.1) cs = cs.take (off + k) ++ xs ++ cs.drop (off + k + xs.length)
  | [], k, off, cs, _ => by simp
  | x :: xs, k, off, cs, h => by
    simp only [List.length_cons] at h
    rw [List.zipIdx_cons, List.foldl_cons, foldl_set_splice xs (k + 1) off _ (by simp; omega)]
    have h1 : off + k < cs.length := by omega
    have e1 : (cs.set (off + k) x).take (off + (k + 1)) = cs.take (off + k) ++ [x] := by
      rw [← Nat.add_assoc, List.take_succ_eq_append_getElem (by simpa using h1), List.take_set_of_le (Nat.le_refl _), List.getElem_set_self]
    have e2 : (cs.set (off + k) x).drop (off + (k + 1) + xs.length) = cs.drop (off + k + (x :: xs).length) := by
      rw [List.drop_set_of_lt (by omega), List.length_cons]
      congr 1
      omega
    rw [e1, e2]
    simp

/-- Cells with some of them in the place of others. -/
def spliceD (cs xs : List D) (off : Nat) : List D := cs.take off ++ xs ++ cs.drop (off + xs.length)

theorem RelL.splice {ds es : List D} {vs us : List Value} {off : Nat} (h : RelL g w ds vs) (k : RelL g w es us) : RelL g w (spliceD ds es off) (vs.take off ++ us ++ vs.drop (off + us.length)) := by
  unfold spliceD
  rw [k.length]
  exact ((h.take off).append k).append (h.drop _)

def fillD (place : Nat → Option (Nat × Nat)) (cells : List D) : List (Nat × D) → Option (List D)
  | [] => some cells
  | (i, d) :: rest => match place i with
    | none => none
    | some (off, size) => if d.cells.length ≠ size ∨ off + size > cells.length then none else fillD place (spliceD cells d.cells off) rest

theorem fold_arr {α : Type} (xs : Array α) (off : Nat) (cells : Array α) :
    (xs.zipIdx.foldl (fun cs (p : α × Nat) => cs.setIfInBounds (off + p.2) p.1) cells).toList = (xs.toList.zipIdx).foldl (fun cs p => cs.set (off + p.2) p.1) cells.toList := by
  rw [← Array.foldl_toList, Array.toList_zipIdx]
  generalize xs.toList.zipIdx = l
  induction l generalizing cells with
  | nil => rfl
  | cons a l ih => rw [List.foldl_cons, List.foldl_cons, ih, Array.toList_setIfInBounds]

def RelP (g : G) (w : World) : List (Nat × D) → List (Nat × Value) → Prop
  | [], [] => True
  | (i, d) :: ps, (j, v) :: vs => i = j ∧ Rel g w d v ∧ RelP g w ps vs
  | _, _ => False

theorem run_fillD {place : Nat → Option (Nat × Nat)} : ∀ {parts : List (Nat × D)} {vparts : List (Nat × Value)} {cells : List D} {vcells : Array Value} {out : List D},
    fillD place cells parts = some out → RelL g w cells vcells.toList → RelP g w parts vparts → ∃ v, Instr.fill place vcells vparts = some v ∧ RelL g w out v.toList
  | [], [], cells, vcells, out, h, r, _ => by simp only [fillD] at h; cases h; exact ⟨vcells, rfl, r⟩
  | [], _ :: _, _, _, _, _, _, hp => by simp [RelP] at hp
  | _ :: _, [], _, _, _, _, _, hp => by simp [RelP] at hp
  | (i, d) :: ps, (j, v) :: vs, cells, vcells, out, h, r, hp => by
    simp only [RelP] at hp
    obtain ⟨rfl, hd, hp⟩ := hp
    simp only [fillD] at h
    simp only [Instr.fill]
    split at h
    · cases h
    · rename_i off size hpl
      split at h
      · cases h
      · rename_i hc
        simp only [hpl]
        have hlen : v.cells.size = d.cells.length := by have := hd.wide; simpa using this
        have hlv : vcells.size = cells.length := by have := r.length; simpa using this
        have hc1 : d.cells.length = size := Decidable.byContradiction fun e => hc (.inl e)
        have hc2 : ¬ off + size > cells.length := fun e => hc (.inr e)
        have hn : (v.cells.size ≠ size || off + v.cells.size > vcells.size) = false := by
          rw [hlen, hlv, hc1]
          simp
          omega
        simp only [hn]
        refine run_fillD h ?_ hp
        have e := fold_arr v.cells off vcells
        have e2 := foldl_set_splice v.cells.toList 0 off vcells.toList (by simp [hlen, hlv]; omega)
        rw [Nat.add_zero] at e2
        rw [e, e2]
        exact r.splice hd.cells

def zerosD (P : Program) (t : TypeId) : Option (List D) :=
  match P.info? t with
  | some it => match it.zero with
    | some z => if z.cells.toList.all noAgg then some (z.cells.toList.map .v) else none
    | none => none
  | none => none

def placesD (P : Program) : List Field → Option (List (Nat × Nat))
  | [] => some []
  | f :: fs => match P.info? f.type, placesD P fs with
    | some i, some ps => some ((f.offset, i.size) :: ps)
    | _, _ => none

theorem placesD_eq : ∀ (fs : List Field), fs.mapM (fun f => (P.info? f.type).map fun i => (f.offset, i.size)) = placesD P fs
  | [] => by simp [placesD]
  | f :: fs => by
    simp only [List.mapM_cons, placesD, placesD_eq fs]
    cases P.info? f.type <;> simp
    cases placesD P fs <;> simp

def builtD (P : Program) (t : TypeId) (parts : List (Nat × D)) : Option (List D) :=
  match zerosD P t, P.underlying t with
  | some z, some (.array _ e) => match P.info? e with
    | some ie => fillD (fun i => some (i * ie.size, ie.size)) z parts
    | none => none
  | some z, some (.struct fs) => match placesD P fs.toList with
    | some ps => fillD (fun i => ps[i]?) z parts
    | none => none
  | _, _ => none

theorem run_builtD {t : TypeId} {parts : List (Nat × D)} {vparts : Array (Nat × Value)} {out : List D} (h : builtD P t parts = some out) (hp : RelP g w parts vparts.toList) :
    ∃ v, (Instr.build t vparts).run P w = .ok v w ∧ Rel g w (.agg out) v := by
  cases hz : zerosD P t with
  | none => simp [builtD, hz] at h
  | some z =>
    have hz' : ∃ it zv, P.info? t = some it ∧ it.zero = some zv ∧ zv.cells.toList.all noAgg = true ∧ z = zv.cells.toList.map .v := by
      unfold zerosD at hz
      split at hz
      · rename_i it hit
        split at hz
        · rename_i zv hzv
          split at hz
          · rename_i hall
            cases hz
            exact ⟨it, zv, hit, hzv, hall, rfl⟩
          · cases hz
        · cases hz
      · cases hz
    obtain ⟨it, zv, hit, hzv, hall, rfl⟩ := hz'
    have hrz : RelL g w (zv.cells.toList.map .v) zv.cells.toList := relL_map hall
    cases hu : P.underlying t with
    | none => simp [builtD, hz, hu] at h
    | some d =>
      cases d <;> try (simp [builtD, hz, hu] at h; done)
      case array n e =>
        cases hie : P.info? e with
        | none => simp [builtD, hz, hu, hie] at h
        | some ie =>
          simp only [builtD, hz, hu, hie] at h
          obtain ⟨v, h1, h2⟩ := run_fillD h (vcells := zv.cells) hrz hp
          refine ⟨.agg v, run_build w t vparts v (by simp [Program.built, hit, hu, hzv, hie, h1]), ?_⟩
          simp only [Rel]
          exact ⟨v.toList, by simp, h2⟩
      case struct fs =>
        cases hps : placesD P fs.toList with
        | none => simp [builtD, hz, hu, hps] at h
        | some ps =>
          simp only [builtD, hz, hu, hps] at h
          obtain ⟨v, h1, h2⟩ := run_fillD h (vcells := zv.cells) hrz hp
          refine ⟨.agg v, run_build w t vparts v ?_, ?_⟩
          · simp [Program.built, hit, hu, hzv, placesD_eq, hps, h1]
          · simp only [Rel]
            exact ⟨v.toList, by simp, h2⟩

end
end Go.Ab
