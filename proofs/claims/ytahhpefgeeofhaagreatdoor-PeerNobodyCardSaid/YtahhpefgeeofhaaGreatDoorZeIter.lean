/-
  Walks over maps of few entries.
-/
import Derived.Test.YtahhpefgeeofhaaGreatDoorZeMap2
set_option linter.unusedSimpArgs false
set_option linter.unusedVariables false
namespace Go.Ab

def rangeD (P : Program) (hp : Hp) (nm : Nm) (t : TypeId) (x : D) : Option (D × Up × List Nm) :=
  match P.underlying t with
  | some (.map _ _) => (match x with
    | .v (.map none) => some (.own nm, [(nm, some (.iter none 0 [] 0))], [])
    | .own m => (match hp m with
      | some (.map _ clock) => some (.own nm, [(nm, some (.iter (some m) clock [] clock))], [m])
      | _ => none)
    | _ => none)
  | _ => none

def overD : D := .tup [.v (.bool false)]

def nextD (hp : Hp) (x : D) : Option (D × Up × List Nm) :=
  match x with
  | .own n => (match hp n with
    | some (.iter none _ _ _) => some (overD, [], [n])
    | some (.iter (some m) since seen last) => (match hp m with
      | some (.map es clock) =>
        if (!seen.isEmpty && !es.isEmpty && es.all fun e => decide (last ≤ e.born)) = true then none else
        (match (es.filter fun e => !seen.contains e.born).filter (fun e => decide (e.born < since)), (es.filter fun e => !seen.contains e.born).filter (fun e => decide (since ≤ e.born)) with
        | [e], [] => some (.tup [.v (.bool true), e.key, e.val], [(n, some (.iter (some m) since (seen ++ [e.born]) clock))], [n, m])
        | [], [] => some (overD, [], [n, m])
        | _, _ => none)
      | _ => none)
    | _ => none)
  | _ => none

def lastBorn : List Nat → Option Nat
  | [] => none
  | [b] => some b
  | _ :: bs => lastBorn bs

def entryD (hp : Hp) (x : D) : Option (D × List Nm) :=
  match x with
  | .own n => (match hp n with
    | some (.iter (some m) _ seen last) => (match hp m, seen.getLast? with
      | some (.map es clock), some b => if clock = last then
          (match bornIdx (b : Int) es 0 with
          | some (_, e) => some (.tup [e.key, e.val], [n, m])
          | none => none) else none
      | _, _ => none)
    | _ => none)
  | _ => none

section
variable {P : Program} {tb : Nat → Option (List D)} {g g' : G} {B : Base} {w w' : World} {hp : Hp} {free : Nm → Prop} {a : Act}

theorem RelM.filter (p : Nat → Bool) : ∀ {es : List MEnt} {xs : List MapEntry}, RelM g w es xs → RelM g w (es.filter fun e => p e.born) (xs.filter fun e => p e.born)
  | [], xs, h => by simp only [RelM] at h; subst h; simp [RelM]
  | e :: es, xs, h => by
    simp only [RelM] at h
    obtain ⟨x, ys, rfl, h1, h2, h3, h4⟩ := h
    simp only [List.filter_cons, h3]
    split
    · simp only [RelM]; exact ⟨x, _, rfl, h1, h2, h3, h4.filter p⟩
    · exact h4.filter p

theorem RelM.allB (p : Nat → Bool) : ∀ {es : List MEnt} {xs : List MapEntry}, RelM g w es xs → (xs.all fun e => p e.born) = (es.all fun e => p e.born)
  | [], xs, h => by simp only [RelM] at h; subst h; rfl
  | e :: es, xs, h => by
    simp only [RelM] at h
    obtain ⟨x, ys, rfl, h1, h2, h3, h4⟩ := h
    simp only [List.all_cons, h3, h4.allB p]

theorem iter_at (h : HeapR tb B hp free w g) {n : Nm} {mo : Option Nm} {since last : Nat} {seen : List Nat} (hn : hp n = some (.iter mo since seen last)) {X : Value} (hX : Rel g w (.own n) X) :
    ∃ r mm, X = .pointer (some ⟨r, 0, none⟩) ∧ g.val n = some (.pointer (some ⟨r, 0, none⟩)) ∧ w.heap[r]? = some (.mapIter mm since seen.toArray last) ∧ IterM g mo mm := by
  obtain ⟨r, mm, h1, h2, h3, h4, h5⟩ := h.objs n _ hn
  simp only [Rel] at hX
  rw [h1] at hX
  exact ⟨r, mm, by have := hX.1; simpa using this.symm, h1, h2, h3⟩

theorem range_sound (h : HeapR tb B hp free w g) {nm : Nm} (hf : free nm) {t : TypeId} {x d : D} {us : Up} {rd : List Nm} {X : Value} (hl : rangeD P hp nm t x = some (d, us, rd)) (hx : Rel g w x X) :
    Runs P tb B free true nm hp w g (Instr.range t X) d us := by
  have hnone := h.free nm hf
  have mk : ∀ (mo : Option Nm) (mm : Option Nat) (since : Nat) (last : Nat), IterM g mo mm →
      (Instr.range t X).run P w = .ok (.pointer (some ⟨w.heap.size, 0, none⟩)) (w.alloc (.mapIter mm since #[] last)) →
      Runs P tb B free true nm hp w g (Instr.range t X) (.own nm) [(nm, some (.iter mo since [] last))] := by
    intro mo mm since last hmo hrun
    have ho : ORel B.kp (g.name nm (.pointer (some ⟨w.heap.size, 0, none⟩))) (w.alloc (.mapIter mm since #[] last)) nm (.iter mo since [] last) := by
      refine ⟨w.heap.size, mm, G.name_val_eq, alloc_at _ _, ?_, h.tight _ (Nat.le_refl _), h.fresh⟩
      cases mo with
      | none => exact hmo
      | some k =>
        obtain ⟨q, q1, q2⟩ := hmo
        exact ⟨q, q1, by rw [G.name_val_ne]; exact q2; intro e; subst e; rw [hnone] at q2; cases q2⟩
    have := h.alloc (n := nm) hnone (x := .pointer (some ⟨w.heap.size, 0, none⟩)) rfl ho (free' := fun m => free m ∧ m ≠ nm) (fun m hm => hm) (hp' := hp.app (Up.pt [(nm, some (.iter mo since [] last))])) (fun m => app_one m)
    refine ⟨_, _, _, hrun, this.1.weaken fun n hn => ⟨hn.1, hn.2 rfl⟩, this.2, ?_⟩
    simp only [Rel]
    exact ⟨G.name_val_eq, rfl⟩
  unfold rangeD at hl
  split at hl
  · rename_i kt et ht
    split at hl
    · cases hl
      have := rel_v hx; subst this
      exact mk none none 0 0 rfl (by simp [Instr.range, run_underlying ht])
    · rename_i m
      split at hl
      · rename_i es clock hm
        cases hl
        obtain ⟨r', xs, rfl, q1, q2, q3⟩ := map_at h hm hx
        have hg := run_getObj' (P := P) q2 (by intro c t f e; cases e)
        exact mk (some m) (some r') clock clock ⟨r', rfl, q1⟩ (by simp [Instr.range, run_underlying ht, hg])
      · cases hl
    · cases hl
  · cases hl

theorem rel_over : Rel g w overD (.tuple #[.bool false]) := by
  simp only [overD, Rel]
  refine ⟨[.bool false], rfl, ?_⟩
  simp only [RelL]
  exact ⟨_, [], rfl, rel_v_mk rfl, rfl⟩

theorem run_choose_one : (choose (.mapNext 1)).run P w = .ok 0 w := by simp [choose, Sem.run, Question.forced]

theorem next_sound (h : HeapR tb B hp free w g) {mk : Bool} {nm : Nm} {ty : TypeId} {x d : D} {us : Up} {rd : List Nm} {X : Value} (hl : nextD hp x = some (d, us, rd)) (hx : Rel g w x X) :
    Runs P tb B free mk nm hp w g (Instr.next X false ty) d us := by
  unfold nextD at hl
  split at hl
  · rename_i n
    split at hl
    · rename_i since seen last hn
      cases hl
      obtain ⟨r, mm, rfl, h1, h2, h3⟩ := iter_at h hn hx
      simp only [IterM] at h3
      subst h3
      have hg := run_getObj' (P := P) h2 (by intro c t f e; cases e)
      exact Runs.same h (by simp [Instr.next, hg]) rel_over
    · rename_i m since seen last hn
      obtain ⟨r, mm, rfl, h1, h2, h3⟩ := iter_at h hn hx
      obtain ⟨q, rfl, h4⟩ := h3
      split at hl
      · rename_i es clock hm
        obtain ⟨r', xs, q1, q2, q3⟩ := h.objs m _ hm
        rw [h4] at q1
        cases q1
        have hR := q3.1
        have hg := run_getObj' (P := P) h2 (by intro c t f e; cases e)
        have hg2 := run_getObj' (P := P) q2 (by intro c t f e; cases e)
        split at hl
        · cases hl
        · rename_i hguard
          have hxl := hR.get
          have hg1 : (!seen.toArray.isEmpty && !xs.toArray.isEmpty && xs.toArray.all fun e => decide (e.born ≥ last)) = false := by
            have e1 : xs.toArray.isEmpty = es.isEmpty := by
              cases xs <;> cases es <;> simp at hxl ⊢
            have e2 : (xs.toArray.all fun e => decide (e.born ≥ last)) = (es.all fun e => decide (last ≤ e.born)) := by
              rw [← Array.all_toList]
              exact hR.allB fun b => decide (b ≥ last)
            have e3 : seen.toArray.isEmpty = seen.isEmpty := by simp
            rw [e1, e2, e3]
            simpa using hguard
          have hl1 := hR.filter (fun b => !seen.contains b)
          have ho := hl1.filter (fun b => decide (b < since))
          have hn' := hl1.filter (fun b => decide (since ≤ b))
          have hxo : ((xs.toArray.filter fun e => !seen.toArray.contains e.born).filter (fun e => decide (e.born < since))) = ((xs.filter fun e => !seen.contains e.born).filter (fun e => decide (e.born < since))).toArray := by simp
          have hxn : ((xs.toArray.filter fun e => !seen.toArray.contains e.born).filter (fun e => decide (e.born ≥ since))) = ((xs.filter fun e => !seen.contains e.born).filter (fun e => decide (since ≤ e.born))).toArray := by simp
          split at hl
          · rename_i e he1 he2
            cases hl
            rw [he1] at ho
            rw [he2] at hn'
            simp only [RelM] at ho hn'
            obtain ⟨y, ys, e5, p1, p2, p3, rfl⟩ := ho
            have hset := run_setObj' (P := P) (.mapIter (some q) since (seen ++ [e.born]).toArray clock) h2 (by intro c t f e; cases e)
            have hpush : seen.toArray.push y.born = (seen ++ [e.born]).toArray := by simp [p3]
            obtain ⟨r2, mm2, z1, z2, z3, z4, z5⟩ := h.objs n _ hn
            rw [h1] at z1
            cases z1
            have ht := turned_setW (o' := .mapIter (some q) since (seen ++ [e.born]).toArray clock) h2 (by intro c t f e; cases e)
            have he := ht.ext (g := g) z4
            have hob : ORel B.kp g (setW w r (.mapIter (some q) since (seen ++ [e.born]).toArray clock)) n (.iter (some m) since (seen ++ [e.born]) clock) :=
              ⟨r, some q, h1, setW_at h2, ⟨q, rfl, h4⟩, z4, z5⟩
            have hput := h.put (n := n) (by rw [hn]; simp) (b := r) (by simp [blk, h1, blkV]) ht hob (hp' := hp.app (Up.pt [(n, some (.iter (some m) since (seen ++ [e.born]) clock))])) (fun m' => app_one m')
            refine ⟨.tuple #[.bool true, y.key, y.val], _, g, ?_, hput.1.weaken fun n hn => hn.1, hput.2, ?_⟩
            · simp only [Instr.next, Sem.run_bind, hg, hg2, Result.andThen_ok, hg1, Bool.false_eq_true, if_false, hxo, hxn, e5, hn']
              simp [Question.forced, hset, p3]
            · have q1 := Rel.ext hput.2 _ _ p1
              have q2 := Rel.ext hput.2 _ _ p2
              simp only [Rel]
              refine ⟨[.bool true, y.key, y.val], rfl, ?_⟩
              simp only [RelL]
              exact ⟨_, _, rfl, rel_v_mk rfl, _, _, rfl, q1, _, [], rfl, q2, rfl⟩
          · rename_i he1 he2
            cases hl
            rw [he1] at ho
            rw [he2] at hn'
            simp only [RelM] at ho hn'
            refine Runs.same h ?_ rel_over
            simp only [Instr.next, Sem.run_bind, hg, hg2, Result.andThen_ok, hg1, Bool.false_eq_true, if_false, hxo, hxn, ho, hn']
            simp [Question.forced]
          · cases hl
      · cases hl
    · cases hl
  · cases hl


theorem entry_sound (h : HeapR tb B hp free w g) {x d : D} {rd : List Nm} {X : Value} (hl : entryD hp x = some (d, rd)) (hx : Rel g w x X) :
    ∃ v, (Instr.entry X).run P w = .ok v w ∧ Rel g w d v := by
  unfold entryD at hl
  split at hl
  · rename_i n
    split at hl
    · rename_i m since seen last hn
      obtain ⟨r, mm, rfl, h1, h2, h3⟩ := iter_at h hn hx
      obtain ⟨q, rfl, h4⟩ := h3
      split at hl
      · rename_i es clock b hm hb
        split at hl
        · rename_i hc
          subst hc
          split at hl
          · rename_i j e hbi
            cases hl
            obtain ⟨r', xs, q1, q2, q3⟩ := h.objs m _ hm
            rw [h4] at q1
            cases q1
            have hR := q3.1
            have hg := run_getObj' (P := P) h2 (by intro c t f e; cases e)
            have hg2 := run_getObj' (P := P) q2 (by intro c t f e; cases e)
            have hfind : ∀ {es : List MEnt} {xs : List MapEntry} {i : Nat}, bornIdx (b : Int) es i = some (j, e) → RelM g w es xs → ∃ x, xs.find? (fun e => e.born == b) = some x ∧ Rel g w e.key x.key ∧ Rel g w e.val x.val := by
              intro es
              induction es with
              | nil => intro xs i h _; simp [bornIdx] at h
              | cons d es ih =>
                intro xs i h hm
                simp only [RelM] at hm
                obtain ⟨x, ys, rfl, h1, h2, h3, h4⟩ := hm
                simp only [bornIdx] at h
                split at h
                · rename_i hb
                  cases h
                  refine ⟨x, ?_, h1, h2⟩
                  have : (x.born == b) = true := by rw [h3]; simp at hb ⊢; omega
                  simp [List.find?_cons, this]
                · rename_i hb
                  obtain ⟨y, q1, q2, q3⟩ := ih h h4
                  refine ⟨y, ?_, q2, q3⟩
                  have : (x.born == b) = false := by rw [h3]; simp at hb ⊢; omega
                  simp [List.find?_cons, this, q1]
            obtain ⟨x, p1, p2, p3⟩ := hfind hbi hR
            refine ⟨.tuple #[x.key, x.val], ?_, ?_⟩
            · have hback : seen.toArray.back? = some b := by simpa using hb
              simp [Instr.entry, hg, hg2, hback, p1]
            · simp only [Rel]
              refine ⟨[x.key, x.val], rfl, ?_⟩
              simp only [RelL]
              exact ⟨_, _, rfl, p2, _, [], rfl, p3, rfl⟩
          · cases hl
        · cases hl
      · cases hl
    · cases hl
  · cases hl

end
end Go.Ab
