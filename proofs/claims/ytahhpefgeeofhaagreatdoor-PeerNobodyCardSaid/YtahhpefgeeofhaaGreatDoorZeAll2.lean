/-
  The machine does what opH tells.
-/
import Derived.Test.YtahhpefgeeofhaaGreatDoorZeAll
set_option linter.unusedSimpArgs false
set_option linter.unusedVariables false
namespace Go.Ab
section
variable {P : Program} {tb : Nat → Option (List D)} {g g' : G} {B : Base} {w w' : World} {hp : Hp} {free : Nm → Prop} {a : Act}

theorem opH_sound (h : HeapR tb B hp free w g) {o : Oper} {nm : Nm} (hf : makesH o.op = true → free nm) {ev : Operand → Option D} (hev : ∀ x d, ev x = some d → Rel g w d (a.eval x)) {d : D} {us : Up} {rd : List Nm} (hh : opH P ev hp nm o.op = some (d, us, rd)) :
    Does P tb B free (makesH o.op) nm hp w g (execOp a.eval o) d us := by
  have pure : ∀ {op : Op} {mk : Bool} {r : D}, o.op = op → opP P ev op = some r → Does P tb B free mk nm hp w g (execOp a.eval o) r [] := by
    intro op mk r ho hr
    obtain ⟨v, h1, h2⟩ := opP_sound (a := a) (o := o) hev (by rw [ho]; exact hr)
    exact Does.same h h1 h2
  cases ho : o.op with
  | alloc t =>
    rw [ho] at hh hf
    simp only [opH] at hh
    split at hh
    · rename_i cs hz
      cases hh
      unfold zerosD at hz
      split at hz
      · rename_i it hit
        split at hz
        · rename_i z hzz
          split at hz
          · rename_i hall
            cases hz
            have hrun : (Instr.alloc t true (.tuple #[])).run P w = .ok (.pointer (some ⟨w.heap.size, 0, none⟩)) (w.alloc (.cells (z.cells.toList ++ []).toArray t)) := by
              simp [Instr.alloc, zeroValue, typeInfo, hit, hzz, newVar, newRow]
            have := Runs.row (T := t) (d := .ptr nm 0) h (hf rfl) (New.refl h.tight) hrun (relL_map hall) (fun g' w' hv _ => by simp only [Rel]; exact ⟨_, 0, hv, rfl⟩)
            exact Does.of_runs this fun v w' hv => by simp [execOp, ho, hv]
          · cases hz
        · cases hz
      · cases hz
    · cases hh
  | box t x =>
    rw [ho] at hh hf
    simp only [opH] at hh
    split at hh
    · rename_i dx hx
      cases hh
      have hX := hev _ _ hx
      have hrun : (Instr.box t (a.eval x)).run P w = .ok (.pointer (some ⟨w.heap.size, 0, none⟩)) (w.alloc (.cells ((a.eval x).cells.toList ++ []).toArray t)) := by
        simp [Instr.box, newVar, newRow]
      have := Runs.row (T := t) (d := .ptr nm 0) h (hf rfl) (New.refl h.tight) hrun hX.cells (fun g' w' hv _ => by simp only [Rel]; exact ⟨_, 0, hv, rfl⟩)
      exact Does.of_runs this fun v w' hv => by simp [execOp, ho, hv]
    · cases hh
  | load t x =>
    rw [ho] at hh
    simp only [opH] at hh
    split at hh
    · rename_i n off hx
      split at hh
      · rename_i cs hcs
        split at hh
        · rename_i d' hd
          cases hh
          have hX := hev _ _ hx
          simp only [Rel] at hX
          obtain ⟨b, k, h1, h2⟩ := hX
          obtain ⟨b', m, T, pre, vs, post, e1, e2, e3, e4, _, _⟩ := h.objs n _ hcs
          rw [e1] at h1
          cases h1
          obtain ⟨u, hu, hr⟩ := run_load_cells (P := P) (b := b) (o := k) hd (fun i y hy => by
            have := cell_seg (off := 0) (n := vs.length) e2 (j := i) (v := y) (by simpa using hy)
            simpa [e3] using this) e4
          exact Does.same h (by simp [execOp, ho, h2, hu]) hr
        · cases hh
      · cases hh
    · obtain ⟨q1, rfl, rfl⟩ := pureH_spec hh
      exact pure ho q1
  | store t x y =>
    rw [ho] at hh
    simp only [opH] at hh
    split at hh
    · rename_i n off dy hx hy
      split at hh
      · rename_i cs hcs
        split at hh
        · rename_i hc
          obtain ⟨c1, c2, c3, c4⟩ := hc
          cases hh
          have hX := hev _ _ hx
          have hY := hev _ _ hy
          simp only [Rel] at hX
          obtain ⟨b, k, h1, h2⟩ := hX
          have hl := hY.cells
          have hlen := hl.length
          have hw : Runs P tb B free (makesH o.op) nm hp w g (do Instr.storeAt t (a.eval x) (a.eval y); Sem.pure undef) D.undef [(n, some (.cells (spliceD cs dy.cells off)))] := by
            refine Runs.write h hcs hl c3 (v := undef) ?_ (fun _ _ => rel_v_mk rfl)
            intro b2 m2 T full q1 q2 q3
            rw [h1] at q1
            cases q1
            have := run_store_ptr (P := P) (t := t) (off := k + off) (u := a.eval y) q2 rfl c1 (by rw [hlen]; exact c2) q3 (hl.oneCells c4)
            simp only [h2, Sem.run_bind, this, Result.andThen_ok, Sem.run]
          obtain ⟨v, w', g', r1, r2, r3, r4⟩ := hw
          have hrun : (execOp a.eval o).run P w = .ok .skip w' ∧ v = undef := by
            simp only [Sem.run_bind] at r1
            cases hs : (Instr.storeAt t (a.eval x) (a.eval y)).run P w with
            | ok u w2 =>
              rw [hs] at r1
              simp only [Result.andThen_ok, Sem.run, Result.ok.injEq] at r1
              obtain ⟨rfl, rfl⟩ := r1
              exact ⟨by simp [execOp, ho, hs], rfl⟩
            | halt x w2 => rw [hs] at r1; simp [Result.andThen] at r1
          exact ⟨v, w', g', .inr hrun, by rw [ho] at r2; exact r2, r3, r4⟩
        · cases hh
      · cases hh
    · cases hh
  | buildSlice t len parts =>
    rw [ho] at hh hf
    simp only [opH] at hh
    split at hh
    · rename_i ps hps
      have hr := partsD_rel hev hps
      have := buildSlice_sound (vparts := parts.map fun p => (p.1, a.eval p.2)) h (hf rfl) hh (by simpa using hr)
      exact Does.of_runs this fun v w' hv => by
        have e : (parts.map fun (i, x) => (i, a.eval x)) = parts.map fun p => (p.1, a.eval p.2) := rfl
        simp only [execOp, ho, Sem.run_bind, e, hv, Result.andThen_ok, Sem.run_pure]
    · cases hh
  | makeSlice t l c =>
    rw [ho] at hh hf
    simp only [opH] at hh
    split at hh
    · rename_i dl dc hl hc
      have := makeSlice_sound h (hf rfl) hh (hev _ _ hl) (hev _ _ hc)
      exact Does.of_runs this fun v w' hv => by simp [execOp, ho, hv]
    · cases hh
  | makeMap t r =>
    rw [ho] at hh hf
    have mk : (Instr.makeMap t (r.map a.eval)).run P w = .ok (.map (some w.heap.size)) (w.alloc (.map #[] 0)) → Does P tb B free true nm hp w g (execOp a.eval o) (.own nm) [(nm, some (.map [] 0))] := by
      intro hrun
      have hnone := h.free nm (hf rfl)
      have hob : ORel B.kp (g.name nm (.map (some w.heap.size))) (w.alloc (.map #[] 0)) nm (.map [] 0) := ⟨w.heap.size, [], G.name_val_eq, alloc_at _ _, rfl, h.tight _ (Nat.le_refl _), h.fresh⟩
      have := h.alloc (n := nm) hnone (x := .map (some w.heap.size)) rfl hob (free' := fun m => free m ∧ m ≠ nm) (fun m hm => hm) (hp' := hp.app (Up.pt [(nm, some (.map [] 0))])) (fun m => app_one m)
      refine ⟨_, _, _, .inl (by simp only [execOp, ho, Sem.run_bind, hrun, Result.andThen_ok, Sem.run_pure]; rfl), this.1.weaken fun n hn => ⟨hn.1, hn.2 rfl⟩, this.2, ?_⟩
      simp only [Rel]
      exact ⟨G.name_val_eq, rfl⟩
    simp only [opH] at hh
    split at hh
    · cases hh
      exact mk (by simp [Instr.makeMap])
    · split at hh
      · rename_i x k n kt et hx ht
        cases hh
        have := rel_v (hev _ _ hx)
        exact mk (by simp [Instr.makeMap, run_underlying ht, asInt, asIntOf, this])
      · cases hh
  | slice t x lo hi mx =>
    rw [ho] at hh
    simp only [opH] at hh
    split at hh
    · rename_i dx dl dh dm hx hl hhi hm
      split at hh
      · split at hh
        · rename_i r rd' hs
          cases hh
          obtain ⟨v, q1, q2⟩ := slice_sound h hs (hev _ _ hx) (optD_rel hev hl) (optD_rel hev hhi) (optD_rel hev hm)
          exact Does.same h (by simp [execOp, ho, q1]) q2
        · cases hh
      · obtain ⟨q1, rfl, rfl⟩ := pureH_spec hh
        exact pure ho (by simp only [opP, hx, hl, hhi, hm]; exact q1)
    · cases hh
  | indexAddr t x ix =>
    rw [ho] at hh
    simp only [opH] at hh
    split at hh
    · rename_i k o' off len cap i hx hi
      split at hh
      · rename_i e ht
        split at hh
        · cases hh
        · rename_i hc
          split at hh
          · rename_i j hj
            cases hh
            obtain ⟨v, q1, q2⟩ := index_sl (P := P) ht (fun q => hc (.inl q)) (Decidable.byContradiction fun q => hc (.inr q)) (hev _ _ hx) (hev _ _ hi) hj
            exact Does.same h (by simp [execOp, ho, q1]) q2
          · cases hh
      · cases hh
    · rename_i d' i' _ hx hi
      obtain ⟨q1, rfl, rfl⟩ := pureH_spec hh
      exact pure ho (by simp only [opP, hx, hi]; exact q1)
    · cases hh
  | lookup t x k c =>
    rw [ho] at hh
    simp only [opH] at hh
    split at hh
    · rename_i dx dk hx hk
      split at hh
      · rename_i r rd' hs
        cases hh
        obtain ⟨v, q1, q2⟩ := lookup_sound h hs (hev _ _ hx) (hev _ _ hk)
        exact Does.same h (by simp [execOp, ho, q1]) q2
      · cases hh
    · cases hh
  | mapUpdate t m k x =>
    rw [ho] at hh
    simp only [opH] at hh
    split at hh
    · rename_i dm dk dx hm hk hx
      split at hh
      · rename_i us' rd' hs
        cases hh
        obtain ⟨w', q1, q2, q3⟩ := mapUpdate_sound h hs (hev _ _ hm) (hev _ _ hk) (hev _ _ hx)
        exact Does.unit (by simp [execOp, ho, q1]) q2 q3
      · cases hh
    · cases hh
  | mapEntry t m k =>
    rw [ho] at hh
    simp only [opH] at hh
    split at hh
    · rename_i dm dk hm hk
      obtain ⟨v, w', q1, q2, q3, q4⟩ := mapEntry_sound h hh (hev _ _ hm) (hev _ _ hk)
      exact ⟨v, w', g, .inl (by simp [execOp, ho, q1]), q2.weaken fun n hn => hn.1, q3, q4⟩
    · cases hh
  | entryStore t m s x =>
    rw [ho] at hh
    simp only [opH] at hh
    split at hh
    · rename_i dm ds dx hm hs hx
      split at hh
      · rename_i us' rd' he
        cases hh
        obtain ⟨w', q1, q2, q3⟩ := entryStore_sound (P := P) (t := t) h he (hev _ _ hm) (hev _ _ hs) (hev _ _ hx)
        exact Does.unit (by simp [execOp, ho, q1]) q2 q3
      · cases hh
    · cases hh
  | range t x =>
    rw [ho] at hh hf
    simp only [opH] at hh
    split at hh
    · rename_i dx hx
      have := range_sound (P := P) h (hf rfl) hh (hev _ _ hx)
      exact Does.of_runs this fun v w' hv => by simp [execOp, ho, hv]
    · cases hh
  | next x s =>
    rw [ho] at hh
    cases s with
    | true =>
      simp only [opH, opP] at hh
      simp [pureH] at hh
    | false =>
      simp only [opH] at hh
      split at hh
      · rename_i dx hx
        have := next_sound (P := P) (free := free) (mk := makesH (.next x false)) (nm := nm) (ty := o.type) h hh (hev _ _ hx)
        exact Does.of_runs this fun v w' hv => by simp [execOp, ho, hv]
      · cases hh
  | entry x =>
    rw [ho] at hh
    simp only [opH] at hh
    split at hh
    · rename_i dx hx
      split at hh
      · rename_i r rd' hs
        cases hh
        obtain ⟨v, q1, q2⟩ := entry_sound (P := P) h hs (hev _ _ hx)
        exact Does.same h (by simp [execOp, ho, q1]) q2
      · cases hh
    · cases hh
  | convert src dst x =>
    rw [ho] at hh
    simp only [opH] at hh
    split at hh
    · rename_i k o' off n cap hx
      split at hh
      · rename_i e hs hd
        split at hh
        · rename_i hb
          split at hh
          · rename_i n' cs rd' hsrc
            split at hh
            · rename_i ns hns
              cases hh
              have he : P.underlying e = some (.int .u8) := by
                unfold isByte at hb
                split at hb
                · assumption
                · cases hb
              have := string_sl h hs he hd hsrc hns (hev _ _ hx)
              exact Does.same h (by simp [execOp, ho, this]) (rel_v_mk rfl)
            · cases hh
          · cases hh
        · cases hh
      · cases hh
    · rename_i d' _ hx
      obtain ⟨q1, rfl, rfl⟩ := pureH_spec hh
      exact pure ho (by simp only [opP, hx, Option.bind_some]; exact q1)
    · cases hh
  | binOp op t x y yt =>
    rw [ho] at hh
    simp only [opH] at hh
    split at hh
    · rename_i dx dy hx hy
      split at hh
      · rename_i r rd' hs
        cases hh
        obtain ⟨v, q1, q2⟩ := run_binH (P := P) (x := x) (y := y) h hs (hev _ _ hx) (hev _ _ hy)
        exact Does.same h (by simp only [execOp, ho, Sem.run_bind] at q1 ⊢; rw [q1]; simp) q2
      · cases hh
    · cases hh
  | call c =>
    rw [ho] at hh hf
    simp only [opH] at hh
    split at hh
    · rename_i b hc
      split at hh
      · rename_i ds hds
        split at hh
        · have hr := hh
          have := builtinH_sound (nm := nm) h hc (fun hb => hf (by subst hb; simp only [makesH, hc])) hev hds hr ho
          have hmk : isApp b = makesH (.call c) := by simp only [makesH, hc]; cases b <;> rfl
          rw [hmk] at this
          exact this
        · obtain ⟨q1, rfl, rfl⟩ := pureH_spec hh
          exact pure ho (by simp only [opP]; exact q1)
      · cases hh
    · cases hh
  | _ =>
    rw [ho] at hh
    simp only [opH] at hh
    obtain ⟨q1, rfl, rfl⟩ := pureH_spec hh
    exact pure ho q1

end
end Go.Ab
