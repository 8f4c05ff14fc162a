/-
  The machine yields what opP tells.
-/
import Derived.Test.YtahhpefgeeofhaaGreatDoorZdPure
set_option linter.unusedSimpArgs false
set_option linter.unusedVariables false
namespace Go.Ab
section
variable {P : Program} {g : G} {w : World} {a : Act} {ev : Operand → Option D}

theorem run_min2 {big : Bool} {x y d : D} {X Y : Value} (h : min2D big x y = some d) (rx : Rel g w x X) (ry : Rel g w y Y) :
    ∃ v, (if big then Builtin.max2 X Y else Builtin.min2 X Y).run P w = .ok v w ∧ Rel g w d v := by
  unfold min2D at h
  split at h
  · obtain rfl := rel_v rx; obtain rfl := rel_v ry
    cases h
    refine ⟨_, ?_, rel_v_mk rfl⟩
    cases big <;> simp [Builtin.max2, Builtin.min2]
  · cases h

theorem run_minGo {big : Bool} : ∀ {ds : List D} {acc d : D} {X : Value} {vs : List Value}, minGo big acc ds = some d → Rel g w acc X → RelL g w ds vs →
    ∃ v, (if big then vs.foldlM Builtin.max2 X else vs.foldlM Builtin.min2 X : Sem Value).run P w = .ok v w ∧ Rel g w d v
  | [], acc, d, X, vs, h, rx, rl => by
    simp only [minGo] at h; cases h
    simp only [RelL] at rl; subst rl
    exact ⟨X, by cases big <;> simp, rx⟩
  | e :: ds, acc, d, X, vs, h, rx, rl => by
    simp only [minGo, Option.bind_eq_some_iff] at h
    obtain ⟨y, h1, h2⟩ := h
    simp only [RelL] at rl
    obtain ⟨z, zs, rfl, r1, r2⟩ := rl
    obtain ⟨v, h3, h4⟩ := run_min2 (P := P) h1 rx r1
    obtain ⟨u, h5, h6⟩ := run_minGo h2 h4 r2
    refine ⟨u, ?_, h6⟩
    cases big
    · simp only [Bool.false_eq_true, if_false] at h3 h5 ⊢
      rw [List.foldlM_cons, Sem.run_bind, h3]; exact h5
    · simp only [if_true] at h3 h5 ⊢
      rw [List.foldlM_cons, Sem.run_bind, h3]; exact h5

theorem run_callD {o : Oper} {c : Call} {d : D} (hev : ∀ x d, ev x = some d → Rel g w d (a.eval x)) (ho : o.op = .call c) (h : callD P ev c = some d) :
    ∃ v, (execOp a.eval o).run P w = .ok (.value v) w ∧ Rel g w d v := by
  obtain ⟨callee, args, tys⟩ := c
  unfold callD at h
  split at h
  · rename_i hc
    simp only at hc h
    subst hc
    split at h
    · rename_i d0 t hall htys
      have hr := allD_rel hev hall
      simp only [RelL] at hr
      obtain ⟨X, xs, hX, rX, rfl⟩ := hr
      have e1 : args.map a.eval = #[X] := by
        apply Array.ext'
        rw [Array.toList_map, hX]
      have e2 : tys = #[t] := by apply Array.ext'; rw [htys]
      have key : ∀ n, (Builtin.len_ #[t] o.type #[X]).run P w = .ok (.int .i64 n) w → (execOp a.eval o).run P w = .ok (.value (.int .i64 n)) w := by
        intro n hn
        simp [execOp, ho, resolve, invoke, builtin, e1, e2, hn]
      split at h
      · rename_i s hu
        obtain rfl := rel_v rX
        cases h
        exact ⟨_, key _ (by simp [Builtin.len_, run_underlying hu w, goInt]), rel_v_mk rfl⟩
      · rename_i e hu
        obtain rfl := rel_v rX
        cases h
        exact ⟨_, key _ (by simp [Builtin.len_, run_underlying hu w, goInt]), rel_v_mk rfl⟩
      · rename_i e k es hu
        cases h
        refine ⟨_, key es.length ?_, rel_v_mk rfl⟩
        simp only [Rel] at rX
        rcases rX.2 with ⟨rfl, rfl⟩ | ⟨b, o, c, vs, rfl, _⟩ <;> simp [Builtin.len_, run_underlying hu w, goInt]
      · rename_i e k es hu
        cases h
        refine ⟨_, key es.length ?_, rel_v_mk rfl⟩
        simp only [Rel] at rX
        obtain ⟨_, b, o, vs, rfl, _⟩ := rX
        simp [Builtin.len_, run_underlying hu w, goInt]
      · rename_i n e hu
        cases h
        refine ⟨_, key n ?_, rel_v_mk rfl⟩
        simp [Builtin.len_, run_underlying hu w, goInt]
      · cases h
    · cases h
  · rename_i hc
    simp only at hc h
    subst hc
    simp only [Option.bind_eq_some_iff] at h
    obtain ⟨ds, hall, hm⟩ := h
    have hr := allD_rel hev hall
    cases ds with
    | nil => simp [minD] at hm
    | cons d0 ds =>
      simp only [RelL] at hr
      obtain ⟨X, xs, hX, rX, rxs⟩ := hr
      obtain ⟨v, h1, h2⟩ := run_minGo (P := P) (big := false) (by simpa [minD] using hm) rX rxs
      refine ⟨v, ?_, h2⟩
      have e1 : (args.map a.eval).toList = X :: xs := by rw [Array.toList_map, hX]
      have e2 : args.map a.eval = (X :: xs).toArray := by rw [← e1]
      simp only [Bool.false_eq_true, if_false] at h1
      simp [execOp, ho, resolve, invoke, builtin, Builtin.min_, e2, h1]
  · rename_i hc
    simp only at hc h
    subst hc
    simp only [Option.bind_eq_some_iff] at h
    obtain ⟨ds, hall, hm⟩ := h
    have hr := allD_rel hev hall
    cases ds with
    | nil => simp [minD] at hm
    | cons d0 ds =>
      simp only [RelL] at hr
      obtain ⟨X, xs, hX, rX, rxs⟩ := hr
      obtain ⟨v, h1, h2⟩ := run_minGo (P := P) (big := true) (by simpa [minD] using hm) rX rxs
      refine ⟨v, ?_, h2⟩
      have e1 : (args.map a.eval).toList = X :: xs := by rw [Array.toList_map, hX]
      have e2 : args.map a.eval = (X :: xs).toArray := by rw [← e1]
      simp only [if_true] at h1
      simp [execOp, ho, resolve, invoke, builtin, Builtin.max_, e2, h1]
  · cases h

/-- **The machine yields what opP tells, and leaves memory alone.** -/
theorem opP_sound {o : Oper} {d : D} (hev : ∀ x d, ev x = some d → Rel g w d (a.eval x)) (h : opP P ev o.op = some d) :
    ∃ v, (execOp a.eval o).run P w = .ok (.value v) w ∧ Rel g w d v := by
  have lift : ∀ {s : Sem Value}, (∃ v, s.run P w = .ok v w ∧ Rel g w d v) → ∀ {r : Sem Next}, r = (do pure (.value (← s))) → ∃ v, r.run P w = .ok (.value v) w ∧ Rel g w d v := by
    rintro s ⟨v, h1, h2⟩ r rfl
    exact ⟨v, by simp [h1], h2⟩
  cases ho : o.op with
  | move x => rw [ho] at h; simp only [opP] at h; exact ⟨_, by simp [execOp, ho], hev _ _ h⟩
  | assign x => rw [ho] at h; simp only [opP] at h; exact ⟨_, by simp [execOp, ho], hev _ _ h⟩
  | pick c x y =>
    rw [ho] at h; simp only [opP] at h
    split at h
    · rename_i t hc
      have hb := rel_v (hev _ _ hc)
      cases t
      · exact ⟨a.eval y, by simp [execOp, ho, hb, asBool], hev _ _ (by simpa using h)⟩
      · exact ⟨a.eval x, by simp [execOp, ho, hb, asBool], hev _ _ (by simpa using h)⟩
    · cases h
  | build t parts =>
    rw [ho] at h; simp only [opP, Option.bind_eq_some_iff, Option.map_eq_some_iff] at h
    obtain ⟨ps, hps, out, hb, rfl⟩ := h
    refine lift (run_builtD hb (vparts := parts.map fun p => (p.1, a.eval p.2)) (by simpa using partsD_rel hev hps)) ?_
    simp only [execOp, ho]
  | load t x =>
    rw [ho] at h; simp only [opP] at h
    split at h
    · rename_i cs off hx
      exact lift (run_load_elem h (hev _ _ hx)) (by simp only [execOp, ho])
    · cases h
  | nilCheck x =>
    rw [ho] at h; simp only [opP] at h
    split at h
    · rename_i cs off hx
      cases h
      have hr := hev _ _ hx
      have hr' := hr
      simp only [Rel] at hr
      obtain ⟨b, k, vs, hX, _⟩ := hr
      refine ⟨_, ?_, hr'⟩
      simp [execOp, ho, hX]
    · rename_i o' off hx
      cases h
      have hr := hev _ _ hx
      have hr' := hr
      simp only [Rel] at hr
      obtain ⟨b, k, _, hX⟩ := hr
      refine ⟨_, ?_, hr'⟩
      simp [execOp, ho, hX]
    · rename_i f xs ys hx
      cases h
      have hr := hev _ _ hx
      have hr' := hr
      simp only [Rel] at hr
      obtain ⟨us, vs, hX, _⟩ := hr
      refine ⟨_, ?_, hr'⟩
      simp [execOp, ho, hX]
    · cases h
  | binOp op t x y yt =>
    rw [ho] at h; simp only [opP] at h
    split at h
    · rename_i dx dy hx hy
      exact lift (run_binD (x := x) (y := y) h (hev _ _ hx) (hev _ _ hy)) (by simp only [execOp, ho])
    · cases h
  | unOp op t x =>
    rw [ho] at h; simp only [opP, Option.bind_eq_some_iff] at h
    obtain ⟨dx, hx, hu⟩ := h
    have hr := hev _ _ hx
    unfold unD at hu
    split at hu
    · have hX := rel_v hr
      split at hu
      · cases hu; exact ⟨_, by simp [execOp, ho, hX, Op.unary, Op.intArith], rel_v_mk rfl⟩
      · cases hu; exact ⟨_, by simp [execOp, ho, hX, Op.unary, Op.intBits], rel_v_mk rfl⟩
      · cases hu
    · have hX := rel_v hr
      split at hu
      · cases hu; exact ⟨_, by simp [execOp, ho, hX, Op.unary], rel_v_mk rfl⟩
      · cases hu
    · cases hu
  | convert src dst x =>
    rw [ho] at h; simp only [opP, Option.bind_eq_some_iff] at h
    obtain ⟨dx, hx, hc⟩ := h
    exact lift (run_convD hc (hev _ _ hx)) (by simp only [execOp, ho])
  | makeFunc fn first cap =>
    rw [ho] at h; simp only [opP] at h
    split at h
    · rename_i xs ys h1 h2
      cases h
      have r1 := allD_rel hev h1
      have r2 := allD_rel hev h2
      refine ⟨.func fn (first.map a.eval) (cap.map a.eval), by simp [execOp, ho, Instr.makeFunc], ?_⟩
      simp only [Rel]
      exact ⟨_, _, by rw [← Array.toList_map, ← Array.toList_map], r1, r2⟩
    · cases h
  | slice t x lo hi mx =>
    rw [ho] at h; simp only [opP] at h
    split at h
    · rename_i dx l h' m hx hl hh hm
      exact lift (run_sliceD h (hev _ _ hx) (optD_rel hev hl) (optD_rel hev hh) (optD_rel hev hm)) (by simp only [execOp, ho])
    · cases h
  | fieldAddr s x f =>
    rw [ho] at h; simp only [opP] at h
    split at h
    · rename_i cs off k ft hx hf
      cases h
      have hr := hev _ _ hx
      simp only [Rel] at hr
      obtain ⟨b, o', vs, hX, h1, h2⟩ := hr
      refine ⟨.pointer (some ⟨b, o' + off + k, none⟩), by simp [execOp, ho, hX, run_fieldAt hf], ?_⟩
      simp only [Rel]
      exact ⟨b, o', vs, by rw [Nat.add_assoc], h1, h2⟩
    · rename_i o' off k ft hx hf
      cases h
      have hr := hev _ _ hx
      simp only [Rel] at hr
      obtain ⟨b, k', h1, hX⟩ := hr
      refine ⟨.pointer (some ⟨b, k' + off + k, none⟩), by simp [execOp, ho, hX, run_fieldAt hf], ?_⟩
      simp only [Rel]
      exact ⟨b, k', h1, by rw [Nat.add_assoc]⟩
    · cases h
  | field t x f =>
    rw [ho] at h; simp only [opP] at h
    split at h
    · rename_i cs hx
      exact lift (run_field h (hev _ _ hx)) (by simp only [execOp, ho])
    · cases h
  | indexAddr t x ix =>
    rw [ho] at h; simp only [opP] at h
    split at h
    · rename_i dx di hx hi
      exact lift (run_indexAddrD h (hev _ _ hx) (hev _ _ hi)) (by simp only [execOp, ho])
    · cases h
  | index t x ix =>
    rw [ho] at h; simp only [opP] at h
    split at h
    · rename_i dx di hx hi
      exact lift (run_indexD h (hev _ _ hx) (hev _ _ hi)) (by simp only [execOp, ho])
    · cases h
  | extract x i =>
    rw [ho] at h; simp only [opP] at h
    split at h
    · rename_i ds hx
      have hr := hev _ _ hx
      simp only [Rel] at hr
      obtain ⟨vs, hX, hl⟩ := hr
      obtain ⟨v, hv, hrel⟩ := hl.get h
      refine ⟨v, ?_, hrel⟩
      simp [execOp, ho, hX, Instr.extract, hv]
    · cases h
  | call c => rw [ho] at h; exact run_callD hev ho (by simpa [opP] using h)
  | _ => rw [ho] at h; simp [opP] at h

end
end Go.Ab
