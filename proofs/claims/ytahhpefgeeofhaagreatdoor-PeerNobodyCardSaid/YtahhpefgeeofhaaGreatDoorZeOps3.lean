/-
  Literals, makes, copies, parts of slices: what they do to things.
-/
import Derived.Test.YtahhpefgeeofhaaGreatDoorZeOps2
set_option linter.unusedSimpArgs false
set_option linter.unusedVariables false
namespace Go.Ab

def buildSliceD (P : Program) (nm : Nm) (t : TypeId) (len : Nat) (parts : List (Nat × D)) : Option (D × Up × List Nm) :=
  match elemD P t with
  | some (_, i, zs) => if len * i.size ≤ 16777216 then
      (match fillD (fun j => some (j * i.size, i.size)) (List.replicate len zs).flatten parts with
      | some cs => if cs.length = len * i.size then some (.sl i.size nm 0 len (some len), [(nm, some (.cells cs))], []) else none
      | none => none) else none
  | none => none

def makeSliceD (P : Program) (nm : Nm) (t : TypeId) : D → D → Option (D × Up × List Nm)
  | .v (.int _ l), .v (.int _ c) => (match elemD P t with
      | some (_, i, zs) => if 0 ≤ IntKind.i64.wrap l ∧ IntKind.i64.wrap l ≤ IntKind.i64.wrap c ∧ i.bytes * (IntKind.i64.wrap c).toNat ≤ 281474976710656 then
          some (.sl i.size nm 0 (IntKind.i64.wrap l).toNat (some (IntKind.i64.wrap c).toNat), [(nm, some (.cells (List.replicate (IntKind.i64.wrap c).toNat zs).flatten))], []) else none
      | none => none)
  | _, _ => none

def copyD (P : Program) (hp : Hp) (t t2 : TypeId) (d x : D) : Option (D × Up × List Nm) :=
  match elemD P t with
  | some (_, i, _) => (match newsD P hp i.size t2 x with
    | some (n, cs, rd) => (match d with
      | .v (.slice none 0 0) => some (.v (.int .i64 0), [], rd)
      | .sl k o off len _ => if min n len = 0 then some (.v (.int .i64 0), [], rd) else if k = i.size then (match hp o with
          | some (.cells ds) => if off + len * k ≤ ds.length ∧ (cs.take (min n len * k)).all D.isCell = true then some (.v (.int .i64 ((min n len : Nat) : Int)), [(o, some (.cells (spliceD ds (cs.take (min n len * k)) off)))], o :: rd) else none
          | _ => none) else none
      | _ => none)
    | none => none)
  | none => none

def clearD (P : Program) (hp : Hp) (t : TypeId) (d : D) : Option (D × Up × List Nm) :=
  match elemD P t with
  | some (_, i, zs) => (match d with
    | .v (.slice none 0 0) => some (.tup [], [], [])
    | .sl k o off len _ => if len = 0 then some (.tup [], [], []) else if k = i.size then (match hp o with
        | some (.cells ds) => if off + len * k ≤ ds.length then some (.tup [], [(o, some (.cells (spliceD ds (List.replicate len zs).flatten off)))], [o]) else none
        | _ => none) else none
    | _ => none)
  | none => none

def intD : D → Option Int
  | .v (.int _ i) => some i
  | _ => none

/-- Bounds of a part of a slice whose room may not be known. -/
def bounds3D (len : Nat) (cap : Option Nat) (lo hi mx : Option D) : Option (Nat × Nat × Option Nat) :=
  match mx with
  | none => (match (match hi with
      | none => some len
      | some d => match intD d with
        | some i => if 0 ≤ i ∧ i ≤ ((cap.getD len : Nat) : Int) then some i.toNat else none
        | none => none) with
    | none => none
    | some h => match lo with
      | none => some (0, h, cap)
      | some d => match intD d with
        | some i => if 0 ≤ i ∧ i ≤ h then some (i.toNat, h, cap) else none
        | none => none)
  | some dm => (match intD dm, hi.bind intD, (match lo with | none => some 0 | some d => intD d) with
    | some m, some h, some l => if 0 ≤ l ∧ l ≤ h ∧ h ≤ m ∧ m ≤ ((cap.getD len : Nat) : Int) then some (l.toNat, h.toNat, some m.toNat) else none
    | _, _, _ => none)

/-- A part of a slice, or of an array that a pointer leads to. -/
def sliceH (P : Program) (hp : Hp) (t : TypeId) (x : D) (lo hi mx : Option D) : Option (D × List Nm) :=
  match x, P.underlying t with
  | .sl k o off len cap, some (.slice e) => if P.info? e = none ∨ k ≠ szD P e then none else
      (match bounds3D len cap lo hi mx with
      | some (l, h, m) => some (.sl k o (off + l * k) (h - l) (m.map fun m => m - l), [])
      | none => none)
  | .ptr o off, some (.array n e) => if P.info? e = none then none else
      (match hp o with
      | some (.cells cs) => if off + n * szD P e ≤ cs.length then
          (match bounds3D n (some n) lo hi mx with
          | some (l, h, some m) => some (.sl (szD P e) o (off + l * szD P e) (h - l) (some (m - l)), [o])
          | _ => none) else none
      | _ => none)
  | _, _ => none

section
variable {P : Program} {tb : Nat → Option (List D)} {g g' : G} {B : Base} {w w' : World} {hp : Hp} {free : Nm → Prop} {a : Act}

theorem buildSlice_sound (h : HeapR tb B hp free w g) {nm : Nm} (hf : free nm) {t : TypeId} {len : Nat} {parts : List (Nat × D)} {vparts : Array (Nat × Value)} {d : D} {us : Up} {rd : List Nm} (hb : buildSliceD P nm t len parts = some (d, us, rd)) (hp' : RelP g w parts vparts.toList) :
    Runs P tb B free true nm hp w g (Instr.buildSlice t len vparts) d us := by
  unfold buildSliceD at hb
  split at hb
  · rename_i e i zs hel
    obtain ⟨z, he⟩ := elemD_spec hel
    split at hb
    · rename_i hle
      split at hb
      · rename_i cs hcs
        split at hb
        · rename_i hlen
          cases hb
          obtain ⟨v, h1, h2⟩ := run_fillD hcs (vcells := Builtin.zeroCells z.cells len) (he.zeros len) hp'
          have hz : (Array.range (len * i.size)).map (fun x => z.cells[x % z.cells.size]!) = Builtin.zeroCells z.cells len := by
            simp [Builtin.zeroCells, he.size]
          have hv : v.size = len * i.size := by have := h2.length; rw [Array.length_toList] at this; omega
          have hrun : (Instr.buildSlice t len vparts).run P w = .ok (.slice (some ⟨w.heap.size, 0, none⟩) len len) (w.alloc (.cells (v.toList ++ []).toArray e)) := by
            by_cases h0 : len * i.size = 0
            · have hzz : (Array.range (len * i.size)).map (fun x => (#[] : Array Value)[x % (#[] : Array Value).size]!) = Builtin.zeroCells z.cells len := by
                rw [← hz, h0]
                apply Array.ext'; simp
              have hle' : ¬ (16777216 < len * i.size) := by omega
              simp [Instr.buildSlice, run_underlying he.ty, sizeOf, typeInfo, he.info, hle', h0, newRow] at hzz ⊢
              rw [hzz, h1]
              simp
            · have hle' : ¬ (16777216 < len * i.size) := by omega
              simp [Instr.buildSlice, run_underlying he.ty, sizeOf, typeInfo, he.info, hle', h0, newRow, zeroValue, he.zero]
              rw [hz, h1]
              simp
          refine Runs.row (T := e) h hf (New.refl h.tight) hrun h2 ?_
          intro g' w' hv' hr'
          simp only [Rel]
          refine ⟨w.heap.size, 0, len, 0, hv', rfl, fun _ => rfl, Nat.le_refl _, fun n hn => by cases hn; rfl, ?_⟩
          simpa [hv] using hr'
        · cases hb
      · cases hb
    · cases hb
  · cases hb

theorem makeSlice_sound (h : HeapR tb B hp free w g) {nm : Nm} (hf : free nm) {t : TypeId} {l c : D} {L C : Value} {d : D} {us : Up} {rd : List Nm} (hb : makeSliceD P nm t l c = some (d, us, rd)) (hl : Rel g w l L) (hc : Rel g w c C) :
    Runs P tb B free true nm hp w g (Instr.makeSlice t L C) d us := by
  unfold makeSliceD at hb
  split at hb
  · rename_i kl l kc c
    have := rel_v hl; subst this
    have := rel_v hc; subst this
    split at hb
    · rename_i e i zs hel
      obtain ⟨z, he⟩ := elemD_spec hel
      split at hb
      · rename_i hcond
        obtain ⟨c1, c2, c3⟩ := hcond
        cases hb
        have hrun := run_makeSlice (w := w) (kl := kl) (kc := kc) he.ty he.info he.zero (l := l) (c := c) (L := (IntKind.i64.wrap l).toNat) (C := (IntKind.i64.wrap c).toNat) (by omega) (by omega) (by omega) c3 he.size he.pos
        have hrun' : (Instr.makeSlice t (.int kl l) (.int kc c)).run P w = .ok (.slice (some ⟨w.heap.size, 0, none⟩) (IntKind.i64.wrap l).toNat (IntKind.i64.wrap c).toNat) (w.alloc (.cells ((Builtin.zeroCells z.cells (IntKind.i64.wrap c).toNat).toList ++ []).toArray e)) := by
          rw [hrun]; simp
        refine Runs.row (T := e) h hf (New.refl h.tight) hrun' (he.zeros _) ?_
        intro g' w' hv' hr'
        simp only [Rel]
        refine ⟨w.heap.size, 0, _, 0, hv', rfl, fun _ => rfl, by omega, fun n hn => by cases hn; rfl, ?_⟩
        rw [List.append_nil, he.zeros_len] at hr'
        simpa using hr'
      · cases hb
    · cases hb
  · cases hb

theorem copy_sound (h : HeapR tb B hp free w g) {mk : Bool} {nm : Nm} {t t2 ty : TypeId} {d x r : D} {D' X : Value} {us : Up} {rd : List Nm} (hb : copyD P hp t t2 d x = some (r, us, rd)) (hd : Rel g w d D') (hx : Rel g w x X) :
    Runs P tb B free mk nm hp w g (Builtin.copy_ #[t, t2] ty #[D', X]) r us := by
  unfold copyD at hb
  split at hb
  · rename_i e i zs hel
    obtain ⟨z, he⟩ := elemD_spec hel
    split at hb
    · rename_i n cs rd0 hn
      obtain ⟨vs, hN, hvs⟩ := news_sound (P := P) (e := e) h hn hx
      have hfirst : ∀ m, m ≤ n → (Builtin.firstCells i.size m X).run P w = .ok (vs.take (m * i.size)).toArray w := by
        intro m hm
        unfold newsD at hn
        split at hn
        · rename_i ht2
          split at hn
          · rename_i s
            split at hn
            · rename_i hk
              simp only [Option.some.injEq, Prod.mk.injEq] at hn
              obtain ⟨rfl, rfl, rfl⟩ := hn
              have := rel_v hx; subst this
              have hvl : vs = s.data.toList.map fun b => .int .u8 b.toNat := by
                have h1 := hN.first w rfl
                have h2 := (string_news (P := P) (w := w) (e := e) (s := s) ht2).first w rfl
                rw [hk] at h1
                rw [h1] at h2
                simp only [Result.ok.injEq, and_true] at h2
                have := congrArg Array.toList h2
                simpa using this
              rw [hvl, hk]
              simp [Builtin.firstCells]
              apply Array.ext'
              simp [ByteArray.extract]
            · cases hn
          · cases hn
        · rename_i e' ht2
          obtain ⟨vs', h1, h2⟩ := src_sound h hn hx
          have : vs = vs' := by
            have q1 := hN.first w rfl
            have q2 := h1.first (P := P) (Nat.le_refl n) (w' := w) rfl
            rw [← h1.1, List.take_length, q1] at q2
            simp only [Result.ok.injEq, and_true] at q2
            simpa using q2
          subst this
          exact h1.first hm rfl
        · cases hn
      split at hb
      · cases hb
        have := rel_v hd; subst this
        have hf0 := hfirst 0 (Nat.zero_le _)
        simp only [Nat.zero_mul, List.take_zero] at hf0
        exact Runs.same h (run_copy_nil he.ty he.info hN.lenOf hf0) (rel_v_mk rfl)
      · rename_i k o off len cap
        simp only [Rel] at hd
        obtain ⟨b, m, c, p, e1, e2, e3, e4, e5, e6⟩ := hd
        subst e2
        split at hb
        · rename_i hm0
          cases hb
          have hf0 := hfirst 0 (Nat.zero_le _)
          simp only [Nat.zero_mul, List.take_zero] at hf0
          exact Runs.same h (run_copy_zero he.ty he.info hN.lenOf hm0 hf0) (rel_v_mk rfl)
        rename_i hm0
        split at hb
        · rename_i hk
          subst hk
          split at hb
          · rename_i ds hds
            split at hb
            · rename_i hc
              obtain ⟨c1, c2⟩ := hc
              cases hb
              have hlen : cs.length = n * i.size := by rw [← hvs.length, hN.len]
              have hmin : min n len * i.size ≤ n * i.size := Nat.mul_le_mul_right _ (Nat.min_le_left _ _)
              have hmin2 : min n len * i.size ≤ len * i.size := Nat.mul_le_mul_right _ (Nat.min_le_right _ _)
              have htl : (cs.take (min n len * i.size)).length = min n len * i.size := by rw [List.length_take]; omega
              have hvl : (vs.take (min n len * i.size)).length = min n len * i.size := by rw [List.length_take, hN.len]; omega
              have hp : p = m + off := e3 (by omega)
              subst hp
              refine Runs.write h hds (hvs.take _) (by rw [htl]; omega) ?_ (fun _ _ => rel_v_mk rfl)
              intro b2 m2 T full q1 q2 q3
              rw [e1] at q1
              cases q1
              exact run_copy he.ty he.info hN.lenOf rfl (hfirst _ (Nat.min_le_left _ _)) q2 ((hvs.take _).oneCells c2) (by simp only [List.size_toArray]; omega)
            · cases hb
          · cases hb
        · cases hb
      · cases hb
    · cases hb
  · cases hb

theorem clear_sound (h : HeapR tb B hp free w g) {mk : Bool} {nm : Nm} {t ty : TypeId} {d r : D} {D' : Value} {us : Up} {rd : List Nm} (hb : clearD P hp t d = some (r, us, rd)) (hd : Rel g w d D') :
    Runs P tb B free mk nm hp w g (Builtin.clear_ #[t] ty #[D']) r us := by
  have htup : ∀ (g' : G) (w' : World), Rel g' w' (.tup []) (.tuple #[]) := fun g' w' => by simp only [Rel]; exact ⟨[], rfl, by simp [RelL]⟩
  unfold clearD at hb
  split at hb
  · rename_i e i zs hel
    obtain ⟨z, he⟩ := elemD_spec hel
    split at hb
    · cases hb
      have := rel_v hd; subst this
      exact Runs.same h (run_clear_empty he.ty) (htup _ _)
    · rename_i k o off len cap
      simp only [Rel] at hd
      obtain ⟨b, m, c, p, e1, e2, e3, e4, e5, e6⟩ := hd
      subst e2
      split at hb
      · rename_i h0
        cases hb
        subst h0
        exact Runs.same h (run_clear_empty he.ty) (htup _ _)
      · rename_i h0
        split at hb
        · rename_i hk
          subst hk
          split at hb
          · rename_i ds hds
            split at hb
            · rename_i hle
              cases hb
              have hp : p = m + off := e3 (by omega)
              subst hp
              have hz := he.zeros (g := g) (w := w) len
              have hzl := hz.length
              rw [he.zeros_len] at hzl
              refine Runs.write h hds hz (by omega) ?_ (fun _ _ => htup _ _)
              intro b2 m2 T full q1 q2 q3
              rw [e1] at q1
              cases q1
              rw [he.zeros_len] at q3 ⊢
              have := run_clear (ty := ty) (sCap := c) he.ty he.info he.zero h0 q2 (he.zeros_one len) (by rw [he.size]; simpa using q3)
              rw [he.size] at this
              exact this
            · cases hb
          · cases hb
        · cases hb
    · cases hb
  · cases hb

theorem intD_spec {d : D} {i : Int} {X : Value} (h : intD d = some i) (hr : Rel g w d X) : ∃ k, X = .int k i := by
  unfold intD at h
  split at h
  · cases h
    exact ⟨_, rel_v hr⟩
  · cases h

theorem run_bound {k : IntKind} {i : Int} {y : Nat} {c : BoundsCode} (h : 0 ≤ i ∧ i ≤ (y : Int)) : (Instr.sliceBound (.int k i) y c).run P w = .ok i.toNat w := run_sliceBound h

/-- The bounds of a part. -/
theorem bounds3_sound {isS : Bool} {len c l h : Nat} {cap m : Option Nat} {lo hi mx : Option D} {vlo vhi vmx : Option Value} (hb : bounds3D len cap lo hi mx = some (l, h, m)) (hle : len ≤ c) (hcap : ∀ n, cap = some n → c = n) (hlo : RelO g w lo vlo) (hhi : RelO g w hi vhi) (hmx : RelO g w mx vmx) :
    ∃ m', (Instr.sliceBounds isS len c vlo vhi vmx).run P w = .ok (l, h, m') w ∧ l ≤ h ∧ h ≤ m' ∧ m' ≤ c ∧ (∀ n, m = some n → m' = n) ∧ (mx = none → m' = c) := by
  have hgc : cap.getD len ≤ c := by
    cases cap with
    | none => exact hle
    | some n => rw [hcap n rfl]; exact Nat.le_refl _
  unfold bounds3D at hb
  split at hb
  · cases vmx with
    | some v => simp [RelO] at hmx
    | none =>
      split at hb
      · cases hb
      · rename_i h' hh
        have key : (match vhi with
            | some v => (Instr.sliceBound v c (if isS then .sliceAcap else .sliceAlen)).run P w
            | none => .ok len w) = .ok h' w ∧ h' ≤ c := by
          split at hh
          · cases hh
            cases vhi with
            | none => exact ⟨rfl, hle⟩
            | some v => simp [RelO] at hhi
          · rename_i d
            cases vhi with
            | none => simp [RelO] at hhi
            | some v =>
              split at hh
              · rename_i i hi'
                obtain ⟨k, rfl⟩ := intD_spec hi' hhi
                split at hh
                · rename_i hc
                  cases hh
                  exact ⟨run_bound ⟨hc.1, by omega⟩, by omega⟩
                · cases hh
              · cases hh
        split at hb
        · cases hb
          cases vlo with
          | some v => simp [RelO] at hlo
          | none =>
            refine ⟨c, ?_, Nat.zero_le _, key.2, Nat.le_refl _, fun n hn => hcap n hn, fun _ => rfl⟩
            cases vhi with
            | none => simp only [Result.ok.injEq] at key; simp [Instr.sliceBounds, Sem.run_bind, key.1.1]
            | some v => simp only at key; simp [Instr.sliceBounds, Sem.run_bind, key.1]
        · rename_i d
          cases vlo with
          | none => simp [RelO] at hlo
          | some v =>
            split at hb
            · rename_i i hi'
              obtain ⟨k, rfl⟩ := intD_spec hi' hlo
              split at hb
              · rename_i hc
                cases hb
                have hb2 := run_bound (P := P) (w := w) (k := k) (c := .sliceB) hc
                refine ⟨c, ?_, by omega, key.2, Nat.le_refl _, fun n hn => hcap n hn, fun _ => rfl⟩
                cases vhi with
                | none => simp only [Result.ok.injEq] at key; simp [Instr.sliceBounds, Sem.run_bind, key.1.1, hb2]
                | some v => simp only at key; simp [Instr.sliceBounds, Sem.run_bind, key.1, hb2]
              · cases hb
            · cases hb
  · rename_i dm
    cases vmx with
    | none => simp [RelO] at hmx
    | some vm =>
      split at hb
      · rename_i mi hi' li h1 h2 h3
        split at hb
        · rename_i hc
          obtain ⟨c1, c2, c3, c4⟩ := hc
          cases hb
          obtain ⟨km, rfl⟩ := intD_spec h1 hmx
          cases hi with
          | none => simp at h2
          | some dh =>
            cases vhi with
            | none => simp [RelO] at hhi
            | some vh =>
              simp only [Option.bind_some] at h2
              obtain ⟨kh, rfl⟩ := intD_spec h2 hhi
              have b1 := run_bound (P := P) (w := w) (k := km) (i := mi) (y := c) (c := if isS then .slice3Acap else .slice3Alen) ⟨by omega, by omega⟩
              have b2 := run_bound (P := P) (w := w) (k := kh) (i := hi') (y := mi.toNat) (c := .slice3B) ⟨by omega, by omega⟩
              refine ⟨mi.toNat, ?_, by omega, by omega, by omega, fun n hn => by cases hn; rfl, by simp⟩
              cases lo with
              | none =>
                cases vlo with
                | some v => simp [RelO] at hlo
                | none =>
                  cases h3
                  simp [Instr.sliceBounds, Sem.run_bind, b1, b2]
              | some dl =>
                cases vlo with
                | none => simp [RelO] at hlo
                | some vl =>
                  obtain ⟨kl, rfl⟩ := intD_spec h3 hlo
                  have b3 := run_bound (P := P) (w := w) (k := kl) (i := li) (y := hi'.toNat) (c := .slice3C) ⟨by omega, by omega⟩
                  simp [Instr.sliceBounds, Sem.run_bind, b1, b2, b3]
        · cases hb
      · cases hb


theorem room_part {b m off l h c m' k : Nat} (h1 : Room w b (m + off + c * k)) (hl : l ≤ m') (hm : m' ≤ c) : Room w b (m + (off + l * k) + (m' - l) * k) := by
  obtain ⟨cs, T, fr, q1, q2⟩ := h1
  refine ⟨cs, T, fr, q1, ?_⟩
  have e1 : l * k + (m' - l) * k = m' * k := by rw [← Nat.add_mul]; congr 1; omega
  have e2 : m' * k ≤ c * k := Nat.mul_le_mul_right _ hm
  omega

theorem slice_sound (hh : HeapR tb B hp free w g) {t : TypeId} {x r : D} {rd : List Nm} {lo hi mx : Option D} {X : Value} {vlo vhi vmx : Option Value} (hb : sliceH P hp t x lo hi mx = some (r, rd)) (hx : Rel g w x X) (hlo : RelO g w lo vlo) (hhi : RelO g w hi vhi) (hmx : RelO g w mx vmx) :
    ∃ v, (Instr.sliceAt t X vlo vhi vmx).run P w = .ok v w ∧ Rel g w r v := by
  unfold sliceH at hb
  split at hb
  · rename_i k o off len cap e ht
    split at hb
    · cases hb
    · rename_i hc
      have hi' : P.info? e ≠ none := fun q => hc (.inl q)
      have hk : k = szD P e := Decidable.byContradiction fun q => hc (.inr q)
      split at hb
      · rename_i l h m hbd
        cases hb
        simp only [Rel] at hx
        obtain ⟨b, m0, c, p, e1, e2, e3, e4, e5, e6⟩ := hx
        subst e2
        obtain ⟨m', r1, r2, r3, r4, r5, r6⟩ := bounds3_sound (P := P) (w := w) (isS := true) hbd e4 e5 hlo hhi hmx
        refine ⟨.slice (some (if m' = l then ⟨b, p, none⟩ else ⟨b, p + l * k, none⟩)) (h - l) (m' - l), ?_, ?_⟩
        · simp only [Instr.sliceAt, Instr.slice, Sem.run_bind, run_underlying ht w, r1, run_sizeOf' hi', Result.andThen_ok, Sem.run_pure, ← hk]
          by_cases hml : m' = l <;> simp [hml, Addr.add_mid]
        · simp only [Rel]
          by_cases hml : m' = l
          · rw [if_pos hml]
            refine ⟨b, m0, m' - l, p, e1, rfl, fun q => absurd (by omega) q, by omega, fun n hn => ?_, room_part (h := h) e6 (by omega) r4⟩
            cases m with
            | none => simp at hn
            | some q => simp only [Option.map_some, Option.some.injEq] at hn; have := r5 q rfl; omega
          · rw [if_neg hml]
            refine ⟨b, m0, m' - l, p + l * k, e1, rfl, fun q => ?_, by omega, fun n hn => ?_, room_part (h := h) e6 (by omega) r4⟩
            · rw [e3 (by omega), Nat.add_assoc]
            · cases m with
              | none => simp at hn
              | some q => simp only [Option.map_some, Option.some.injEq] at hn; have := r5 q rfl; omega
      · cases hb
  · rename_i o off n e ht
    split at hb
    · cases hb
    · rename_i hi'
      split at hb
      · rename_i cs hcs
        split at hb
        · rename_i hle
          split at hb
          · rename_i l h m hbd
            cases hb
            simp only [Rel] at hx
            obtain ⟨b, m0, e1, e2⟩ := hx
            subst e2
            obtain ⟨b', m1, T, pre, vs, post, h1, h2, h3, h4, h5, h6⟩ := hh.objs _ _ hcs
            rw [e1] at h1
            cases h1
            have hlen := h4.length
            have hroom : Room w b (m0 + off + n * szD P e) := ⟨_, T, _, h2, by simp; omega⟩
            obtain ⟨m', r1, r2, r3, r4, r5, r6⟩ := bounds3_sound (P := P) (w := w) (isS := false) hbd (Nat.le_refl n) (fun q hq => by cases hq; rfl) hlo hhi hmx
            have hmm := r5 m rfl
            subst hmm
            refine ⟨.slice (some (if m' = l then ⟨b, m0 + off, none⟩ else ⟨b, m0 + off + l * szD P e, none⟩)) (h - l) (m' - l), ?_, ?_⟩
            · simp only [Instr.sliceAt, Instr.sureAddr, Sem.run_bind, run_underlying ht w, r1, run_sizeOf' hi', Result.andThen_ok, Sem.run_pure]
              by_cases hml : m' = l <;> simp [hml, Addr.add_mid]
            · simp only [Rel]
              by_cases hml : m' = l
              · rw [if_pos hml]
                exact ⟨b, m0, m' - l, m0 + off, e1, rfl, fun q => absurd (by omega) q, by omega, fun n hn => by cases hn; rfl, room_part (h := h) hroom (by omega) r4⟩
              · rw [if_neg hml]
                exact ⟨b, m0, m' - l, m0 + off + l * szD P e, e1, rfl, fun q => by omega, by omega, fun n hn => by cases hn; rfl, room_part (h := h) hroom (by omega) r4⟩
          · cases hb
        · cases hb
      · cases hb
  · cases hb

/-- The place of an element of a slice. -/
theorem index_sl {t e : TypeId} {k : Nat} {o : Nm} {off len : Nat} {cap : Option Nat} {x ix : Value} {dix : D} {i : Nat} (ht : P.underlying t = some (.slice e)) (he : P.info? e ≠ none) (hk : k = szD P e)
    (hx : Rel g w (.sl k o off len cap) x) (hix : Rel g w dix ix) (hi : ixD dix len = some i) :
    ∃ v, (Instr.indexAt t x ix).run P w = .ok v w ∧ Rel g w (.ptr o (off + i * k)) v := by
  subst hk
  obtain ⟨kk, rfl, hlt⟩ := ixD_spec hi hix
  simp only [Rel] at hx
  obtain ⟨b, m0, c, p, e1, e2, e3, e4, e5, e6⟩ := hx
  have hp : p = m0 + off := e3 (by omega)
  subst hp
  subst e2
  refine ⟨.pointer (some ⟨b, m0 + off + i * szD P e, none⟩), ?_, ?_⟩
  · simp [Instr.indexAt, asIntOf, Sem.run_bind, run_underlying ht w, run_sizeOf' he, hlt, Addr.add_mid]
  · simp only [Rel]
    exact ⟨b, m0, e1, by rw [Nat.add_assoc]⟩

theorem relL_nums : ∀ {cs : List D} {ns : List Int} {vs : List Value}, bytesD cs = some ns → RelL g w cs vs → vs = ns.map (Value.int .u8) ∧ ns.length = cs.length
  | [], ns, vs, h, r => by
    simp only [bytesD] at h; cases h
    simp only [RelL] at r; subst r
    exact ⟨rfl, rfl⟩
  | d :: ds, ns, vs, h, r => by
    have hd : ∃ n ms, d = .v (.int .u8 n) ∧ bytesD ds = some ms ∧ ns = n :: ms := by
      unfold bytesD at h
      split at h
      · rename_i heq; cases heq
      · rename_i n es heq
        cases heq
        simp only [Option.map_eq_some_iff] at h
        obtain ⟨ms, h1, rfl⟩ := h
        exact ⟨n, ms, rfl, h1, rfl⟩
      · cases h
    obtain ⟨n, ms, rfl, h1, rfl⟩ := hd
    simp only [RelL] at r
    obtain ⟨x, xs, rfl, rx, r2⟩ := r
    obtain rfl := rel_v rx
    obtain ⟨e1, e2⟩ := relL_nums h1 r2
    exact ⟨by rw [e1]; rfl, by simp [e2]⟩

/-- A slice of bytes as a text. -/
theorem string_sl (hh : HeapR tb B hp free w g) {src dst e : TypeId} {x : D} {n : Nat} {cs : List D} {rd : List Nm} {X : Value} {ns : List Int} (hs : P.underlying src = some (.slice e)) (he : P.underlying e = some (.int .u8)) (hd : P.underlying dst = some .string)
    (hsrc : srcD hp 1 x = some (n, cs, rd)) (hb : bytesD cs = some ns) (hx : Rel g w x X) : (convert src dst X).run P w = .ok (.string (strOfNums ns)) w := by
  obtain ⟨vs, ⟨h1, h2⟩, h3⟩ := src_sound hh hsrc hx
  obtain ⟨rfl, hlen⟩ := relL_nums hb h3
  have hcl := h3.length
  simp only [List.length_map] at h1 hcl
  rcases h2 with ⟨rfl, rfl⟩ | ⟨b, p, c, rfl, hc⟩
  · have : ns = [] := by simpa using h1
    subst this
    exact run_convert_bytes_nil w src e hs he 0 0 dst hd
  · refine run_convert_bytes_arg w src e hs he b p n c ns (by omega) ?_ dst hd
    intro i hi
    have hi' : i < ns.length := by omega
    exact hc i _ (by simp [List.getD, hi'])

end
end Go.Ab
