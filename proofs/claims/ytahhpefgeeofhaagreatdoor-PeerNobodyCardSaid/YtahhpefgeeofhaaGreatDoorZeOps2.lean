/-
  Append, copy, clear, make, literals: what they do to things.
-/
import Derived.Test.YtahhpefgeeofhaaGreatDoorZeOps
set_option linter.unusedSimpArgs false
set_option linter.unusedVariables false
namespace Go.Ab
section
variable {P : Program} {tb : Nat → Option (List D)} {g g' : G} {B : Base} {w w' : World} {hp : Hp} {free : Nm → Prop} {a : Act}

structure Elem (P : Program) (t e : TypeId) (i : TypeInfo) (z : Value) (zs : List D) : Prop where
  ty : P.underlying t = some (.slice e)
  info : P.info? e = some i
  zero : i.zero = some z
  pos : 0 < i.size
  size : z.cells.size = i.size
  zs : zs = z.cells.toList.map .v
  plain : z.cells.toList.all noAgg = true
  one : z.cells.toList.all Value.oneCell' = true

theorem elemD_spec {t e : TypeId} {i : TypeInfo} {zs : List D} (h : elemD P t = some (e, i, zs)) : ∃ z, Elem P t e i z zs := by
  unfold elemD at h
  split at h
  · rename_i e' ht
    split at h
    · rename_i i' hi
      split at h
      · rename_i z hz
        split at h
        · rename_i hc
          cases h
          obtain ⟨h1, h2, h3, h4⟩ := hc
          exact ⟨z, ht, hi, hz, Nat.pos_of_ne_zero h1, h2, rfl, h3, h4⟩
        · cases h
      · cases h
    · cases h
  · cases h

theorem relL_rep {zs : List D} {vs : List Value} (h : RelL g w zs vs) : ∀ n, RelL g w (List.replicate n zs).flatten (List.replicate n vs).flatten
  | 0 => by simp [RelL]
  | n + 1 => by
    simp only [List.replicate_succ, List.flatten_cons]
    exact h.append (relL_rep h n)

theorem Elem.zeros {t e : TypeId} {i : TypeInfo} {z : Value} {zs : List D} (h : Elem P t e i z zs) (n : Nat) : RelL g w (List.replicate n zs).flatten (Builtin.zeroCells z.cells n).toList := by
  rw [zeroCells_list (by rw [h.size]; exact h.pos) n, h.zs]
  exact relL_rep (relL_map h.plain) n

theorem Elem.zeros_len {t e : TypeId} {i : TypeInfo} {z : Value} {zs : List D} (h : Elem P t e i z zs) (n : Nat) : (Builtin.zeroCells z.cells n).toList.length = n * i.size := by
  rw [Array.length_toList, size_zeroCells, h.size]

theorem Elem.zeros_one {t e : TypeId} {i : TypeInfo} {z : Value} {zs : List D} (h : Elem P t e i z zs) (n : Nat) : ∀ u ∈ (Builtin.zeroCells z.cells n).toList, u.oneCell' = true := by
  rw [zeroCells_list (by rw [h.size]; exact h.pos) n]
  intro u hu
  simp only [List.mem_flatten, List.mem_replicate] at hu
  obtain ⟨l, ⟨_, rfl⟩, hu⟩ := hu
  exact List.all_eq_true.1 h.one u hu

theorem roomD_spec {i : TypeInfo} {n : Nat} (h : roomD i n = true) : (n : Int) ≤ 9223372036854775807 ∧ n * i.bytes ≤ 140737488355328 := by
  simpa [roomD] using h

theorem laid_sound (h : HeapR tb B hp free w g) {t t2 e ty : TypeId} {i : TypeInfo} {z : Value} {zs : List D} (he : Elem P t e i z zs) {x : D} {X : Value} {n : Nat} {news : List D} {rd : List Nm} {zeros : Bool}
    (hl : laidD P hp i zs t2 x = some (n, news, rd, zeros)) (hr : Rel g w x X) :
    ∃ nv, RelL g w news nv ∧ nv.length = n * i.size ∧
      (∀ S base sLen sCap olds, S = .slice base sLen sCap → Src w i.size S sLen olds → sLen ≤ sCap → sCap < sLen + n → roomD i (sLen + n) = true →
        ∃ c rest, (Builtin.append_ #[t, t2] ty #[S, X]).run P w = .ok (.slice (some ⟨w.heap.size, 0, none⟩) (sLen + n) c) (w.drew.alloc (.cells ((olds ++ nv) ++ rest).toArray e)) ∧ sLen + n ≤ c ∧ ((olds ++ nv) ++ rest).length = c * i.size) ∧
      (zeros = false → News P w i.size e t2 X n nv) := by
  have grow : ∀ (nv : List Value) (sLen sCap : Nat) (olds : List Value), olds.length = sLen * i.size → nv.length = n * i.size →
      sLen + n ≤ grownCap w (sLen + n) sCap e ∧ ((olds ++ nv) ++ (Builtin.zeroCells z.cells (grownCap w (sLen + n) sCap e - (sLen + n))).toList).length = grownCap w (sLen + n) sCap e * i.size := by
    intro nv sLen sCap olds h1 h2
    have hg := grownCap_ge w (sLen + n) sCap e
    refine ⟨hg, ?_⟩
    rw [List.length_append, List.length_append, he.zeros_len, h1, h2, ← Nat.add_mul, ← Nat.add_mul]
    congr 1
    omega
  have news : ∀ {r : Nat × List D × List Nm}, newsD P hp i.size t2 x = some r → n = r.1 → news = r.2.1 → ∃ nv, RelL g w news nv ∧ nv.length = n * i.size ∧
      (∀ S base sLen sCap olds, S = .slice base sLen sCap → Src w i.size S sLen olds → sLen ≤ sCap → sCap < sLen + n → roomD i (sLen + n) = true →
        ∃ c rest, (Builtin.append_ #[t, t2] ty #[S, X]).run P w = .ok (.slice (some ⟨w.heap.size, 0, none⟩) (sLen + n) c) (w.drew.alloc (.cells ((olds ++ nv) ++ rest).toArray e)) ∧ sLen + n ≤ c ∧ ((olds ++ nv) ++ rest).length = c * i.size) ∧
      (zeros = false → News P w i.size e t2 X n nv) := by
    rintro ⟨n', cs, rd'⟩ hn e1 e2
    simp only at e1 e2
    subst e1; subst e2
    obtain ⟨nv, h1, h2⟩ := news_sound (P := P) (e := e) h hn hr
    refine ⟨nv, h2, h1.len, ?_, fun _ => h1⟩
    intro S base sLen sCap olds hS ho hle hlt hroom
    obtain ⟨r1, r2⟩ := roomD_spec hroom
    obtain ⟨q1, q2⟩ := grow nv sLen sCap olds ho.1 h1.len
    refine ⟨_, _, ?_, q1, q2⟩
    rw [run_append_new he.ty he.info he.zero h1 hS ho hlt r1 r2]
    congr 3
    simp
  unfold laidD at hl
  split at hl
  · rename_i kd ht2
    split at hl
    · rename_i kx q
      split at hl
      · rename_i hpos
        cases hl
        have := rel_v hr
        subst this
        have hq : IntKind.i64.wrap q = ((IntKind.i64.wrap q).toNat : Int) := by omega
        refine ⟨_, he.zeros _, he.zeros_len _, ?_, by simp⟩
        intro S base sLen sCap olds hS ho hle hlt hroom
        obtain ⟨r1, r2⟩ := roomD_spec hroom
        obtain ⟨q1, q2⟩ := grow _ sLen sCap olds ho.1 (he.zeros_len _)
        refine ⟨_, _, ?_, q1, q2⟩
        rw [run_append_zeros he.ty he.info he.zero he.size ht2 hq he.pos hS ho hle hlt r1 r2]
        congr 3
        simp
      · cases hl
    · cases hl
  · split at hl
    · rename_i n' cs rd' hn
      cases hl
      exact news hn rfl rfl
    · cases hl

/-- An append that makes a new row. -/
theorem append_new (h : HeapR tb B hp free w g) {nm : Nm} (hf : free nm) {t t2 e ty : TypeId} {i : TypeInfo} {z : Value} {zs : List D} (he : Elem P t e i z zs) {x : D} {X : Value} {n : Nat} {news : List D} {rd : List Nm} {zeros : Bool}
    (hl : laidD P hp i zs t2 x = some (n, news, rd, zeros)) (hr : Rel g w x X) {S : Value} {base : Option Addr} {sLen sCap : Nat} {olds : List D} {ov : List Value} (hS : S = .slice base sLen sCap) (ho : Src w i.size S sLen ov) (hov : RelL g w olds ov)
    (hle : sLen ≤ sCap) (hlt : sCap < sLen + n) (hroom : roomD i (sLen + n) = true) :
    Runs P tb B free true nm hp w g (Builtin.append_ #[t, t2] ty #[S, X]) (.sl i.size nm 0 (sLen + n) none) [(nm, some (.cells (olds ++ news)))] := by
  obtain ⟨nv, h1, h2, h3, _⟩ := laid_sound h he hl hr
  obtain ⟨c, rest, h4, h5, h6⟩ := h3 S base sLen sCap ov hS ho hle hlt hroom
  have hdr := new_drew (g := g) (w := w) h.tight
  have hsz : w.drew.heap.size = w.heap.size := rfl
  refine Runs.row (T := e) h hf hdr h4 (RelL.ext (hdr.ext h.tight) _ _ (hov.append h1)) ?_
  intro g' w' hv hroom
  simp only [Rel]
  refine ⟨w.heap.size, 0, c, 0, hv, rfl, fun _ => rfl, h5, by simp, ?_⟩
  rw [h6] at hroom
  simpa using hroom

/-- An append with room that leaves the elder name. -/
theorem append_in (h : HeapR tb B hp free w g) {t t2 e ty : TypeId} {i : TypeInfo} {z : Value} {zs : List D} (he : Elem P t e i z zs) {X : Value} {n : Nat} {news : List D} {nv : List Value} {mk : Bool} {nm : Nm}
    (hN : News P w i.size e t2 X n nv) (hv : RelL g w news nv) (hone : news.all D.isCell = true) {o : Nm} {off len c : Nat} {cs : List D} (hs : hp o = some (.cells cs)) {S : Value} (hS : Rel g w (.sl i.size o off len (some c)) S) (hpos : 0 < n) (hroom : len + n ≤ c) (hfit : off + (len + n) * i.size ≤ cs.length) :
    Runs P tb B free mk nm hp w g (Builtin.append_ #[t, t2] ty #[S, X]) (.sl i.size o off (len + n) (some c)) [(o, some (.cells (spliceD cs news (off + len * i.size))))] := by
  have hS' := hS
  simp only [Rel] at hS
  obtain ⟨b, m, c', p, e1, e2, e3, e4, e5, e6⟩ := hS
  have hc' : c' = c := e5 c rfl
  subst hc'
  have hp : p = m + off := e3 (by omega)
  subst hp
  subst e2
  have hnl : news.length = n * i.size := by rw [← hv.length, hN.len]
  rw [Nat.add_mul] at hfit
  refine Runs.write h hs hv (by omega) (v := .slice (some ⟨b, m + off, none⟩) (len + n) c') ?_ ?_
  · intro b2 m2 T full h1 h2 h3
    rw [e1] at h1
    cases h1
    have := run_append_in (ty := ty) he.ty he.info hN (b := b) (p := m + off) (sLen := len) (sCap := c') (cur := full.toArray) h2 (hv.oneCells hone) hroom (by simp only [List.size_toArray]; omega)
    rw [this]
    simp only [Nat.add_assoc]
  · intro w' hw
    simp only [Rel]
    exact ⟨b, m, c', m + off, e1, rfl, fun _ => rfl, hroom, fun n hn => by cases hn; rfl, hw.shp _ _ e6⟩

/-- An append whose room is not known: the elder name goes. -/
theorem append_any (h : HeapR tb B hp free w g) {nm : Nm} (hf : free nm) {t t2 e ty : TypeId} {i : TypeInfo} {z : Value} {zs : List D} (he : Elem P t e i z zs) {x : D} {X : Value} {n : Nat} {news : List D} {rd : List Nm}
    (hl : laidD P hp i zs t2 x = some (n, news, rd, false)) (hr : Rel g w x X) (hone : news.all D.isCell = true) {o : Nm} {off len : Nat} {cs : List D} (hs : hp o = some (.cells cs)) {S : Value} (hS : Rel g w (.sl i.size o off len none) S) (hpos : 0 < n)
    (hfit : off + len * i.size ≤ cs.length) (hroom : roomD i (len + n) = true) :
    Runs P tb B free true nm hp w g (Builtin.append_ #[t, t2] ty #[S, X]) (.sl i.size nm 0 (len + n) none) [(nm, some (.cells ((cs.drop off).take (len * i.size) ++ news))), (o, none)] := by
  have hsrc : srcD hp i.size (.sl i.size o off len none) = some (len, (cs.drop off).take (len * i.size), [o]) := by simp [srcD, hs, hfit]
  obtain ⟨ov, ho1, ho2⟩ := src_sound h hsrc hS
  have hS' := hS
  simp only [Rel] at hS
  obtain ⟨b, m, c, p, e1, e2, e3, e4, e5, e6⟩ := hS
  have hnone : g.val nm = none := h.free nm hf
  have hno : nm ≠ o := fun e => by subst e; rw [hnone] at e1; cases e1
  by_cases hc : len + n ≤ c
  · have hp : p = m + off := e3 (by omega)
    subst hp
    subst e2
    obtain ⟨nv, hv1, hv2, _, hv4⟩ := laid_sound (ty := ty) h he hl hr
    have hN := hv4 rfl
    obtain ⟨b', m', T, pre, vs, post, h1, h2, h3, h4, h5, h6⟩ := h.objs o _ hs
    rw [e1] at h1
    cases h1
    subst h3
    have hlen := h4.length
    have hroom6 : pre.length + off + (len + n) * i.size ≤ (pre ++ vs ++ post).length := by
      obtain ⟨cs2, T2, fr2, q1, q2⟩ := e6
      rw [h2] at q1
      cases q1
      have : (len + n) * i.size ≤ c * i.size := Nat.mul_le_mul_right _ hc
      simp only [List.size_toArray] at q2
      omega
    have hnl : nv.length = n * i.size := hv2
    rw [Nat.add_mul] at hroom6
    have hrun := run_append_in (ty := ty) he.ty he.info hN (b := b) (p := pre.length + off) (sLen := len) (sCap := c) (cur := (pre ++ vs ++ post).toArray) h2 (hv1.oneCells hone) hc (by simp only [List.size_toArray]; omega)
    have hsplit : (pre ++ vs ++ post).take (pre.length + off + len * i.size) = (pre ++ vs.take off) ++ ((vs.drop off).take (len * i.size)) := by
      rw [List.append_assoc pre vs post, Nat.add_assoc, List.take_length_add_append, List.take_append_of_le_length (by omega), List.append_assoc, ← List.take_add]
    simp only [hsplit] at hrun
    have hsz : (pre ++ vs ++ post).toArray.size = ((pre ++ vs.take off) ++ ((vs.drop off).take (len * i.size)) ++ nv ++ (pre ++ vs ++ post).drop (pre.length + off + len * i.size + nv.length)).toArray.size := by
      simp at hroom6 ⊢; omega
    have ht := turned_setRow h2 hsz
    have hb : blk g o = some b := by simp [blk, e1, blkV]
    have hfull := setRow_heap w b _ ((pre ++ vs.take off) ++ ((vs.drop off).take (len * i.size)) ++ nv ++ (pre ++ vs ++ post).drop (pre.length + off + len * i.size + nv.length)).toArray T (0, 0) h2
    have hext : Ext g w (g.name nm (.pointer (some ⟨b, pre.length + off, none⟩))) (w.setRow b ((pre ++ vs.take off) ++ ((vs.drop off).take (len * i.size)) ++ nv ++ (pre ++ vs ++ post).drop (pre.length + off + len * i.size + nv.length)).toArray) :=
      (Ext.name hnone).trans (ht.ext (g := g.name nm _) h5)
    have hob : ORel B.kp (g.name nm (.pointer (some ⟨b, pre.length + off, none⟩))) (w.setRow b ((pre ++ vs.take off) ++ ((vs.drop off).take (len * i.size)) ++ nv ++ (pre ++ vs ++ post).drop (pre.length + off + len * i.size + nv.length)).toArray) nm
        (.cells ((cs.drop off).take (len * i.size) ++ news)) := by
      refine ⟨b, pre.length + off, T, pre ++ vs.take off, ((vs.drop off).take (len * i.size)) ++ nv, (pre ++ vs ++ post).drop (pre.length + off + len * i.size + nv.length), G.name_val_eq, ?_, by simp; omega, ?_, h5, h6⟩
      · rw [hfull]; simp [List.append_assoc]
      · exact RelL.ext hext _ _ ((h4.seg off _).append hv1)
    have hm := h.move (n := nm) (o := o) hnone (by rw [hs]; simp) hb ht (x := .pointer (some ⟨b, pre.length + off, none⟩)) rfl hob (free' := fun m => free m ∧ m ≠ nm) (fun m hm => hm)
      (hp' := hp.app (Up.pt [(nm, some (.cells ((cs.drop off).take (len * i.size) ++ news))), (o, none)])) (fun m => app_two hno m)
    refine ⟨_, _, _, hrun, hm.1.weaken fun n hn => ⟨hn.1, hn.2 rfl⟩, hm.2, ?_⟩
    simp only [Rel]
    refine ⟨b, pre.length + off, c, pre.length + off, G.name_val_eq, rfl, fun _ => rfl, hc, by simp, ?_⟩
    have := hm.2.shp _ _ e6
    simpa [Nat.add_assoc] using this
  · obtain ⟨v, w', g', r1, r2, r3, r4⟩ := append_new h hf he hl hr e2 ho1 ho2 e4 (by omega) hroom (ty := ty)
    refine ⟨v, w', g', r1, r2.drop fun m => ?_, r3, r4⟩
    rw [app_two hno, app_one]
    by_cases q1 : m = nm
    · simp [q1]
    · by_cases q2 : m = o
      · subst q2; simp [q1]
      · simp [q1, q2]

theorem laid_zero {i : TypeInfo} {zs : List D} {t2 : TypeId} {x : D} {news : List D} {rd : List Nm} {zeros : Bool} (hl : laidD P hp i zs t2 x = some (0, news, rd, zeros)) : zeros = false := by
  unfold laidD at hl
  split at hl
  · split at hl
    · split at hl
      · rename_i hpos
        simp only [Option.some.injEq, Prod.mk.injEq] at hl
        omega
      · cases hl
    · cases hl
  · split at hl
    · cases hl; rfl
    · cases hl

theorem append_sound (h : HeapR tb B hp free w g) {nm : Nm} (hf : free nm) {t t2 ty : TypeId} {s x d : D} {us : Up} {rd : List Nm} (ha : appendD P hp nm t t2 s x = some (d, us, rd)) {S X : Value} (hS : Rel g w s S) (hX : Rel g w x X) :
    Runs P tb B free true nm hp w g (Builtin.append_ #[t, t2] ty #[S, X]) d us := by
  unfold appendD at ha
  split at ha
  · cases ha
  · rename_i e i zs hel
    obtain ⟨z, he⟩ := elemD_spec hel
    split at ha
    · cases ha
    · rename_i n news rd0 zeros hl
      split at ha
      · have hS' := rel_v hS
        subst hS'
        split at ha
        · rename_i h0
          cases ha
          subst h0
          obtain ⟨nv, h1, h2, _, h4⟩ := laid_sound (ty := ty) h he hl hX
          exact Runs.same h (run_append_nothing he.ty he.info (h4 (laid_zero hl)) (Nat.le_refl 0)) hS
        · rename_i h0
          split at ha
          · rename_i hroom
            cases ha
            have := append_new h hf he hl hX (S := .slice none 0 0) (olds := []) (ov := []) rfl ⟨by simp, .inl ⟨rfl, rfl⟩⟩ (by simp [RelL]) (Nat.le_refl 0) (by omega) (by simpa using hroom) (ty := ty)
            simpa using this
          · cases ha
      · rename_i k o off len cap
        split at ha
        · rename_i h0
          cases ha
          subst h0
          obtain ⟨nv, h1, h2, _, h4⟩ := laid_sound (ty := ty) h he hl hX
          have hS' := hS
          simp only [Rel] at hS'
          obtain ⟨b, m, c', p, e1, e2, e3, e4, e5, e6⟩ := hS'
          subst e2
          exact Runs.same h (run_append_nothing he.ty he.info (h4 (laid_zero hl)) e4) hS
        · rename_i h0
          split at ha
          · rename_i hk
            subst hk
            split at ha
            · rename_i cs hs
              split at ha
              · rename_i hfit
                split at ha
                · rename_i c
                  split at ha
                  · rename_i hle
                    split at ha
                    · rename_i hc
                      obtain ⟨c1, c2, c3⟩ := hc
                      subst c1
                      cases ha
                      obtain ⟨nv, h1, h2, _, h4⟩ := laid_sound (ty := ty) h he hl hX
                      exact append_in h he (h4 rfl) h1 c3 hs hS (by omega) hle c2
                    · cases ha
                  · rename_i hle
                    split at ha
                    · rename_i hroom
                      cases ha
                      have hsrc : srcD hp i.size (.sl i.size o off len (some c)) = some (len, (cs.drop off).take (len * i.size), [o]) := by simp [srcD, hs, hfit]
                      obtain ⟨ov, ho1, ho2⟩ := src_sound h hsrc hS
                      simp only [Rel] at hS
                      obtain ⟨b, m, c', p, e1, e2, e3, e4, e5, e6⟩ := hS
                      have : c' = c := e5 c rfl
                      subst this
                      exact append_new h hf he hl hX e2 ho1 ho2 e4 (by omega) hroom
                    · cases ha
                · split at ha
                  · rename_i hc
                    obtain ⟨c1, c2, c3⟩ := hc
                    subst c1
                    cases ha
                    exact append_any h hf he hl hX c2 hs hS (by omega) hfit c3
                  · cases ha
              · cases ha
            · cases ha
          · cases ha
      · cases ha

end
end Go.Ab
