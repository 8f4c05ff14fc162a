/-
  Lists of things beside lists of cells; parts of them; types.
-/
import Derived.Test.YtahhpefgeeofhaaGreatDoorZdRel
import Derived.Deep.MidRow
namespace Go.Ab

theorem RelL.length {g : G} {w : World} : ∀ {ds : List D} {vs : List Value}, RelL g w ds vs → vs.length = ds.length
  | [], vs, h => by simp only [RelL] at h; simp [h]
  | d :: ds, vs, h => by
    simp only [RelL] at h
    obtain ⟨x, xs, rfl, _, h3⟩ := h
    simp [h3.length]

theorem RelL.get {g : G} {w : World} : ∀ {ds : List D} {vs : List Value}, RelL g w ds vs → ∀ {i : Nat} {d : D}, ds[i]? = some d → ∃ x, vs[i]? = some x ∧ Rel g w d x
  | [], vs, h, i, d, hd => by simp at hd
  | e :: ds, vs, h, i, d, hd => by
    simp only [RelL] at h
    obtain ⟨x, xs, rfl, h2, h3⟩ := h
    cases i with
    | zero => simp at hd; subst hd; exact ⟨x, by simp, h2⟩
    | succ i => simp at hd; obtain ⟨y, hy, hr⟩ := h3.get hd; exact ⟨y, by simpa using hy, hr⟩

theorem RelL.of {g : G} {w : World} : ∀ {ds : List D} {vs : List Value}, vs.length = ds.length → (∀ (i : Nat) (d : D) (x : Value), ds[i]? = some d → vs[i]? = some x → Rel g w d x) → RelL g w ds vs
  | [], vs, hl, _ => by simp only [RelL]; simpa using hl
  | d :: ds, [], hl, _ => by simp at hl
  | d :: ds, x :: xs, hl, h => by
    simp only [RelL]
    exact ⟨x, xs, rfl, h 0 d x rfl rfl, RelL.of (by simpa using hl) (fun i d x h1 h2 => h (i + 1) d x (by simpa using h1) (by simpa using h2))⟩

theorem RelL.append {g : G} {w : World} : ∀ {ds es : List D} {vs us : List Value}, RelL g w ds vs → RelL g w es us → RelL g w (ds ++ es) (vs ++ us)
  | [], es, vs, us, h, k => by simp only [RelL] at h; subst h; simpa using k
  | d :: ds, es, vs, us, h, k => by
    simp only [RelL] at h
    obtain ⟨x, xs, rfl, h2, h3⟩ := h
    simp only [List.cons_append, RelL]
    exact ⟨x, xs ++ us, rfl, h2, h3.append k⟩

theorem RelL.drop {g : G} {w : World} : ∀ (n : Nat) {ds : List D} {vs : List Value}, RelL g w ds vs → RelL g w (ds.drop n) (vs.drop n)
  | 0, ds, vs, h => by simpa using h
  | n + 1, [], vs, h => by simp only [RelL] at h; subst h; simp [RelL]
  | n + 1, d :: ds, vs, h => by
    simp only [RelL] at h
    obtain ⟨x, xs, rfl, h2, h3⟩ := h
    simpa using h3.drop n

theorem RelL.take {g : G} {w : World} : ∀ (n : Nat) {ds : List D} {vs : List Value}, RelL g w ds vs → RelL g w (ds.take n) (vs.take n)
  | 0, ds, vs, h => by simp [RelL]
  | n + 1, [], vs, h => by simp only [RelL] at h; subst h; simp [RelL]
  | n + 1, d :: ds, vs, h => by
    simp only [RelL] at h
    obtain ⟨x, xs, rfl, h2, h3⟩ := h
    simp only [List.take_succ_cons, RelL]
    exact ⟨x, _, rfl, h2, h3.take n⟩

theorem RelL.set {g : G} {w : World} {d : D} {x : Value} (hd : Rel g w d x) : ∀ (n : Nat) {ds : List D} {vs : List Value}, RelL g w ds vs → RelL g w (ds.set n d) (vs.set n x)
  | n, [], vs, h => by simp only [RelL] at h; subst h; simp [RelL]
  | 0, e :: ds, vs, h => by
    simp only [RelL] at h
    obtain ⟨y, xs, rfl, h2, h3⟩ := h
    simp only [List.set_cons_zero, RelL]
    exact ⟨x, xs, rfl, hd, h3⟩
  | n + 1, e :: ds, vs, h => by
    simp only [RelL] at h
    obtain ⟨y, xs, rfl, h2, h3⟩ := h
    simp only [List.set_cons_succ, RelL]
    exact ⟨y, _, rfl, h2, h3.set hd n⟩

theorem Rel.noAgg {g : G} {w : World} {d : D} {x : Value} (h : Rel g w d x) (hd : d.isAgg = false) : noAgg x = true := by
  cases d with
  | list k es =>
    simp only [Rel] at h
    rcases h.2 with ⟨_, rfl⟩ | ⟨_, _, _, _, rfl, _⟩ <;> rfl
  | full k es =>
    simp only [Rel] at h
    obtain ⟨_, _, _, _, rfl, _⟩ := h
    rfl
  | _ => simp only [Rel] at h; first
    | (simp [D.isAgg] at hd; done)
    | (obtain ⟨rfl, h⟩ := h; exact h)
    | exact noAgg_of_oneCell h.2
    | (obtain ⟨rfl, h⟩ := h; exact noAgg_of_oneCell h)
    | (obtain ⟨_, rfl, _⟩ := h; rfl)
    | (obtain ⟨_, _, _, rfl, _⟩ := h; rfl)
    | (obtain ⟨_, _, _, rfl⟩ := h; rfl)
    | (obtain ⟨_, _, _, _, _, rfl, _⟩ := h; rfl)
    | (obtain ⟨_, _, rfl, _⟩ := h; rfl)

theorem D.cells_of_not {d : D} (hd : d.isAgg = false) : d.cells = [d] := by cases d <;> first | rfl | simp [D.isAgg] at hd

theorem Rel.cells {g : G} {w : World} {d : D} {x : Value} (h : Rel g w d x) : RelL g w d.cells x.cells.toList := by
  by_cases hd : d.isAgg = true
  · cases d with
    | agg cs =>
      simp only [Rel] at h
      obtain ⟨vs, rfl, h2⟩ := h
      simpa [D.cells, Value.cells] using h2
    | _ => simp [D.isAgg] at hd
  · have hd' : d.isAgg = false := by simpa using hd
    rw [D.cells_of_not hd', cells_of_noAgg (h.noAgg hd')]
    simpa [RelL] using h

/-- The cells of elements, one behind the other. -/
theorem RelE.cells {g : G} {w : World} : ∀ {es : List D} {vs : List Value}, RelE g w es vs → RelL g w (es.flatMap D.cells) vs
  | [], vs, h => by simpa only [RelE, RelL, List.flatMap_nil] using h
  | d :: ds, vs, h => by
    simp only [RelE] at h
    obtain ⟨x, xs, rfl, h2, h3⟩ := h
    simpa using h2.cells.append h3.cells

theorem RelE.append {g : G} {w : World} : ∀ {ds es : List D} {vs us : List Value}, RelE g w ds vs → RelE g w es us → RelE g w (ds ++ es) (vs ++ us)
  | [], es, vs, us, h, k => by simp only [RelE] at h; subst h; simpa using k
  | d :: ds, es, vs, us, h, k => by
    simp only [RelE] at h
    obtain ⟨x, xs, rfl, h2, h3⟩ := h
    simp only [List.cons_append, RelE]
    exact ⟨x, xs ++ us, by simp, h2, h3.append k⟩

theorem RelE.one {g : G} {w : World} {d : D} {x : Value} (h : Rel g w d x) : RelE g w [d] x.cells.toList := by
  simp only [RelE]
  exact ⟨x, [], by simp, h, rfl⟩

theorem Rel.wide {g : G} {w : World} {d : D} {x : Value} (h : Rel g w d x) : x.cells.toList.length = d.cells.length := h.cells.length

theorem RelE.length {g : G} {w : World} {k : Nat} : ∀ {es : List D} {vs : List Value}, RelE g w es vs → Wide k es → vs.length = es.length * k
  | [], vs, h, _ => by simp only [RelE] at h; simp [h]
  | d :: ds, vs, h, hw => by
    simp only [RelE] at h
    obtain ⟨x, xs, rfl, h2, h3⟩ := h
    have h4 := h3.length (k := k) (fun e he => hw e (by simp [he]))
    have h5 := h2.wide
    rw [hw d (by simp)] at h5
    rw [List.length_append, h4, h5, List.length_cons, Nat.succ_mul]
    omega

theorem Wide.take {k : Nat} {es : List D} (h : Wide k es) (n : Nat) : Wide k (es.take n) := fun d hd => h d (List.mem_of_mem_take hd)
theorem Wide.drop {k : Nat} {es : List D} (h : Wide k es) (n : Nat) : Wide k (es.drop n) := fun d hd => h d (List.mem_of_mem_drop hd)
theorem Wide.append {k : Nat} {es ds : List D} (h : Wide k es) (h' : Wide k ds) : Wide k (es ++ ds) := fun d hd => (List.mem_append.1 hd).elim (h d) (h' d)
theorem Wide.get {k : Nat} {es : List D} (h : Wide k es) {i : Nat} {d : D} (hi : es[i]? = some d) : d.cells.length = k := h d (List.mem_of_getElem? hi)

/-- The cells of the elements from the n-th one on. -/
theorem RelE.drop {g : G} {w : World} {k : Nat} : ∀ (n : Nat) {es : List D} {vs : List Value}, RelE g w es vs → Wide k es → RelE g w (es.drop n) (vs.drop (n * k))
  | 0, es, vs, h, _ => by simpa using h
  | n + 1, [], vs, h, _ => by simp only [RelE] at h; subst h; simp [RelE]
  | n + 1, d :: ds, vs, h, hw => by
    simp only [RelE] at h
    obtain ⟨x, xs, rfl, h2, h3⟩ := h
    have h5 := h2.wide
    rw [hw d (by simp)] at h5
    have h6 := RelE.drop n h3 (fun e he => hw e (by simp [he]))
    have : List.drop ((n + 1) * k) (x.cells.toList ++ xs) = xs.drop (n * k) := by
      rw [Nat.succ_mul, Nat.add_comm, ← h5, List.drop_length_add_append]
    rw [this]
    simpa using h6

theorem RelE.take {g : G} {w : World} {k : Nat} : ∀ (n : Nat) {es : List D} {vs : List Value}, RelE g w es vs → Wide k es → RelE g w (es.take n) (vs.take (n * k))
  | 0, es, vs, h, _ => by simp [RelE]
  | n + 1, [], vs, h, _ => by simp only [RelE] at h; subst h; simp [RelE]
  | n + 1, d :: ds, vs, h, hw => by
    simp only [RelE] at h
    obtain ⟨x, xs, rfl, h2, h3⟩ := h
    have h5 := h2.wide
    rw [hw d (by simp)] at h5
    have h6 := RelE.take n h3 (fun e he => hw e (by simp [he]))
    have : List.take ((n + 1) * k) (x.cells.toList ++ xs) = x.cells.toList ++ xs.take (n * k) := by
      rw [Nat.succ_mul, Nat.add_comm, ← h5, List.take_length_add_append]
    rw [this]
    simp only [List.take_succ_cons, RelE]
    exact ⟨x, _, rfl, h2, h6⟩

/-- One element's cells. -/
theorem RelE.at_ {g : G} {w : World} {k : Nat} {es : List D} {vs : List Value} (h : RelE g w es vs) (hw : Wide k es) {i : Nat} {d : D} (hi : es[i]? = some d) :
    RelL g w d.cells ((vs.drop (i * k)).take k) ∧ i * k + k ≤ vs.length := by
  have h1 := h.drop i hw
  have hlt := (List.getElem?_eq_some_iff.1 hi).1
  have he : es.drop i = d :: es.drop (i + 1) := by
    rw [List.drop_eq_getElem_cons hlt, (List.getElem?_eq_some_iff.1 hi).2]
  rw [he] at h1
  simp only [RelE] at h1
  obtain ⟨x, xs, h2, h3, h4⟩ := h1
  have h5 := h3.wide
  rw [hw.get hi] at h5
  refine ⟨?_, ?_⟩
  · rw [h2, List.take_append_of_le_length (by omega), ← h5, List.take_length]
    exact h3.cells
  · rw [h.length hw]
    have := Nat.mul_le_mul_right k (show i + 1 ≤ es.length from hlt)
    rwa [Nat.succ_mul] at this

theorem CellsAt.drop {g : G} {w : World} {b o : Nat} {vs : List Value} (h : CellsAt g w b o vs) (n : Nat) (hn : n ≤ vs.length) : CellsAt g w b (o + n) (vs.drop n) := by
  refine ⟨by have := h.1; simp; omega, fun i x hx => ?_⟩
  have := h.2 (n + i) x (by simpa using hx)
  rwa [← Nat.add_assoc] at this

theorem CellsAt.take {g : G} {w : World} {b o : Nat} {vs : List Value} (h : CellsAt g w b o vs) (n : Nat) : CellsAt g w b o (vs.take n) := by
  refine ⟨by have := h.1; simp; omega, fun i x hx => h.2 i x ?_⟩
  rw [List.getElem?_take] at hx
  split at hx
  · exact hx
  · cases hx

end Go.Ab
