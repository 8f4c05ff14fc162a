/-
  What Go's values stand for: plain data (D) beside the memory. A relation that stays when memory grows.
-/
import Derived.Below
import Derived.Orders
namespace Go.Ab

/-- A name of a thing that may change. -/
abbrev Nm := Nat

inductive D where
  /-- a value that leads to no memory -/
  | v (x : Value)
  | agg (cs : List D)
  | tup (cs : List D)
  /-- a slice whose elements (k cells each) never change -/
  | list (k : Nat) (es : List D)
  /-- such a one whose room ends where it ends -/
  | full (k : Nat) (es : List D)
  /-- the place of a cell of something that never changes -/
  | elem (cs : List D) (off : Nat)
  /-- the place of a cell of a thing that may change -/
  | ptr (o : Nm) (off : Nat)
  /-- a slice (elements of k cells) whose cells begin off cells behind those of a thing that may change; cap: how much room it has, where that is known -/
  | sl (k : Nat) (o : Nm) (off len : Nat) (cap : Option Nat)
  /-- the thing itself: a map, a slice that grows -/
  | own (o : Nm)
  | func (fn : Fn) (first cap : List D)
  /-- the function that a loop over a function hands on -/
  | yld (o : Nm)
  /-- a value that nobody looks into -/
  | opq (x : Value)
  deriving Inhabited

def D.undef : D := .v Go.undef

/-- The cells of a thing. -/
def D.cells : D → List D
  | .agg cs => cs
  | d => [d]

def D.isAgg : D → Bool
  | .agg _ => true
  | _ => false

def noAgg : Value → Bool
  | .agg _ => false
  | _ => true

theorem noAgg_of_oneCell {x : Value} (h : x.oneCell' = true) : noAgg x = true := by cases x <;> first | rfl | simp [Value.oneCell'] at h

theorem cells_of_noAgg {x : Value} (h : noAgg x = true) : x.cells = #[x] := by cases x <;> first | rfl | simp [noAgg] at h

/-- Elements that have k cells each. -/
def Wide (k : Nat) (es : List D) : Prop := ∀ d ∈ es, d.cells.length = k

/-- What the ghost knows: how much of each block never changes; which value a name has. -/
structure G where
  lim : Nat → Nat
  val : Nm → Option Value

/-- The same without names. -/
def G.pl (g : G) : G := { g with val := fun _ => none }

/-- A row of cells lies at a place, and never changes. -/
def CellsAt (g : G) (w : World) (b o : Nat) (vs : List Value) : Prop :=
  o + vs.length ≤ g.lim b ∧ ∀ i x, vs[i]? = some x → w.cell? ⟨b, o + i, none⟩ = some x

/-- A block of at least n cells. -/
def Room (w : World) (b n : Nat) : Prop := ∃ cs T fr, w.heap[b]? = some (.cells cs T fr) ∧ n ≤ cs.size

mutual
def Rel (g : G) (w : World) : D → Value → Prop
  | .v x, u => u = x ∧ noAgg x = true
  | .agg cs, u => ∃ vs : List Value, u = .agg vs.toArray ∧ RelL g w cs vs
  | .tup cs, u => ∃ vs : List Value, u = .tuple vs.toArray ∧ RelL g w cs vs
  | .list k es, u => Wide k es ∧ ((es = [] ∧ u = .slice none 0 0) ∨
      ∃ (b o c : Nat) (vs : List Value), u = .slice (some ⟨b, o, none⟩) es.length c ∧ es.length ≤ c ∧ CellsAt g w b o vs ∧ RelE g.pl w es vs)
  | .full k es, u => Wide k es ∧ ∃ (b o : Nat) (vs : List Value), u = .slice (some ⟨b, o, none⟩) es.length es.length ∧ CellsAt g w b o vs ∧ RelE g.pl w es vs
  | .elem cs off, u => ∃ (b o : Nat) (vs : List Value), u = .pointer (some ⟨b, o + off, none⟩) ∧ CellsAt g w b o vs ∧ RelL g.pl w cs vs
  | .ptr o off, u => ∃ (b k : Nat), g.val o = some (.pointer (some ⟨b, k, none⟩)) ∧ u = .pointer (some ⟨b, k + off, none⟩)
  | .sl k o off len cap, u => ∃ (b m c p : Nat), g.val o = some (.pointer (some ⟨b, m, none⟩)) ∧ u = .slice (some ⟨b, p, none⟩) len c ∧ (c ≠ 0 → p = m + off) ∧ len ≤ c ∧ (∀ n, cap = some n → c = n) ∧ Room w b (m + off + c * k)
  | .own o, u => g.val o = some u ∧ u.oneCell' = true
  | .func fn first cap, u => ∃ xs ys : List Value, u = .func fn xs.toArray ys.toArray ∧ RelL g w first xs ∧ RelL g w cap ys
  | .yld o, u => ∃ l : Nat, u = .func (.yield l) #[] #[] ∧ g.val o = some (.pointer (some ⟨l, 0, none⟩))
  | .opq x, u => u = x ∧ x.oneCell' = true
def RelL (g : G) (w : World) : List D → List Value → Prop
  | [], vs => vs = []
  | d :: ds, vs => ∃ x xs, vs = x :: xs ∧ Rel g w d x ∧ RelL g w ds xs
def RelE (g : G) (w : World) : List D → List Value → Prop
  | [], vs => vs = []
  | d :: ds, vs => ∃ x xs, vs = x.cells.toList ++ xs ∧ Rel g w d x ∧ RelE g w ds xs
end

/-- What stays: what never changes is as it was; names keep their values. -/
structure Ext (g : G) (w : World) (g' : G) (w' : World) : Prop where
  lim : ∀ b, g.lim b ≤ g'.lim b
  cell : ∀ b o, o < g.lim b → w'.cell? ⟨b, o, none⟩ = w.cell? ⟨b, o, none⟩
  val : ∀ n x, g.val n = some x → g'.val n = some x
  shp : ∀ b n, Room w b n → Room w' b n

theorem Ext.refl (g : G) (w : World) : Ext g w g w := ⟨fun _ => Nat.le_refl _, fun _ _ _ => rfl, fun _ _ h => h, fun _ _ h => h⟩
theorem Ext.pl {g g' : G} {w w' : World} (h : Ext g w g' w') : Ext g.pl w g'.pl w' := ⟨h.lim, h.cell, (fun _ _ h => by cases h), h.shp⟩
theorem Ext.up (g : G) (w : World) : Ext g.pl w g w := ⟨fun _ => Nat.le_refl _, fun _ _ _ => rfl, (fun _ _ h => by cases h), fun _ _ h => h⟩
theorem Ext.trans {g1 g2 g3 : G} {w1 w2 w3 : World} (h : Ext g1 w1 g2 w2) (k : Ext g2 w2 g3 w3) : Ext g1 w1 g3 w3 :=
  ⟨fun b => Nat.le_trans (h.lim b) (k.lim b), fun b o hb => (k.cell b o (Nat.lt_of_lt_of_le hb (h.lim b))).trans (h.cell b o hb), fun n x hx => k.val n x (h.val n x hx), fun b n hr => k.shp b n (h.shp b n hr)⟩

theorem CellsAt.ext {g g' : G} {w w' : World} {b o : Nat} {vs : List Value} (h : CellsAt g w b o vs) (e : Ext g w g' w') : CellsAt g' w' b o vs := by
  refine ⟨Nat.le_trans h.1 (e.lim b), fun i x hx => ?_⟩
  have hi : i < vs.length := (List.getElem?_eq_some_iff.1 hx).1
  rw [e.cell b (o + i) (by have := h.1; omega)]
  exact h.2 i x hx

mutual
theorem Rel.ext {g g' : G} {w w' : World} (e : Ext g w g' w') : ∀ (d : D) (u : Value), Rel g w d u → Rel g' w' d u
  | .v x, u, h => by simpa only [Rel] using h
  | .agg cs, u, h => by
    simp only [Rel] at h ⊢
    obtain ⟨vs, h1, h2⟩ := h
    exact ⟨vs, h1, RelL.ext e cs vs h2⟩
  | .tup cs, u, h => by
    simp only [Rel] at h ⊢
    obtain ⟨vs, h1, h2⟩ := h
    exact ⟨vs, h1, RelL.ext e cs vs h2⟩
  | .list k es, u, h => by
    simp only [Rel] at h ⊢
    refine ⟨h.1, ?_⟩
    rcases h.2 with h | ⟨b, o, c, vs, h1, h2, h3, h4⟩
    · exact .inl h
    · exact .inr ⟨b, o, c, vs, h1, h2, h3.ext e, RelE.ext e.pl es vs h4⟩
  | .full k es, u, h => by
    simp only [Rel] at h ⊢
    obtain ⟨hw, b, o, vs, h1, h3, h4⟩ := h
    exact ⟨hw, b, o, vs, h1, h3.ext e, RelE.ext e.pl es vs h4⟩
  | .elem cs off, u, h => by
    simp only [Rel] at h ⊢
    obtain ⟨b, o, vs, h1, h2, h3⟩ := h
    exact ⟨b, o, vs, h1, h2.ext e, RelL.ext e.pl cs vs h3⟩
  | .ptr o off, u, h => by
    simp only [Rel] at h ⊢
    obtain ⟨b, k, h1, h2⟩ := h
    exact ⟨b, k, e.val _ _ h1, h2⟩
  | .sl k o off len cap, u, h => by
    simp only [Rel] at h ⊢
    obtain ⟨b, m, c, p, h1, h2, h3, h4, h5, h6⟩ := h
    exact ⟨b, m, c, p, e.val _ _ h1, h2, h3, h4, h5, e.shp _ _ h6⟩
  | .own o, u, h => by
    simp only [Rel] at h ⊢
    exact ⟨e.val _ _ h.1, h.2⟩
  | .func fn first cap, u, h => by
    simp only [Rel] at h ⊢
    obtain ⟨xs, ys, h1, h2, h3⟩ := h
    exact ⟨xs, ys, h1, RelL.ext e first xs h2, RelL.ext e cap ys h3⟩
  | .yld o, u, h => by
    simp only [Rel] at h ⊢
    obtain ⟨l, h1, h2⟩ := h
    exact ⟨l, h1, e.val _ _ h2⟩
  | .opq x, u, h => by simpa only [Rel] using h
theorem RelL.ext {g g' : G} {w w' : World} (e : Ext g w g' w') : ∀ (ds : List D) (vs : List Value), RelL g w ds vs → RelL g' w' ds vs
  | [], vs, h => by simpa only [RelL] using h
  | d :: ds, vs, h => by
    simp only [RelL] at h ⊢
    obtain ⟨x, xs, h1, h2, h3⟩ := h
    exact ⟨x, xs, h1, Rel.ext e d x h2, RelL.ext e ds xs h3⟩
theorem RelE.ext {g g' : G} {w w' : World} (e : Ext g w g' w') : ∀ (ds : List D) (vs : List Value), RelE g w ds vs → RelE g' w' ds vs
  | [], vs, h => by simpa only [RelE] using h
  | d :: ds, vs, h => by
    simp only [RelE] at h ⊢
    obtain ⟨x, xs, h1, h2, h3⟩ := h
    exact ⟨x, xs, h1, Rel.ext e d x h2, RelE.ext e ds xs h3⟩
end

theorem Rel.up {g : G} {w : World} {d : D} {u : Value} (h : Rel g.pl w d u) : Rel g w d u := Rel.ext (Ext.up g w) _ _ h
theorem RelL.up {g : G} {w : World} {ds : List D} {vs : List Value} (h : RelL g.pl w ds vs) : RelL g w ds vs := RelL.ext (Ext.up g w) _ _ h

/-- Does it bear no name? -/
def D.nf : D → Bool
  | .v _ => true
  | .agg cs => nfL cs
  | .tup cs => nfL cs
  | .list _ _ => true
  | .full _ _ => true
  | .elem _ _ => true
  | .ptr _ _ => false
  | .sl _ _ _ _ _ => false
  | .own _ => false
  | .func _ a b => nfL a && nfL b
  | .yld _ => false
  | .opq _ => true
  where nfL : List D → Bool
  | [] => true
  | d :: ds => d.nf && nfL ds

mutual
theorem Rel.plain {g : G} {w : World} : ∀ (d : D) (u : Value), d.nf = true → Rel g w d u → Rel g.pl w d u
  | .v x, u, _, h => by simpa only [Rel] using h
  | .agg cs, u, hn, h => by
    simp only [Rel] at h ⊢
    obtain ⟨vs, h1, h2⟩ := h
    exact ⟨vs, h1, RelL.plain cs vs (by simpa [D.nf] using hn) h2⟩
  | .tup cs, u, hn, h => by
    simp only [Rel] at h ⊢
    obtain ⟨vs, h1, h2⟩ := h
    exact ⟨vs, h1, RelL.plain cs vs (by simpa [D.nf] using hn) h2⟩
  | .list k es, u, _, h => by simp only [Rel] at h ⊢; exact h
  | .full k es, u, _, h => by simp only [Rel] at h ⊢; exact h
  | .elem cs off, u, _, h => by simp only [Rel] at h ⊢; exact h
  | .ptr o off, u, hn, _ => by simp [D.nf] at hn
  | .sl k o off len cap, u, hn, _ => by simp [D.nf] at hn
  | .own o, u, hn, _ => by simp [D.nf] at hn
  | .func fn first cap, u, hn, h => by
    simp only [D.nf, Bool.and_eq_true] at hn
    simp only [Rel] at h ⊢
    obtain ⟨xs, ys, h1, h2, h3⟩ := h
    exact ⟨xs, ys, h1, RelL.plain first xs hn.1 h2, RelL.plain cap ys hn.2 h3⟩
  | .yld o, u, hn, _ => by simp [D.nf] at hn
  | .opq x, u, _, h => by simpa only [Rel] using h
theorem RelL.plain {g : G} {w : World} : ∀ (ds : List D) (vs : List Value), D.nf.nfL ds = true → RelL g w ds vs → RelL g.pl w ds vs
  | [], vs, _, h => by simpa only [RelL] using h
  | d :: ds, vs, hn, h => by
    simp only [D.nf.nfL, Bool.and_eq_true] at hn
    simp only [RelL] at h ⊢
    obtain ⟨x, xs, h1, h2, h3⟩ := h
    exact ⟨x, xs, h1, Rel.plain d x hn.1 h2, RelL.plain ds xs hn.2 h3⟩
end

end Go.Ab
