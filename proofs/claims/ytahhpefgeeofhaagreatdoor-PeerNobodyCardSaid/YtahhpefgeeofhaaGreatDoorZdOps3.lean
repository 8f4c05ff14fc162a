/-
  Conversions, lengths, what is built.
-/
import Derived.Test.YtahhpefgeeofhaaGreatDoorZdOps2
import Derived.Laws.BytesArg
import Derived.Lib.ConvBytes
set_option linter.unusedSimpArgs false
set_option linter.unusedVariables false
namespace Go.Ab
section
variable {P : Program} {g : G} {w : World}

/-- Bytes, as numbers. -/
def bytesD : List D → Option (List Int)
  | [] => some []
  | .v (.int .u8 n) :: ds => (bytesD ds).map (n :: ·)
  | _ :: _ => none

theorem relE_bytes : ∀ {es : List D} {ns : List Int} {vs : List Value}, bytesD es = some ns → RelE g w es vs → vs = ns.map (Value.int .u8) ∧ ns.length = es.length
  | [], ns, vs, h, r => by simp only [bytesD] at h; cases h; simp only [RelE] at r; simp [r]
  | d :: ds, ns, vs, h, r => by
    unfold bytesD at h
    split at h
    · rename_i hnil; cases hnil
    · rename_i n ds' heq
      cases heq
      cases hb : bytesD ds with
      | none => simp [hb] at h
      | some ms =>
        simp [hb] at h
        subst h
        simp only [RelE, Rel] at r
        obtain ⟨x, xs, rfl, ⟨rfl, _⟩, h3⟩ := r
        obtain ⟨e1, e2⟩ := relE_bytes hb h3
        subst e1
        simp [Value.cells, e2]
    · cases h

theorem run_bytes_string {src dst e : TypeId} {k : Nat} {es : List D} {ns : List Int} {x : Value} (hs : P.underlying src = some (.slice e)) (he : P.underlying e = some (.int .u8)) (hd : P.underlying dst = some .string)
    (hx : Rel g w (.list k es) x) (hb : bytesD es = some ns) : (convert src dst x).run P w = .ok (.string (strOfNums ns)) w := by
  simp only [Rel] at hx
  obtain ⟨hw, hx⟩ := hx
  rcases hx with ⟨rfl, rfl⟩ | ⟨b, o, c, vs, rfl, hc, hcells, hE⟩
  · simp only [bytesD] at hb
    cases hb
    exact run_convert_bytes_nil w src e hs he 0 0 dst hd
  · obtain ⟨rfl, hlen⟩ := relE_bytes hb hE
    refine run_convert_bytes_arg w src e hs he b o es.length c ns hlen ?_ dst hd
    intro i hi
    have hi' : i < ns.length := by omega
    exact hcells.2 i _ (by simp [List.getD, hi'])

/-- What an operation leaves that lets all stand that was there. -/
structure New (g : G) (w : World) (g' : G) (w' : World) : Prop where
  below : RowKit.Below w.heap.size w w'
  lim : ∀ b, b < w.heap.size → g'.lim b = g.lim b
  val : g'.val = g.val
  fresh : ∀ b, w'.heap.size ≤ b → g'.lim b = 0

/-- No block beyond the memory is spoken for. -/
def Tight (g : G) (w : World) : Prop := ∀ b, w.heap.size ≤ b → g.lim b = 0

theorem New.refl (h : Tight g w) : New g w g w := ⟨RowKit.Below.refl _ _, fun _ _ => rfl, rfl, h⟩
theorem New.ext {g' : G} {w' : World} (h : New g w g' w') (t : Tight g w) : Ext g w g' w' := by
  refine ⟨fun b => ?_, fun b o ho => ?_, (fun n x hx => by rw [h.val]; exact hx), fun b n hr => ?_⟩
  · by_cases hb : b < w.heap.size
    · rw [h.lim b hb]; exact Nat.le_refl _
    · rw [t b (by omega)]; exact Nat.zero_le _
  · by_cases hb : b < w.heap.size
    · exact h.below.cell hb
    · rw [t b (by omega)] at ho; omega
  · obtain ⟨cs, T, fr, h1, h2⟩ := hr
    exact ⟨cs, T, fr, by rw [h.below.block b (Array.getElem?_eq_some_iff.1 h1).1]; exact h1, h2⟩
theorem New.trans {g2 g3 : G} {w2 w3 : World} (h : New g w g2 w2) (k : New g2 w2 g3 w3) : New g w g3 w3 :=
  ⟨h.below.trans (k.below.mono h.below.size), fun b hb => (k.lim b (Nat.lt_of_lt_of_le hb h.below.size)).trans (h.lim b hb), k.val.trans h.val, k.fresh⟩

/-- A new block of cells that never change. -/
def G.with (g : G) (b n : Nat) : G := { g with lim := fun x => if x = b then n else g.lim x }

theorem new_of_block {w' : World} {n : Nat} (hB : RowKit.Below w.heap.size w w') (ht : Tight g w) (hs : w.heap.size < w'.heap.size) : New g w (g.with w.heap.size n) w' := by
  refine ⟨hB, fun b hb => ?_, rfl, fun b hb => ?_⟩
  · simp only [G.with]; rw [if_neg (by omega)]
  · simp only [G.with]; rw [if_neg (by omega)]; exact ht b (by omega)

theorem relE_of_scalars {g : G} {w : World} : ∀ {vs : List Value}, vs.all noAgg = true → RelE g w (vs.map .v) vs
  | [], _ => by simp [RelE]
  | x :: xs, h => by
    simp only [List.all_cons, Bool.and_eq_true] at h
    simp only [List.map_cons, RelE, Rel]
    exact ⟨x, xs, by simp [cells_of_noAgg h.1], ⟨rfl, h.1⟩, relE_of_scalars h.2⟩

theorem data_len (s : ByteArray) : s.data.toList.length = s.size := by rw [Array.length_toList]; rfl

def byteD (b : UInt8) : D := .v (.int .u8 (b.toNat : Int))

theorem run_string_bytes {src dst e : TypeId} {u : TypeDesc} {s : ByteArray} (hs : P.underlying src = some u) (he : P.underlying e = some (.int .u8)) (hd : P.underlying dst = some (.slice e)) (ht : Tight g w) :
    ∃ v g' w', (convert src dst (.string s)).run P w = .ok v w' ∧ New g w g' w' ∧ Rel g' w' (.list 1 (s.data.toList.map byteD)) v := by
  refine ⟨_, g.with w.heap.size s.size, _, Lib.run_convert_string_bytes w src dst e s hs hd he, new_of_block ?_ ht ?_, ?_⟩
  · refine ⟨?_, ?_, ?_, ?_, ?_⟩
    · simp [Lib.bytesWorld, World.freeze]; rfl
    · simp [Lib.bytesWorld, World.freeze]
    · simp [Lib.bytesWorld, World.freeze]; rfl
    · rw [Lib.bytesWorld_size]; omega
    · exact fun k hk => Lib.bytesWorld_at_old w e s k hk
  · rw [Lib.bytesWorld_size]; omega
  · simp only [Rel]
    refine ⟨fun d hd => ?_, .inr ⟨w.heap.size, 0, grownCap w s.size 0 e, s.data.toList.map fun b => .int .u8 b.toNat, ?_, ?_, ⟨?_, ?_⟩, ?_⟩⟩
    · obtain ⟨b, _, rfl⟩ := List.mem_map.1 hd; rfl
    · rw [List.length_map, Array.length_toList]; rfl
    · rw [List.length_map, Array.length_toList]
      exact Nat.le_add_right _ _
    · simp [G.with, data_len]
    · intro i x hx
      have hi' : i < s.data.toList.length := by have := (List.getElem?_eq_some_iff.1 hx).1; rwa [List.length_map] at this
      rw [Nat.zero_add, Lib.bytesWorld_cell w e s i (by rw [data_len] at hi'; exact hi'), ← hx, List.getElem?_map, List.getElem?_eq_getElem hi', List.getD_eq_getElem?_getD, List.getElem?_eq_getElem hi']
      rfl
    · have := relE_of_scalars (g := (g.with w.heap.size s.size).pl) (w := Lib.bytesWorld w e s) (vs := s.data.toList.map fun b => .int .u8 b.toNat) (by
        rw [List.all_map]; exact List.all_eq_true.2 fun _ _ => rfl)
      rw [List.map_map] at this
      exact this

/-! ### Lengths -/
def lenD : D → Option Nat
  | .list _ es | .full _ es => some es.length
  | .v (.string s) => some s.size
  | .v (.slice none 0 0) => some 0
  | _ => none

theorem run_len {t : TypeId} {u : TypeDesc} {d : D} {n : Nat} {x : Value} {ty : TypeId} (ht : P.underlying t = some u) (hu : u = .string ∨ ∃ e, u = .slice e) (h : lenD d = some n) (hx : Rel g w d x)
    (hk : (∃ s, d = .v (.string s)) ↔ u = .string) : (Builtin.len_ #[t] ty #[x]).run P w = .ok (.int .i64 n) w := by
  unfold lenD at h
  split at h
  · rename_i k es
    cases h
    rcases hu with rfl | ⟨e, rfl⟩
    · exact absurd (hk.2 rfl) (by rintro ⟨s, hs⟩; cases hs)
    · simp only [Rel] at hx
      rcases hx.2 with ⟨rfl, rfl⟩ | ⟨b, o, c, vs, rfl, _⟩ <;> simp [Builtin.len_, run_underlying ht w, goInt]
  · rename_i k es
    cases h
    rcases hu with rfl | ⟨e, rfl⟩
    · exact absurd (hk.2 rfl) (by rintro ⟨s, hs⟩; cases hs)
    · simp only [Rel] at hx
      obtain ⟨_, b, o, vs, rfl, _⟩ := hx
      simp [Builtin.len_, run_underlying ht w, goInt]
  · rename_i s
    cases h
    have := hk.1 ⟨s, rfl⟩
    subst this
    simp only [Rel] at hx
    obtain ⟨rfl, _⟩ := hx
    simp [Builtin.len_, run_underlying ht w, goInt]
  · cases h
    rcases hu with rfl | ⟨e, rfl⟩
    · exact absurd (hk.2 rfl) (by rintro ⟨s, hs⟩; cases hs)
    · simp only [Rel] at hx
      obtain ⟨rfl, _⟩ := hx
      simp [Builtin.len_, run_underlying ht w, goInt]
  · cases h

end
end Go.Ab
