/-
  What the machine's operations on slices do to memory, by values.
-/
import Derived.Test.YtahhpefgeeofhaaGreatDoorZeHeap
import Derived.Laws.Append
import Derived.Laws.AppendOwn
set_option linter.unusedSimpArgs false
set_option linter.unusedVariables false
namespace Go.Ab
section
variable {P : Program} {g : G} {w : World}

/-- The first n elements (k cells each) of a slice's value are vs. -/
def Src (w : World) (k : Nat) (X : Value) (n : Nat) (vs : List Value) : Prop :=
  vs.length = n * k ∧ ((X = .slice none 0 0 ∧ n = 0) ∨ ∃ (b p c : Nat), X = .slice (some ⟨b, p, none⟩) n c ∧ ∀ j v, vs[j]? = some v → w.cell? ⟨b, p + j, none⟩ = some v)

theorem Src.len {k n : Nat} {X : Value} {vs : List Value} (h : Src w k X n vs) (w' : World) : (Builtin.lenOf X).run P w' = .ok n w' := by
  obtain ⟨_, ⟨rfl, rfl⟩ | ⟨b, p, c, rfl, _⟩⟩ := h <;> simp [Builtin.lenOf]

theorem Src.first {k n m : Nat} {X : Value} {vs : List Value} (h : Src w k X n vs) (hm : m ≤ n) {w' : World} (hw : w'.heap = w.heap) : (Builtin.firstCells k m X).run P w' = .ok (vs.take (m * k)).toArray w' := by
  obtain ⟨hl, ⟨rfl, rfl⟩ | ⟨b, p, c, rfl, hc⟩⟩ := h
  · have : m = 0 := by omega
    subst this
    simp [Builtin.firstCells]
  · refine run_firstCells_some w' k m _ n c (vs.take (m * k)) ?_ ?_
    · rw [List.length_take, hl, Nat.min_eq_left (Nat.mul_le_mul_right _ hm)]
    · intro j v hj
      rw [Addr.add_mid]
      have : w'.cell? ⟨b, p + j, none⟩ = w.cell? ⟨b, p + j, none⟩ := World.cell?_of_block (w := w) (by rw [hw])
      rw [this]
      refine hc j v ?_
      rw [List.getElem?_take] at hj
      split at hj
      · exact hj
      · cases hj

/-- What is laid behind a slice. -/
structure News (P : Program) (w : World) (k : Nat) (e t2 : TypeId) (X : Value) (n : Nat) (news : List Value) : Prop where
  len : news.length = n * k
  kind : ∃ d, P.underlying t2 = some d ∧ ∀ j, d ≠ .int j
  lenOf : ∀ w', (Builtin.lenOf X).run P w' = .ok n w'
  first : ∀ w', w'.heap = w.heap → (Builtin.firstCells k n X).run P w' = .ok news.toArray w'

theorem Src.news {k n : Nat} {e t2 : TypeId} {X : Value} {vs : List Value} (h : Src w k X n vs) (ht : ∃ d, P.underlying t2 = some d ∧ ∀ j, d ≠ .int j) : News P w k e t2 X n vs := by
  refine ⟨h.1, ht, fun w' => h.len w', fun w' hw => ?_⟩
  have := h.first (P := P) (Nat.le_refl n) hw
  rwa [← h.1, List.take_length] at this

theorem string_news {e t2 : TypeId} {s : ByteArray} (ht : P.underlying t2 = some .string) : News P w 1 e t2 (.string s) s.size (s.data.toList.map fun b => .int .u8 b.toNat) := by
  refine ⟨by simp [data_len], ⟨_, ht, by simp⟩, fun w' => by simp [Builtin.lenOf], fun w' hw => ?_⟩
  simp [Builtin.firstCells]
  apply Array.ext'
  simp

theorem heap_drew {w : World} : (w.drew).heap = w.heap := rfl

section
variable {t t2 ty e : TypeId} {i : TypeInfo} {z : Value} {X : Value} {n : Nat} {news : List Value}

/-- Append with room. -/
theorem run_append_in (ht : P.underlying t = some (.slice e)) (hi : P.info? e = some i) (hn : News P w i.size e t2 X n news)
    {b p sLen sCap : Nat} {cur : Array Value} {T : TypeId} (hg : w.heap[b]? = some (.cells cur T (0, 0))) (h1 : ∀ u ∈ news, u.oneCell' = true) (hroom : sLen + n ≤ sCap) (hfit : p + sLen * i.size + news.length ≤ cur.size) :
    (Builtin.append_ #[t, t2] ty #[.slice (some ⟨b, p, none⟩) sLen sCap, X]).run P w =
      .ok (.slice (some ⟨b, p, none⟩) (sLen + n) sCap) (w.setRow b (cur.toList.take (p + sLen * i.size) ++ news ++ cur.toList.drop (p + sLen * i.size + news.length)).toArray) := by
  obtain ⟨d, hd, hd'⟩ := hn.kind
  have hst := run_storeCells_at P b (p + sLen * i.size) T news 0 cur w hg (by simpa using hfit) h1
  simp only [Nat.add_zero] at hst
  have hnot : (match d with | .int _ => true | _ => false) = false := by cases d <;> first | rfl | exact absurd rfl (hd' _)
  have hf := hn.first w rfl
  have hl := hn.lenOf w
  simp [Builtin.append_, run_underlying ht, run_underlying hd, sizeOf, typeInfo, hi, hnot, hl, hroom, hf, Addr.add_mid, hst]

/-- Append of nothing. -/
theorem run_append_nothing (ht : P.underlying t = some (.slice e)) (hi : P.info? e = some i) (hn : News P w i.size e t2 X 0 news) {base : Option Addr} {sLen sCap : Nat} (hle : sLen ≤ sCap) :
    (Builtin.append_ #[t, t2] ty #[.slice base sLen sCap, X]).run P w = .ok (.slice base sLen sCap) w := by
  obtain ⟨d, hd, hd'⟩ := hn.kind
  have hnot : (match d with | .int _ => true | _ => false) = false := by cases d <;> first | rfl | exact absurd rfl (hd' _)
  have hl := hn.lenOf w
  have hf := hn.first w rfl
  have h0 : news = [] := by have := hn.len; simp at this; exact this
  subst h0
  cases base <;> simp [Builtin.append_, run_underlying ht, run_underlying hd, sizeOf, typeInfo, hi, hnot, hl, hle, hf, storeCells]

/-- Append that makes a new row. -/
theorem run_append_new (ht : P.underlying t = some (.slice e)) (hi : P.info? e = some i) (hz : i.zero = some z) (hn : News P w i.size e t2 X n news)
    {S : Value} {sLen sCap : Nat} {base : Option Addr} (hS : S = .slice base sLen sCap) {olds : List Value} (ho : Src w i.size S sLen olds)
    (hg : sCap < sLen + n) (h63 : ((sLen + n : Nat) : Int) ≤ 9223372036854775807) (hfit : (sLen + n) * i.bytes ≤ 140737488355328) :
    (Builtin.append_ #[t, t2] ty #[S, X]).run P w =
      .ok (.slice (some ⟨w.heap.size, 0, none⟩) (sLen + n) (grownCap w (sLen + n) sCap e))
        (w.drew.alloc (.cells (olds.toArray ++ news.toArray ++ Builtin.zeroCells z.cells (grownCap w (sLen + n) sCap e - (sLen + n))) e)) := by
  obtain ⟨d, hd, hd'⟩ := hn.kind
  have hnot : (match d with | .int _ => true | _ => false) = false := by cases d <;> first | rfl | exact absurd rfl (hd' _)
  have hl := hn.lenOf w
  have hf := hn.first w.drew rfl
  have hfo := ho.first (P := P) (w' := w.drew) (Nat.le_refl sLen) rfl
  rw [← ho.1, List.take_length] at hfo
  have hneed : ¬ (sLen + n ≤ sCap) := by omega
  have h63' : ¬ (9223372036854775807 < ((sLen : Int) + (n : Int))) := by omega
  have h48 := growslice_fits (bytes := i.bytes) hg hfit
  have h48' : ¬ (281474976710656 < Builtin.nextslicecap (sLen + n) sCap * i.bytes) := by omega
  subst hS
  simp [Builtin.append_, run_underlying ht, run_underlying hd, sizeOf, typeInfo, zeroValue, hi, hz, hnot, hl, hneed, h63', h48', Question.forced, hf, hfo, newRow, grownCap]
  congr 2
  apply Array.ext'
  simp [List.append_assoc]


theorem zeroCells_list {zs : Array Value} (hpos : 0 < zs.size) : ∀ n, (Builtin.zeroCells zs n).toList = (List.replicate n zs.toList).flatten
  | 0 => by simp [Builtin.zeroCells]
  | n + 1 => by
    have ih := zeroCells_list hpos n
    rw [List.replicate_succ', List.flatten_append, ← ih]
    simp only [Builtin.zeroCells, Array.toList_map, Array.toList_range]
    rw [Nat.succ_mul, List.range_add, List.map_append, List.map_map]
    congr 1
    simp only [List.flatten_cons, List.flatten_nil, List.append_nil]
    apply List.ext_getElem?
    intro j
    simp only [List.getElem?_map, List.getElem?_range']
    by_cases hj : j < zs.size
    · simp [hj, Nat.add_mod, Nat.mod_eq_of_lt hj]
    · have : zs.size ≤ j := by omega
      simp [this]

/-- Append of so many zero elements (append(s, make(..)..)). -/
theorem run_append_zeros (ht : P.underlying t = some (.slice e)) (hi : P.info? e = some i) (hz : i.zero = some z) (hzs : z.cells.size = i.size) {kd : IntKind} (h2 : P.underlying t2 = some (.int kd)) {kx : IntKind} {q : Int} (hq : IntKind.i64.wrap q = n) (hpos : 0 < i.size)
    {S : Value} {sLen sCap : Nat} {base : Option Addr} (hS : S = .slice base sLen sCap) {olds : List Value} (ho : Src w i.size S sLen olds)
    (hle : sLen ≤ sCap) (hg : sCap < sLen + n) (h63 : ((sLen + n : Nat) : Int) ≤ 9223372036854775807) (hfit : (sLen + n) * i.bytes ≤ 140737488355328) :
    (Builtin.append_ #[t, t2] ty #[S, .int kx q]).run P w =
      .ok (.slice (some ⟨w.heap.size, 0, none⟩) (sLen + n) (grownCap w (sLen + n) sCap e))
        (w.drew.alloc (.cells (olds.toArray ++ Builtin.zeroCells z.cells n ++ Builtin.zeroCells z.cells (grownCap w (sLen + n) sCap e - (sLen + n))) e)) := by
  have hfo := ho.first (P := P) (w' := w.drew) (Nat.le_refl sLen) rfl
  rw [← ho.1, List.take_length] at hfo
  have hneed : ¬ (sLen + n ≤ sCap) := by omega
  have h63' : ¬ (9223372036854775807 < ((sLen : Int) + (n : Int))) := by omega
  have h48 := growslice_fits (bytes := i.bytes) hg hfit
  have h48' : ¬ (281474976710656 < Builtin.nextslicecap (sLen + n) sCap * i.bytes) := by omega
  have hnn : ¬ ((n : Int) < 0) := by omega
  have hb : ¬ (281474976710656 < (n : Int) * (i.bytes : Int)) := by
    have h1 : n * i.bytes ≤ (sLen + n) * i.bytes := Nat.mul_le_mul_right _ (by omega)
    have h2 : ((n * i.bytes : Nat) : Int) ≤ 140737488355328 := by omega
    push_cast at h2
    omega
  subst hS
  by_cases h0 : n = 0
  · omega
  · have hne : ¬ (n * i.size = 0) := by
      have := Nat.mul_pos (Nat.pos_of_ne_zero h0) hpos
      omega
    simp [Builtin.append_, run_underlying ht, run_underlying h2, sizeOf, typeInfo, zeroValue, hi, hz, hneed, h63', h48', Question.forced, hfo, newRow, grownCap, asInt, asIntOf, hq, hnn, hb, hne]

/-- Copy into a slice. -/
theorem run_copy (ht : P.underlying t = some (.slice e)) (hi : P.info? e = some i) {src : Value} {n m : Nat} {vs : List Value} (hs : ∀ w', (Builtin.lenOf src).run P w' = .ok n w') {dLen dCap b p : Nat} {cur : Array Value} {T : TypeId} (hm : m = min n dLen)
    (hf : (Builtin.firstCells i.size m src).run P w = .ok vs.toArray w) (hg : w.heap[b]? = some (.cells cur T (0, 0))) (h1 : ∀ u ∈ vs, u.oneCell' = true) (hfit : p + vs.length ≤ cur.size) :
    (Builtin.copy_ #[t, t2] ty #[.slice (some ⟨b, p, none⟩) dLen dCap, src]).run P w = .ok (.int .i64 m) (w.setRow b (cur.toList.take p ++ vs ++ cur.toList.drop (p + vs.length)).toArray) := by
  have hst := run_storeCells_at P b p T vs 0 cur w hg (by simpa using hfit) h1
  simp only [Nat.add_zero] at hst
  have hl := hs w
  have hmm : Nat.min n dLen = m := by rw [hm]
  simp [Builtin.copy_, run_underlying ht, sizeOf, typeInfo, hi, hl, hmm, hf, hst, goInt]

theorem run_copy_nil (ht : P.underlying t = some (.slice e)) (hi : P.info? e = some i) {src : Value} {n : Nat} (hs : ∀ w', (Builtin.lenOf src).run P w' = .ok n w') (hf : (Builtin.firstCells i.size 0 src).run P w = .ok #[] w) :
    (Builtin.copy_ #[t, t2] ty #[.slice none 0 0, src]).run P w = .ok (.int .i64 0) w := by
  have hl := hs w
  have hmm : Nat.min n 0 = 0 := Nat.min_zero n
  simp [Builtin.copy_, run_underlying ht, sizeOf, typeInfo, hi, hl, hmm, hf, goInt]

theorem run_copy_zero (ht : P.underlying t = some (.slice e)) (hi : P.info? e = some i) {src : Value} {n dLen dCap : Nat} {a : Option Addr} (hs : ∀ w', (Builtin.lenOf src).run P w' = .ok n w') (hm : min n dLen = 0) (hf : (Builtin.firstCells i.size 0 src).run P w = .ok #[] w) :
    (Builtin.copy_ #[t, t2] ty #[.slice a dLen dCap, src]).run P w = .ok (.int .i64 0) w := by
  have hl := hs w
  have hmm : Nat.min n dLen = 0 := hm
  cases a <;> simp [Builtin.copy_, run_underlying ht, sizeOf, typeInfo, hi, hl, hmm, hf, goInt, storeCells]

/-- Clear a slice. -/
theorem run_clear (ht : P.underlying t = some (.slice e)) (hi : P.info? e = some i) (hz : i.zero = some z) {sLen sCap b p : Nat} {cur : Array Value} {T : TypeId} (hne : sLen ≠ 0)
    (hg : w.heap[b]? = some (.cells cur T (0, 0))) (h1 : ∀ u ∈ (Builtin.zeroCells z.cells sLen).toList, u.oneCell' = true) (hfit : p + sLen * z.cells.size ≤ cur.size) :
    (Builtin.clear_ #[t] ty #[.slice (some ⟨b, p, none⟩) sLen sCap]).run P w =
      .ok (.tuple #[]) (w.setRow b (cur.toList.take p ++ (Builtin.zeroCells z.cells sLen).toList ++ cur.toList.drop (p + sLen * z.cells.size)).toArray) := by
  have hlen : (Builtin.zeroCells z.cells sLen).toList.length = sLen * z.cells.size := by simp [size_zeroCells]
  have hst := run_storeCells_at P b p T (Builtin.zeroCells z.cells sLen).toList 0 cur w hg (by rw [hlen]; simpa using hfit) h1
  simp only [Nat.add_zero, hlen] at hst
  cases sLen with
  | zero => exact absurd rfl hne
  | succ m => simp [Builtin.clear_, run_underlying ht, zeroValue, typeInfo, hi, hz, hst]

theorem run_clear_empty (ht : P.underlying t = some (.slice e)) {a : Option Addr} {c : Nat} :
    (Builtin.clear_ #[t] ty #[.slice a 0 c]).run P w = .ok (.tuple #[]) w := by
  cases a <;> simp [Builtin.clear_, run_underlying ht]

/-- Make a slice. -/
theorem run_makeSlice (ht : P.underlying t = some (.slice e)) (hi : P.info? e = some i) (hz : i.zero = some z) {kl kc : IntKind} {l c : Int} {L C : Nat} (hL : IntKind.i64.wrap l = L) (hC : IntKind.i64.wrap c = C) (hLC : L ≤ C) (hb : i.bytes * C ≤ 281474976710656) (hzs : z.cells.size = i.size) (hpos : 0 < i.size) :
    (Instr.makeSlice t (.int kl l) (.int kc c)).run P w = .ok (.slice (some ⟨w.heap.size, 0, none⟩) L C) (w.alloc (.cells (Builtin.zeroCells z.cells C) e)) := by
  have h1 : ¬ ((C : Int) < 0 ∨ 281474976710656 < (i.bytes : Int) * (C : Int)) := by
    have : ((i.bytes * C : Nat) : Int) ≤ 281474976710656 := by omega
    push_cast at this
    omega
  have h2 : ¬ (((L : Int) < 0) ∨ (C : Int) < (L : Int)) := by omega
  by_cases h0 : C = 0
  · subst h0
    have : L = 0 := by omega
    subst this
    have hz0 : Builtin.zeroCells z.cells 0 = #[] := by simp [Builtin.zeroCells]
    simp [Instr.makeSlice, run_underlying ht, sizeOf, typeInfo, zeroValue, hi, hz, asInt, asIntOf, hL, hC, newRow, hz0]
    have : Array.map (fun _ => (default : Value)) (Array.range 0) = #[] := by apply Array.ext'; simp
    rw [this]
  · have hne : ¬ (C * i.size = 0) := by
      have := Nat.mul_pos (show 0 < C by omega) hpos
      omega
    have h2 : ¬ (((L : Int) < 0) ∨ C < L) := by omega
    simp [Instr.makeSlice, run_underlying ht, sizeOf, typeInfo, zeroValue, hi, hz, asInt, asIntOf, hL, hC, newRow, h1, h2, hne, Builtin.zeroCells, hzs]

end
end
end Go.Ab
