/-
  A call that is worked out from the start: no thing has a name yet; tables lie in the first cells of some blocks.
-/
import Derived.Test.YtahhpefgeeofhaaGreatDoorZgExec
import Derived.Below
import Derived.Lib.LaidTab
set_option linter.unusedSimpArgs false
set_option linter.unusedVariables false
namespace Go.Ab

/-- What is known ahead of the call: how many first cells of each block never change. -/
def g0 (lm : Nat → Nat) : G := ⟨lm, fun _ => none⟩

theorem calls_of_run {P : Program} (hm : P.follows .mixedOrders = true) {FT : FuncId → Option Func} (hFT : FTOK P FT) {tb : Nat → Option (List D)} {lm : Nat → Nat} {n : Nat} {f : FuncId} {ds : List D} {args : List Value} {W : World} {F : D → Bool}
    (hTab : Tab tb (g0 lm) W) (hT : ∀ b, W.heap.size ≤ b → lm b = 0) (hargs : RelL (g0 lm) W ds args)
    (hrun : callK P FT tb n (.fn f) ds Tr.e 1 (fun d _ _ _ => F d) = true) :
    Calls P f args.toArray W fun e w' => ∃ d v g', F d = true ∧ e = .returned v ∧ Rel g' w' d v ∧ RowKit.Below W.heap.size W w' := by
  obtain ⟨d, t', c', wl, hX, hF⟩ := callK_sound n _ _ _ _ _ hrun
  have hXT : CTOK P tb (fun _ _ _ _ => none) := fun _ _ _ _ _ _ _ _ h => by cases h
  obtain ⟨⟨_, _, hcall⟩, _⟩ := callX_sound hm hFT hXT n _ _ _ _ _ _ _ _ hX
  have hH : HeapR tb ⟨W, fun b => b < W.heap.size, lm⟩ Tr.e.get (fun _ => True) W (g0 lm) :=
    { os := rfl, tape := rfl, output := rfl, size := Nat.le_refl _, kept := fun b hb => ⟨hb, rfl, rfl⟩, tight := hT, free := fun _ _ => rfl, tab := hTab,
      objs := fun n o h => by simp [Tr.get] at h, sep := fun n m _ h => by simp [Tr.get] at h }
  have h1 := hcall ⟨W, fun b => b < W.heap.size, lm⟩ (fun _ => True) W (g0 lm) args hH (fun _ _ => trivial) hargs
  have h2 : Calls P f args.toArray W _ := callsIn_wide.1 h1
  refine h2.mono fun e w' h => ?_
  obtain ⟨v, g', he, hH', _, hR⟩ := h
  exact ⟨d, v, g', hF, he, hR, ⟨hH'.os, hH'.tape, hH'.output, hH'.size, fun k hk => (hH'.kept k hk).2.1⟩⟩

/-! ### What the arguments are -/

theorem cellOk_one {P : Program} {w : World} {r : Reach} {base : Nat} {t : TypeId} {v : Value} (h : Cell.okWide P w r base t v) : v.oneCell' = true := by
  cases v <;> first
    | rfl
    | (exfalso; unfold Cell.okWide at h; split at h <;> first | (rename_i hh; cases hh) | (unfold Cell.ok at h; split at h <;> first | (rename_i hh; cases hh) | exact h | skip) | skip)

theorem okWide_struct {P : Program} {w : World} {r : Reach} {base : Nat} {t : TypeId} {v : Value} {fs : Array Field} (hu : P.underlying t = some (.struct fs)) (h : Value.okWide P w r base t v) :
    ∃ cs : Array Value, v = .agg cs ∧ cs.size = P.cellsOf t ∧ ∀ (i : Nat) (x : Value), cs[i]? = some x → x.oneCell' = true := by
  unfold Value.okWide at h
  rw [hu] at h
  obtain ⟨cs, h1, h2, ts, _, _, hc⟩ := h
  refine ⟨cs, h1, h2, fun i x hx => ?_⟩
  obtain ⟨u, _, hu⟩ := hc i x hx
  exact cellOk_one hu

theorem okWide_int {P : Program} {w : World} {r : Reach} {base : Nat} {t : TypeId} {v : Value} {k : IntKind} (hu : P.underlying t = some (.int k)) (h : Value.okWide P w r base t v) : v.oneCell' = true := by
  unfold Value.okWide at h
  rw [hu] at h
  exact cellOk_one h

theorem four_cells {cs : Array Value} (hs : cs.size = 4) (h : ∀ (i : Nat) (x : Value), cs[i]? = some x → x.oneCell' = true) :
    ∃ x0 x1 x2 x3 : Value, cs = #[x0, x1, x2, x3] ∧ x0.oneCell' = true ∧ x1.oneCell' = true ∧ x2.oneCell' = true ∧ x3.oneCell' = true := by
  obtain ⟨l⟩ := cs
  match l, hs with
  | [a, b, c, d], _ => exact ⟨a, b, c, d, rfl, h 0 a rfl, h 1 b rfl, h 2 c rfl, h 3 d rfl⟩

end Go.Ab
