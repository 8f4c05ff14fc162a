/-
  PeerNobody answers true whatever the message and the seed: proved for every input, the two package-level tables as the program's text lays them.
-/
import Derived.Test.YtahhpefgeeofhaaGreatDoorZhRunPN
import Derived.Test.YtahhpefgeeofhaaGreatDoorCards
import Derived.Test.YtahhpefgeeofhaaGreatDoorTie
import Derived.WalkKit
import Derived.ProofKit
import Derived.OpenShut
import Derived.Carry
import Derived.ReadAgain
import Derived.Deep.DeepHandedRow
import Derived.Stop.LaidErr
set_option linter.unusedVariables false
namespace Go.Proofs.YtahhpefgeeofhaaGreatDoor.PN
open Go.ChangeShapes Go.WideShapes Go.ChangeAt Go.RowKit Go.Ab

theorem own : ownKnob Tryz.prog.godebug = none := by kernel_rfl
theorem laidOut : laidOutB Tryz.prog = true := by kernel_rfl
theorem maps : mapsRowed Tryz.prog = true := by kernel_rfl
theorem cells1 : Tryz.prog.cellsOf 27 = 1 := by kernel_rfl
theorem cells8 : Tryz.prog.cellsOf 263 = 8 := by kernel_rfl
theorem cells64 : Tryz.prog.cellsOf 318 = 64 := by kernel_rfl
theorem under8 : Tryz.prog.underlying 263 = some (.array 8 27) := by kernel_rfl
theorem under64 : Tryz.prog.underlying 318 = some (.array 64 27) := by kernel_rfl
theorem gBeginT : (Tryz.prog.globals[0]?).map (·.type) = some 263 := by kernel_rfl
theorem gRoundsT : (Tryz.prog.globals[1]?).map (·.type) = some 318 := by kernel_rfl
set_option maxRecDepth 100000 in
theorem isBool : Tryz.prog.underlying 4 = some .bool := Tryz.underlying4

theorem tableR {W : World} (h : laidMetH Tryz.prog Rows.peerNobodyRow.laid W) : Lib.TabIs Tryz.prog W "stemma/sha.rounds" .u32 roundsZ :=
  Lib.tabIs_of_head gRounds gRoundsT under64 Tryz.underlying27 cells1 cells64 (show laidMet Tryz.prog (("stemma/sha.rounds", Lib.tabData .u32 roundsZ) :: [("stemma/sha.begin", Lib.tabData .u32 beginZ)]) W from h)
theorem tableB {W : World} (h : laidMetH Tryz.prog Rows.peerNobodyRow.laid W) : Lib.TabIs Tryz.prog W "stemma/sha.begin" .u32 beginZ :=
  Lib.tabIs_of_head (rest := []) gBegin gBeginT under8 Tryz.underlying27 cells1 cells8 (laidMet.tail (show laidMet Tryz.prog (("stemma/sha.rounds", Lib.tabData .u32 roundsZ) :: [("stemma/sha.begin", Lib.tabData .u32 beginZ)]) W from h))

theorem cells26 : Tryz.prog.cellsOf 26 = 4 := by kernel_rfl
theorem read26 : Tryz.prog.readableRec 26 = true := by kernel_rfl
theorem read27 : Tryz.prog.readableRec 27 = true := by kernel_rfl
theorem row26 : 26 < Tryz.prog.types.size := of_decide_eq_true (by kernel_rfl)
theorem row27 : 27 < Tryz.prog.types.size := of_decide_eq_true (by kernel_rfl)

set_option maxRecDepth 100000 in
/-- What the run gives, for every argument and every world that holds the tables. -/
theorem contract (H : Type) (enc : TypeId × Value → H) (W : World) (base : Nat) (args : Array Value) (ds gs : List (DataW H)) (before : List MemPlace)
    (hval : ∀ (j : Nat) t v, Tryz.f3.params[j]? = some t → args[j]? = some v → Value.okWide Tryz.prog W .any base t v)
    (hW : DataW.Whole enc Tryz.prog Tryz.f3.params.toList Rows.peerNobodySpec.vars false W args.toList ds gs before) (hL : laidMetH Tryz.prog Rows.peerNobodyRow.laid W) :
    Calls Tryz.prog 3 args W fun e W' => ∃ v, e = .returned v ∧ Rows.peerNobodySpec.post enc Tryz.prog Tryz.f3 false true false false W args v W' := by
  have hW' := hW
  obtain ⟨p, q, hA0, hV, rfl, hfz, hnd⟩ := hW
  have hA : DataW.TrodAll enc Tryz.prog W 0 (fun _ => true) true Tryz.f3.params.toList args.toList ds p := hA0
  rw [Tryz.params3] at hA hval
  obtain ⟨v0, vs0, d0, ds0, p0, q0, hargs, rfl, rfl, h0, r0⟩ := trodAll_cons hA
  obtain ⟨v1, vs1, d1, ds1, p1, q1, hargs1, rfl, rfl, h1, r1⟩ := trodAll_cons r0
  obtain ⟨rfl, rfl, rfl⟩ := trodAll_nil r1
  subst hargs1
  obtain rfl : args = #[v0, v1] := by cases args; simp_all
  obtain ⟨rfl, rfl⟩ := trodVars_none hV
  have hlt := DataW.TrodAll.lt hA
  obtain ⟨cs, rfl, hcs, hcells⟩ := Ab.okWide_struct Tryz.underlying26 (hval 0 26 v0 rfl rfl)
  obtain ⟨x0, x1, x2, x3, rfl, o0, o1, o2, o3⟩ := four_cells (hcs.trans cells26) hcells
  have os := Ab.okWide_int Tryz.underlying27 (hval 1 27 v1 rfl rfl)
  clear hA0
  simp only [List.append_nil] at hW'
  have hl0 : ∀ x ∈ p0, x.block < W.heap.size := fun x hx => hlt x (List.mem_append_left _ hx)
  have hl1 : ∀ x ∈ p1, x.block < W.heap.size := fun x hx => hlt x (List.mem_append_right _ (List.mem_append_left _ hx))
  refine (pn_calls (tableB hL) (tableR hL) o0 o1 o2 o3 os).mono fun e W' ⟨he, hB⟩ => ?_
  subst he
  have hl1' : ∀ x ∈ p1, x ∈ p0 ++ p1 := fun x hx => List.mem_append_right _ hx
  have hl0' : ∀ x ∈ p0, x ∈ p0 ++ p1 := fun x hx => List.mem_append_left _ hx
  have hold : ∀ p ∈ p0 ++ p1, decide (p.block < W.heap.size) = true := fun p hp => by
    rcases List.mem_append.1 hp with h | h
    · exact decide_eq_true (hl0 p h)
    · exact decide_eq_true (hl1 p h)
  have again : DataW.TrodAll enc Tryz.prog W' 0 (fun b => decide (b < W.heap.size)) true [26, 27] [Value.agg #[x0, x1, x2, x3], v1] [d0, d1] (p0 ++ p1) :=
    trodAll_mk2 (WideElems.Trod_stays laidOut read26 row26 h0 (fun x hx => hB.same (hl0 x hx)) (fun x hx => hold x (hl0' x hx)))
      (WideElems.Trod_stays laidOut read27 row27 h1 (fun x hx => hB.same (hl1 x hx)) (fun x hx => hold x (hl1' x hx)))
  exact ⟨_, rfl, [d0, d1], [], p0 ++ p1, [], p0 ++ p1, [], hW', trodAll_cons_mk (shut_bool Tryz.underlying4 _) trodAll_mk0, again, rfl, hB.frame _, fun h => by cases h⟩

/-- A block that holds these numbers. -/
def laying (zs : List Int) (o : Obj) : Obj := match o with
  | .cells _ t frozen => .cells (zs.map (Value.int .u32)).toArray t frozen
  | o => o
/-- A world for the witness: the settled one, the tables holding what their initialisers lay. -/
noncomputable def laidWorld (os : Os) : World :=
  { World.holding Tryz.prog os ⟨#[], #[], []⟩ with heap := ((World.holding Tryz.prog os ⟨#[], #[], []⟩).heap.modify 0 (laying beginZ)).modify 1 (laying roundsZ) }
def argsW : Array Value := #[.agg #[.slice none 0 0, .slice none 0 0, .slice none 0 0, .slice none 0 0], .int .u32 0]
set_option maxRecDepth 100000 in
theorem laid_met (os : Os) : laidMet Tryz.prog Rows.peerNobodyRow.laid ((laidWorld os).forCall (fun _ _ => 0) ⟨#[], argsW, []⟩).memory :=
  laidMet_of_run' 8 (by kernel_rfl) (by kernel_rfl)
theorem reads (os : Os) {H : Type} (enc : TypeId × Value → H) : ∃ ds places, DataW.whole enc Tryz.prog ((laidWorld os).forCall (fun _ _ => 0) ⟨#[], argsW, []⟩).memory Tryz.f3.params.toList Rows.peerNobodySpec.vars false argsW.toList 8 = some (ds, [], places) :=
  ⟨[.agg [.nil, .nil, .nil, .nil], .lit (.int .u32 0)], [], by kernel_rfl⟩

set_option maxRecDepth 100000 in
theorem lifted (os : Os) (started : os.Started) (H : Type) (enc : TypeId × Value → H) (F : Stop.Interp) :
    ReturnsInHanded {} Tryz.checked os 3 .any ((OpenSpec.ofChange Rows.peerNobodySpec).preRow enc Tryz.prog Tryz.f3 Rows.peerNobodyRow.domain false Rows.peerNobodyRow.laid) (((OpenSpec.ofChange Rows.peerNobodySpec).at F).post enc Tryz.prog Tryz.f3 false true false false) := by
  obtain ⟨ds, places, hx⟩ := reads os enc
  refine returnsInHanded_of_row (C := Tryz.checked) (s := OpenSpec.ofChange Rows.peerNobodySpec) own started (by kernel_rfl) Tryz.func3
    (witness_row_at (enc := enc) (C := Tryz.checked) false (laidWorld os) argsW rfl (by kernel_rfl) (by kernel_rfl) (by kernel_rfl)
      (OpenSpec.preRow_of_cond 8 hx (by kernel_rfl) (fun k hk => by cases hk) (by kernel_rfl) (laid_met os))) ?_
  intro W base args ds gs before hval hW _ _ _ hL _ _
  exact contract H enc W base args ds gs before hval hW hL

set_option maxRecDepth 100000 in
theorem said : Rows.PeerNobodySaid :=
  OpenClaim.holds_of_cond 3 Tryz.f3 rfl rfl rfl rfl rfl rfl rfl ⟨rfl, rfl, rfl, rfl, rfl⟩ rfl rfl rfl rfl rfl (by kernel_rfl) Tryz.func3 (by kernel_rfl)
    (of_decide_eq_true (by kernel_rfl)) (by unfold Func.isWrapper; first | (rw [if_pos (by decide +kernel)]; kernel_rfl) | (rw [if_neg (by decide +kernel)]; exact ⟨rfl, rfl⟩))
    (fun os started H enc _ F => by rw [OpenClaim.pre_eq_preRow]; exact lifted os started H enc F)

/-- No parameter wants a stand-in; the program's own looks are off. -/
theorem plain (f : FuncId) (fn : Func) (hf : Tryz.pinned.checked.prog.funcNamed "stemma/stemmalaw22.PeerNobody" = some f) (hfn : Tryz.pinned.checked.prog.funcs[f]? = some fn) :
    false = Tryz.pinned.checked.prog.looks [] ∧ ∀ (j : Nat) t, fn.params[j]? = some t → Tryz.pinned.checked.prog.wantsStandIn t = false := by
  obtain rfl : f = 3 := Option.some.inj ((show Tryz.prog.funcNamed "stemma/stemmalaw22.PeerNobody" = some 3 by kernel_rfl).symm.trans hf) |>.symm
  obtain rfl : fn = Tryz.f3 := (Option.some.inj (Tryz.func3.symm.trans hfn)).symm
  refine ⟨by kernel_rfl, fun j t ht => ?_⟩
  rw [Tryz.params3] at ht
  have hm := Array.mem_of_getElem? ht
  have : t = 26 ∨ t = 27 := by simpa using hm
  rcases this with rfl | rfl
  · exact (show Tryz.prog.wantsStandIn 26 = false by kernel_rfl)
  · exact (show Tryz.prog.wantsStandIn 27 = false by kernel_rfl)

/-- The card. -/
theorem card : Rows.PeerNobodyCardSaid :=
  Claim7.holds_tied_plain_at .later [] _ _ _ _ said (fun _ h => by cases h) (by kernel_rfl) (fun _ h => by cases h) peerNobody_row_tie rfl ⟨rfl, rfl⟩ (by kernel_rfl) rfl plain (by kernel_rfl)

end Go.Proofs.YtahhpefgeeofhaaGreatDoor.PN
