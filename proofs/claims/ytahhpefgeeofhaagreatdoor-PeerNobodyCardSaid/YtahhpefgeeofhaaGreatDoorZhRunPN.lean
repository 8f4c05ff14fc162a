/-
  PeerNobody, its run worked out: whatever the message and the seed, it answers true.
-/
import Derived.Test.YtahhpefgeeofhaaGreatDoorZhFun
import Derived.Test.YtahhpefgeeofhaaGreatDoorRows
import Derived.Stop.LaidErr
set_option linter.unusedVariables false
set_option linter.unusedSimpArgs false
set_option maxRecDepth 100000
namespace Go.Ab
open Go.Proofs Go.Proofs.YtahhpefgeeofhaaGreatDoor

/-! ### The two tables -/
def roundsZ : List Int := [1116352408, 1899447441, 3049323471, 3921009573, 961987163, 1508970993, 2453635748, 2870763221, 3624381080, 310598401, 607225278, 1426881987, 1925078388, 2162078206, 2614888103, 3248222580, 3835390401, 4022224774, 264347078, 604807628, 770255983, 1249150122, 1555081692, 1996064986, 2554220882, 2821834349, 2952996808, 3210313671, 3336571891, 3584528711, 113926993, 338241895, 666307205, 773529912, 1294757372, 1396182291, 1695183700, 1986661051, 2177026350, 2456956037, 2730485921, 2820302411, 3259730800, 3345764771, 3516065817, 3600352804, 4094571909, 275423344, 430227734, 506948616, 659060556, 883997877, 958139571, 1322822218, 1537002063, 1747873779, 1955562222, 2024104815, 2227730452, 2361852424, 2428436474, 2756734187, 3204031479, 3329325298]
def beginZ : List Int := [1779033703, 3144134277, 1013904242, 2773480762, 1359893119, 2600822924, 528734635, 1541459225]
def roundsD : List D := [.v (.int .u32 1116352408), .v (.int .u32 1899447441), .v (.int .u32 3049323471), .v (.int .u32 3921009573), .v (.int .u32 961987163), .v (.int .u32 1508970993), .v (.int .u32 2453635748), .v (.int .u32 2870763221), .v (.int .u32 3624381080), .v (.int .u32 310598401), .v (.int .u32 607225278), .v (.int .u32 1426881987), .v (.int .u32 1925078388), .v (.int .u32 2162078206), .v (.int .u32 2614888103), .v (.int .u32 3248222580), .v (.int .u32 3835390401), .v (.int .u32 4022224774), .v (.int .u32 264347078), .v (.int .u32 604807628), .v (.int .u32 770255983), .v (.int .u32 1249150122), .v (.int .u32 1555081692), .v (.int .u32 1996064986), .v (.int .u32 2554220882), .v (.int .u32 2821834349), .v (.int .u32 2952996808), .v (.int .u32 3210313671), .v (.int .u32 3336571891), .v (.int .u32 3584528711), .v (.int .u32 113926993), .v (.int .u32 338241895), .v (.int .u32 666307205), .v (.int .u32 773529912), .v (.int .u32 1294757372), .v (.int .u32 1396182291), .v (.int .u32 1695183700), .v (.int .u32 1986661051), .v (.int .u32 2177026350), .v (.int .u32 2456956037), .v (.int .u32 2730485921), .v (.int .u32 2820302411), .v (.int .u32 3259730800), .v (.int .u32 3345764771), .v (.int .u32 3516065817), .v (.int .u32 3600352804), .v (.int .u32 4094571909), .v (.int .u32 275423344), .v (.int .u32 430227734), .v (.int .u32 506948616), .v (.int .u32 659060556), .v (.int .u32 883997877), .v (.int .u32 958139571), .v (.int .u32 1322822218), .v (.int .u32 1537002063), .v (.int .u32 1747873779), .v (.int .u32 1955562222), .v (.int .u32 2024104815), .v (.int .u32 2227730452), .v (.int .u32 2361852424), .v (.int .u32 2428436474), .v (.int .u32 2756734187), .v (.int .u32 3204031479), .v (.int .u32 3329325298)]
def beginD : List D := [.v (.int .u32 1779033703), .v (.int .u32 3144134277), .v (.int .u32 1013904242), .v (.int .u32 2773480762), .v (.int .u32 1359893119), .v (.int .u32 2600822924), .v (.int .u32 528734635), .v (.int .u32 1541459225)]
noncomputable def tb (i : Nat) : Option (List D) := bif Nat.beq i 0 then some beginD else bif Nat.beq i 1 then some roundsD else none
def lm (b : Nat) : Nat := if b = 0 then 8 else if b = 1 then 64 else 0

theorem roundsD_eq : roundsD = (roundsZ.map (Value.int .u32)).map D.v := rfl
theorem beginD_eq : beginD = (beginZ.map (Value.int .u32)).map D.v := rfl

theorem gBegin : Tryz.prog.globalNamed "stemma/sha.begin" = some 0 := by kernel_rfl
theorem gRounds : Tryz.prog.globalNamed "stemma/sha.rounds" = some 1 := by kernel_rfl

theorem table_at {W : World} {name : String} {g : Nat} {zs : List Int} {lm : Nat → Nat} (h : Lib.TabIs Tryz.prog W name .u32 zs) (hg : Tryz.prog.globalNamed name = some g) (hlm : zs.length ≤ lm g) :
    Rel (g0 lm) W (.elem ((zs.map (Value.int .u32)).map D.v) 0) (.pointer (some ⟨g, 0, none⟩)) := by
  simp only [Rel]
  refine ⟨g, 0, zs.map (Value.int .u32), rfl, ⟨by simpa [g0] using hlm, fun i x hx => ?_⟩, relL_map (by simp [noAgg])⟩
  have hi : i < zs.length := by
    have := (List.getElem?_eq_some_iff.1 hx).1
    simpa using this
  have := h.cell hg i hi
  rw [Nat.zero_add, this]
  rw [List.getElem?_map, List.getElem?_eq_getElem hi] at hx
  simp only [Option.map_some, Option.some.injEq] at hx
  rw [← hx]
  simp [List.getD, hi]

theorem tab_start {W : World} (h0 : Lib.TabIs Tryz.prog W "stemma/sha.begin" .u32 beginZ) (h1 : Lib.TabIs Tryz.prog W "stemma/sha.rounds" .u32 roundsZ) : Tab tb (g0 lm) W := fun i cs h => by
  unfold tb at h
  cases hb : Nat.beq i 0 with
  | true =>
    rw [hb] at h
    cases h
    rw [Nat.eq_of_beq_eq_true hb, beginD_eq]
    exact table_at h0 gBegin (by decide)
  | false =>
    rw [hb] at h
    cases hc : Nat.beq i 1 with
    | true =>
      rw [hc] at h
      cases h
      rw [Nat.eq_of_beq_eq_true hc, roundsD_eq]
      exact table_at h1 gRounds (by decide)
    | false => rw [hc] at h; cases h

theorem cell_lt {W : World} {b o : Nat} {v : Value} (h : W.cell? ⟨b, o, none⟩ = some v) : b < W.heap.size := by
  apply Classical.byContradiction
  intro hn
  have : W.heap[b]? = none := Array.getElem?_eq_none (by omega)
  simp [World.cell?, this] at h

theorem lm_start {W : World} (h1 : Lib.TabIs Tryz.prog W "stemma/sha.rounds" .u32 roundsZ) (b : Nat) (hb : W.heap.size ≤ b) : lm b = 0 := by
  have := cell_lt (h1.cell gRounds 0 (by decide))
  unfold lm
  rw [if_neg (by omega), if_neg (by omega)]

/-! ### The run -/
noncomputable def isTrue (d : D) : Bool := kV d (fun v => kB v (fun b => b) false) false
theorem isTrue_spec {d : D} (h : isTrue d = true) : d = .v (.bool true) := by
  rcases kV_eq h with h1 | ⟨v, rfl, h1⟩
  · cases h1
  rcases kB_eq h1 with h2 | ⟨b, rfl, h2⟩
  · cases h2
  rw [show b = true from h2]

theorem pn_run (x0 x1 x2 x3 s : Value) : callK Tryz.prog ft tb 100 (.fn 3) [.agg [.opq x0, .opq x1, .opq x2, .opq x3], .opq s] Tr.e 1 (fun d _ _ _ => isTrue d) = true := by kernel_rfl

theorem pn_mixed : Tryz.prog.follows .mixedOrders = true := by kernel_rfl

theorem pn_calls {W : World} (h0 : Lib.TabIs Tryz.prog W "stemma/sha.begin" .u32 beginZ) (h1 : Lib.TabIs Tryz.prog W "stemma/sha.rounds" .u32 roundsZ) {x0 x1 x2 x3 s : Value}
    (o0 : x0.oneCell' = true) (o1 : x1.oneCell' = true) (o2 : x2.oneCell' = true) (o3 : x3.oneCell' = true) (os : s.oneCell' = true) :
    Calls Tryz.prog 3 #[.agg #[x0, x1, x2, x3], s] W fun e w' => e = .returned (.bool true) ∧ RowKit.Below W.heap.size W w' := by
  have ha : RelL (g0 lm) W [.agg [.opq x0, .opq x1, .opq x2, .opq x3], .opq s] [.agg #[x0, x1, x2, x3], s] := by
    simp only [RelL, Rel]
    exact ⟨_, _, rfl, ⟨[x0, x1, x2, x3], rfl, _, _, rfl, ⟨rfl, o0⟩, _, _, rfl, ⟨rfl, o1⟩, _, _, rfl, ⟨rfl, o2⟩, _, _, rfl, ⟨rfl, o3⟩, rfl⟩, _, _, rfl, ⟨rfl, os⟩, rfl⟩
  have := calls_of_run pn_mixed ftok (n := 100) (f := 3) (F := isTrue) (tab_start h0 h1) (lm_start h1) ha (pn_run x0 x1 x2 x3 s)
  refine this.mono fun e w' h => ?_
  obtain ⟨d, v, g', hF, he, hR, hB⟩ := h
  obtain rfl := isTrue_spec hF
  obtain rfl := rel_v hR
  exact ⟨he, hB⟩

end Go.Ab
