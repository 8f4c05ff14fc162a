/-
  One operation, for the kernel.
-/
import Derived.Test.YtahhpefgeeofhaaGreatDoorZgInt
set_option linter.unusedSimpArgs false
set_option linter.unusedVariables false
set_option linter.constructorNameAsVariable false
namespace Go.Ab

noncomputable def kConst (v : Value) (F : D → Bool) (w : Bool) : Bool :=
  Value.rec (motive_1 := fun _ => Bool) (motive_2 := fun _ => Bool) (motive_3 := fun _ => Bool) (fun _ => w) (fun _ _ => w) (fun _ _ => w) (fun _ _ _ => w) (fun _ => w) (fun _ => w) (fun _ _ _ => w) (fun _ => w) (fun _ => w) (fun _ _ _ _ _ => w) w (fun _ _ _ => w) w (fun _ _ => kO (D.ofV v) F) (fun _ _ => w) (fun _ _ => w) w (fun _ _ _ _ => w) v

noncomputable def kEv (tb : Nat → Option (List D)) (et : ET) (x : Operand) (F : D → Bool) : Bool :=
  Operand.rec (motive := fun _ => Bool) (fun i => kO (et.at i) F) (fun v => kConst v F (F (.v v))) (fun g => kO (tb g) fun cs => F (.elem cs 0)) (fun f => F (.func (.func f) [] [])) x
theorem kEv_eq {tb : Nat → Option (List D)} {et : ET} {x : Operand} {F : D → Bool} (h : kEv tb et x F = true) : ∃ d, evT tb et x = some d ∧ F d = true := by
  cases x with
  | tmp i =>
    obtain ⟨d, h1, h2⟩ := kO_eq (show kO (et.at i) F = true from h)
    exact ⟨d, by rw [← h1, ET.at_eq]; rfl, h2⟩
  | const v =>
    cases v with
    | agg cs => exact kO_eq (show kO (D.ofV (.agg cs)) F = true from h)
    | _ => exact ⟨_, rfl, h⟩
  | global g =>
    obtain ⟨cs, h1, h2⟩ := kO_eq (show kO (tb g) (fun cs => F (.elem cs 0)) = true from h)
    exact ⟨.elem cs 0, by simp only [evT, h1], h2⟩
  | func f => exact ⟨_, rfl, h⟩

noncomputable def evR (tb : Nat → Option (List D)) (et : ET) (x : Operand) : Option D :=
  Operand.rec (motive := fun _ => Option D) (fun i => et.at i) (fun v => D.ofV v) (fun g => evT tb et (.global g)) (fun f => some (.func (.func f) [] [])) x
theorem evR_eq (tb : Nat → Option (List D)) (et : ET) : evR tb et = evT tb et := by
  funext x
  cases x with
  | tmp i => exact ET.at_eq et i
  | _ => rfl

structure Sx where
  et : ET
  t : Tr
  cur : Nat
  nm : Nm
  K : D → Tr → Nat → List Nm → Rd → Bool

/-- An operation (no call of a function) goes, and what comes next with it. -/
def Goes (P : Program) (tb : Nat → Option (List D)) (s : Sx) (op : Op) : Prop :=
  ∃ d ul rl, opH P (evT tb s.et) s.t.get s.nm op = some (d, ul, rl) ∧ smallUp ul = true ∧ s.K d (s.t.ups ul) s.cur (ul.map (·.1)) (.of rl) = true

noncomputable def kSlow3 (P : Program) (tb : Nat → Option (List D)) (s : Sx) (d : D) (ul : Up) (rl : List Nm) : Bool :=
  br (smallUp ul) (forceD d fun d => forceUp ul fun ul => kUps ul s.t fun t' => kNames ul fun wl => s.K d t' s.cur wl (.of rl)) false
noncomputable def kSlow (P : Program) (tb : Nat → Option (List D)) (s : Sx) (op : Op) : Bool :=
  kO (opR P (evR tb s.et) s.t.at s.nm op) fun r => kP r fun d q => kP q fun ul rl => kSlow3 P tb s d ul rl
theorem kSlow_goes {P : Program} {tb : Nat → Option (List D)} {s : Sx} {op : Op} (h : kSlow P tb s op = true) : Goes P tb s op := by
  obtain ⟨⟨d, ul, rl⟩, h1, h2⟩ := kO_eq h
  rw [opR_eq, evR_eq, Tr.at_fun] at h1
  have h3 : kSlow3 P tb s d ul rl = true := h2
  unfold kSlow3 at h3
  rw [br_eq] at h3
  cases hs : smallUp ul with
  | false => rw [hs] at h3; cases h3
  | true =>
    rw [hs, cond_true, forceD_eq, forceUp_eq, kUps_eq, kNames_eq] at h3
    exact ⟨d, ul, rl, h1, hs, h3⟩

theorem Goes.pure {P : Program} {tb : Nat → Option (List D)} {s : Sx} {op : Op} {d : D} {rl : List Nm} (h : opH P (evT tb s.et) s.t.get s.nm op = some (d, [], rl)) (hK : s.K d s.t s.cur [] (.of rl) = true) : Goes P tb s op :=
  ⟨d, [], rl, h, rfl, hK⟩

noncomputable def kDone (P : Program) (tb : Nat → Option (List D)) (s : Sx) (d : D) : Bool := s.K d s.t s.cur [] (.of [])

noncomputable def kMove (P : Program) (tb : Nat → Option (List D)) (s : Sx) (x : Operand) : Bool := kEv tb s.et x fun d => kDone P tb s d

noncomputable def kPick (P : Program) (tb : Nat → Option (List D)) (s : Sx) (c a b : Operand) : Bool := kEv tb s.et c fun d => kV d (fun v => kB v (fun t => br t (kMove P tb s a) (kMove P tb s b)) false) false
theorem kPick_goes {P : Program} {tb : Nat → Option (List D)} {s : Sx} {c a b : Operand} (h : kPick P tb s c a b = true) : Goes P tb s (.pick c a b) := by
  obtain ⟨d, hd, h1⟩ := kEv_eq h
  rcases kV_eq h1 with h2 | ⟨v, rfl, h2⟩
  · cases h2
  rcases kB_eq h2 with h3 | ⟨t, rfl, h3⟩
  · cases h3
  rw [br_eq] at h3
  cases t with
  | true =>
    obtain ⟨d, he, hK⟩ := kEv_eq (show kEv tb s.et a (fun d => kDone P tb s d) = true from h3)
    exact .pure (by simp [opH, opP, hd, he, pureH]) hK
  | false =>
    obtain ⟨d, he, hK⟩ := kEv_eq (show kEv tb s.et b (fun d => kDone P tb s d) = true from h3)
    exact .pure (by simp [opH, opP, hd, he, pureH]) hK

/-! Integers -/
noncomputable def kBinZ (P : Program) (tb : Nat → Option (List D)) (s : Sx) (op : BinOp) (x y : Operand) (z : Bool) : Bool :=
  kEv tb s.et x fun dx => kEv tb s.et y fun dy => kNat dx (fun k a => kNat dy (fun k' b => natK op k a k' b (fun v => kDone P tb s (.v v)) z) z) z
noncomputable def kBin (P : Program) (tb : Nat → Option (List D)) (s : Sx) (op : BinOp) (t : TypeId) (x y : Operand) (t2 : TypeId) : Bool := kBinZ P tb s op x y (kSlow P tb s (.binOp op t x y t2))
theorem kBin_goes {P : Program} {tb : Nat → Option (List D)} {s : Sx} {op : BinOp} {t t2 : TypeId} {x y : Operand} (h : kBin P tb s op t x y t2 = true) : Goes P tb s (.binOp op t x y t2) := by
  obtain ⟨dx, hx, h1⟩ := kEv_eq h
  obtain ⟨dy, hy, h2⟩ := kEv_eq h1
  rcases kNat_eq h2 with h3 | ⟨k, a, rfl, h3⟩
  · exact kSlow_goes h3
  rcases kNat_eq h3 with h4 | ⟨k', b, rfl, h4⟩
  · exact kSlow_goes h4
  rcases natK_eq h4 with h5 | ⟨v, hv, hK⟩
  · exact kSlow_goes h5
  have hv' : intV op k (a : Int) k' (b : Int) = some v := hv
  exact .pure (d := .v v) (rl := []) (by simp [opH, hx, hy, binH, nilish, binD, hv']) hK

/-! Parts of cells -/
def kCls (P : Program) (t : TypeId) : Nat := if P.underlying t = none ∨ P.info? t = none then 0 else if aggD P t then 2 else 1
noncomputable def kRow (n : Nat) (cs : List D) (off : Nat) (F : D → Bool) : Bool :=
  br (Nat.ble (Nat.add off n) cs.length) (kDrop cs off fun l => kTake l n fun l => F (.agg l)) false
noncomputable def kPart (P : Program) (t : TypeId) (cs : List D) (off : Nat) (F : D → Bool) : Bool :=
  Nat.rec (motive := fun _ => Bool) false (fun m _ => Nat.rec (motive := fun _ => Bool) (kNth cs off F) (fun _ _ => kRow (szD P t) cs off F) m) (kCls P t)
theorem kPart_eq {P : Program} {t : TypeId} {cs : List D} {off : Nat} {F : D → Bool} (h : kPart P t cs off F = true) : ∃ d, partD P t cs off = some d ∧ F d = true := by
  unfold kPart at h
  unfold partD
  unfold kCls at h
  split at h
  · cases h
  · rename_i hn
    rw [if_neg hn]
    split at h
    · rename_i ha
      rw [if_pos ha]
      have h' : kRow (szD P t) cs off F = true := h
      unfold kRow at h'
      rw [br_eq] at h'
      cases hb : Nat.ble (Nat.add off (szD P t)) cs.length with
      | false => rw [hb] at h'; cases h'
      | true =>
        rw [hb, cond_true, kDrop_eq, kTake_eq] at h'
        have hle : off + szD P t ≤ cs.length := Nat.le_of_ble_eq_true hb
        exact ⟨_, by rw [if_pos hle], h'⟩
    · rename_i ha
      rw [if_neg ha]
      exact kNth_eq (show kNth cs off F = true from h)

noncomputable def kLoad (P : Program) (tb : Nat → Option (List D)) (s : Sx) (t : TypeId) (x : Operand) : Bool :=
  kEv tb s.et x fun d => kPl d (fun cs o => kPart P t cs o (fun d => kDone P tb s d)) (fun n o => kCells (s.t.at n) (fun cs => kPart P t cs o (fun d => s.K d s.t s.cur [] (.of [n]))) false) false
theorem kLoad_goes {P : Program} {tb : Nat → Option (List D)} {s : Sx} {t : TypeId} {x : Operand} (h : kLoad P tb s t x = true) : Goes P tb s (.load t x) := by
  obtain ⟨d, hd, h1⟩ := kEv_eq h
  rcases kPl_eq h1 with h2 | ⟨cs, o, rfl, h2⟩ | ⟨n, o, rfl, h2⟩
  · cases h2
  · obtain ⟨d, hp, hK⟩ := kPart_eq h2
    exact .pure (by simp [opH, opP, hd, hp, pureH]) hK
  · rcases kCells_eq h2 with h3 | ⟨cs, hc, h3⟩
    · cases h3
    obtain ⟨d, hp, hK⟩ := kPart_eq h3
    rw [Tr.at_eq] at hc
    exact .pure (by simp [opH, hd, hc, hp]) hK

def kOne (P : Program) (t : TypeId) : Bool := decide (P.info? t ≠ none ∧ szD P t = 1)
noncomputable def kSm (n : Nat) : Bool := Nat.ble (Nat.succ (Nat.succ n)) 18446744073709551616
noncomputable def kStoreZ (P : Program) (tb : Nat → Option (List D)) (s : Sx) (t : TypeId) (x y : Operand) (z : Bool) : Bool :=
  kEv tb s.et x fun dx => kEv tb s.et y fun dy => kPl dx (fun _ _ => z) (fun n o => kV dy (fun v => kCells (s.t.at n) (fun cs =>
    br (kOne P t) (br (D.isCell (.v v)) (br (kSm n) (kSet cs o (.v v) fun cs' => Tr.kset TF s.t n (some (.cells cs')) fun t' => s.K D.undef t' s.cur [n] (.of [n])) false) false) z) false) z) z
noncomputable def kStore (P : Program) (tb : Nat → Option (List D)) (s : Sx) (t : TypeId) (x y : Operand) : Bool := kStoreZ P tb s t x y (kSlow P tb s (.store t x y))
theorem kStore_goes {P : Program} {tb : Nat → Option (List D)} {s : Sx} {t : TypeId} {x y : Operand} (h : kStore P tb s t x y = true) : Goes P tb s (.store t x y) := by
  obtain ⟨dx, hx, h1⟩ := kEv_eq h
  obtain ⟨dy, hy, h2⟩ := kEv_eq h1
  rcases kPl_eq h2 with h3 | ⟨_, _, _, h3⟩ | ⟨n, o, rfl, h3⟩
  · exact kSlow_goes h3
  · exact kSlow_goes h3
  rcases kV_eq h3 with h4 | ⟨v, rfl, h4⟩
  · exact kSlow_goes h4
  rcases kCells_eq h4 with h5 | ⟨cs, hc, h5⟩
  · cases h5
  rcases br_or h5 with h6 | ⟨ho, h6⟩
  · exact kSlow_goes h6
  rcases br_or h6 with h7 | ⟨hi, h7⟩
  · cases h7
  rcases br_or h7 with h8 | ⟨hsm, h8⟩
  · cases h8
  obtain ⟨hlt, h9⟩ := kSet_eq h8
  rw [Tr.kset_eq] at h9
  rw [Tr.at_eq] at hc
  have ho' := of_decide_eq_true ho
  refine ⟨D.undef, [(n, some (.cells (cs.take o ++ [D.v v] ++ cs.drop (o + 1))))], [n], ?_, ?_, h9⟩
  · have h4 : o + 1 ≤ cs.length := hlt
    simp only [opH, hx, hy, hc, D.cells, List.length_cons, List.length_nil, List.all_cons, List.all_nil, hi, spliceD]
    rw [if_pos ⟨ho'.1, by rw [ho'.2], h4, rfl⟩]
  · have : kSm n = (n + 1).blt (2 ^ 64) := rfl
    simp only [smallUp, ← this, hsm, Bool.and_self]

def kSlE (P : Program) (t : TypeId) : Nat := match P.underlying t with | some (.slice e) => if P.info? e = none then 0 else szD P e + 1 | _ => 0
def kArN (P : Program) (t : TypeId) : Nat := match P.underlying t with | some (.array n e) => if P.info? e = none then 0 else n + 1 | _ => 0
def kArS (P : Program) (t : TypeId) : Nat := match P.underlying t with | some (.array n e) => szD P e | _ => 0
noncomputable def kIxZ (P : Program) (tb : Nat → Option (List D)) (s : Sx) (t : TypeId) (x i : Operand) (z : Bool) : Bool :=
  kEv tb s.et x fun dx => kEv tb s.et i fun di => kNat di (fun _ j => kSl dx (fun k o off len _ => br (Nat.beq (kSlE P t) (Nat.succ k)) (br (Nat.ble (Nat.succ j) len) (kN (Nat.add off (Nat.mul j k)) fun p => kDone P tb s (.ptr o p)) false) false)
    (kPl dx (fun cs o => br (Nat.ble (Nat.succ (Nat.succ j)) (kArN P t)) (kN (Nat.add o (Nat.mul j (kArS P t))) fun p => kDone P tb s (.elem cs p)) z) (fun n o => br (Nat.ble (Nat.succ (Nat.succ j)) (kArN P t)) (kN (Nat.add o (Nat.mul j (kArS P t))) fun p => kDone P tb s (.ptr n p)) z) z)) z
noncomputable def kIx (P : Program) (tb : Nat → Option (List D)) (s : Sx) (t : TypeId) (x i : Operand) : Bool := kIxZ P tb s t x i (kSlow P tb s (.indexAddr t x i))

theorem ixD_nat {k : IntKind} {j n : Nat} (h : j < n) : ixD (.v (.int k (.ofNat j))) n = some j := by
  unfold ixD
  simp only [Int.ofNat_eq_natCast]
  rw [if_pos ⟨Int.natCast_nonneg _, by omega⟩]
  simp

theorem kArN_eq {P : Program} {t : TypeId} {j : Nat} (h : Nat.ble (Nat.succ (Nat.succ j)) (kArN P t) = true) : ∃ n e, P.underlying t = some (.array n e) ∧ P.info? e ≠ none ∧ j < n ∧ kArS P t = szD P e := by
  have hle := Nat.le_of_ble_eq_true h
  unfold kArN at hle
  unfold kArS
  split at hle
  · rename_i n e hu
    split at hle
    · omega
    · rename_i hi
      exact ⟨n, e, hu, hi, by omega, rfl⟩
  · omega

theorem kIx_goes {P : Program} {tb : Nat → Option (List D)} {s : Sx} {t : TypeId} {x i : Operand} (h : kIx P tb s t x i = true) : Goes P tb s (.indexAddr t x i) := by
  obtain ⟨dx, hx, h1⟩ := kEv_eq h
  obtain ⟨di, hi, h2⟩ := kEv_eq h1
  rcases kNat_eq h2 with h3 | ⟨ik, j, rfl, h3⟩
  · exact kSlow_goes h3
  rcases kSl_eq h3 with h4 | ⟨k, o, off, len, cap, rfl, h4⟩
  · rcases kPl_eq h4 with h5 | ⟨cs, o, rfl, h5⟩ | ⟨n, o, rfl, h5⟩
    · exact kSlow_goes h5
    · rcases br_or h5 with h6 | ⟨hb, h6⟩
      · exact kSlow_goes h6
      rw [kN_eq] at h6
      obtain ⟨n, e, hu, hne, hj, hs⟩ := kArN_eq hb
      rw [hs] at h6
      refine .pure (d := .elem cs (o + j * szD P e)) (rl := []) ?_ h6
      simp only [opH, hx, hi, indexAddrD, hu, hne, if_false, ixD_nat hj, Option.map_some, pureH]
    · rcases br_or h5 with h6 | ⟨hb, h6⟩
      · exact kSlow_goes h6
      rw [kN_eq] at h6
      obtain ⟨n', e, hu, hne, hj, hs⟩ := kArN_eq hb
      rw [hs] at h6
      refine .pure (d := .ptr n (o + j * szD P e)) (rl := []) ?_ h6
      simp only [opH, hx, hi, indexAddrD, hu, hne, if_false, ixD_nat hj, Option.map_some, pureH]
  · rcases br_or h4 with h5 | ⟨hb, h5⟩
    · cases h5
    rcases br_or h5 with h6 | ⟨hl, h6⟩
    · cases h6
    rw [kN_eq] at h6
    have hk := Nat.eq_of_beq_eq_true hb
    have hlt : j < len := Nat.le_of_ble_eq_true hl
    unfold kSlE at hk
    split at hk
    · rename_i e hu
      split at hk
      · cases hk
      · rename_i hne
        have hk' : k = szD P e := (Nat.succ.inj hk).symm
        refine .pure (d := .ptr o (off + j * k)) (rl := []) ?_ h6
        simp only [opH, hx, hi, hu]
        rw [if_neg (fun hh => hh.elim hne (fun hh => hh hk')), ixD_nat hlt]
    · cases hk

noncomputable def kFieldAddr (P : Program) (tb : Nat → Option (List D)) (s : Sx) (t : TypeId) (x : Operand) (f : Nat) : Bool :=
  kO (fieldOff P t f) fun p => kP p fun k _ => kEv tb s.et x fun d => kPl d (fun cs o => kN (Nat.add o k) fun p => kDone P tb s (.elem cs p)) (fun n o => kN (Nat.add o k) fun p => kDone P tb s (.ptr n p)) false
theorem kFieldAddr_goes {P : Program} {tb : Nat → Option (List D)} {s : Sx} {t : TypeId} {x : Operand} {f : Nat} (h : kFieldAddr P tb s t x f = true) : Goes P tb s (.fieldAddr t x f) := by
  obtain ⟨⟨k, ft⟩, hf, h1⟩ := kO_eq h
  obtain ⟨d, hx, h2⟩ := kEv_eq (show kEv tb s.et x _ = true from h1)
  rcases kPl_eq h2 with h3 | ⟨cs, o, rfl, h3⟩ | ⟨n, o, rfl, h3⟩
  · cases h3
  · rw [kN_eq] at h3
    exact .pure (d := .elem cs (o + k)) (rl := []) (by simp [opH, opP, hx, hf, pureH]) h3
  · rw [kN_eq] at h3
    exact .pure (d := .ptr n (o + k)) (rl := []) (by simp [opH, opP, hx, hf, pureH]) h3

noncomputable def kNilZ (P : Program) (tb : Nat → Option (List D)) (s : Sx) (x : Operand) (z : Bool) : Bool := kEv tb s.et x fun d => kPl d (fun cs o => kDone P tb s (.elem cs o)) (fun n o => kDone P tb s (.ptr n o)) z
noncomputable def kNil (P : Program) (tb : Nat → Option (List D)) (s : Sx) (x : Operand) : Bool := kNilZ P tb s x (kSlow P tb s (.nilCheck x))
theorem kNil_goes {P : Program} {tb : Nat → Option (List D)} {s : Sx} {x : Operand} (h : kNil P tb s x = true) : Goes P tb s (.nilCheck x) := by
  obtain ⟨d, hx, h2⟩ := kEv_eq h
  rcases kPl_eq h2 with h3 | ⟨cs, o, rfl, h3⟩ | ⟨n, o, rfl, h3⟩
  · exact kSlow_goes h3
  · exact .pure (d := .elem cs o) (rl := []) (by simp [opH, opP, hx, pureH]) h3
  · exact .pure (d := .ptr n o) (rl := []) (by simp [opH, opP, hx, pureH]) h3

noncomputable def kTup (d : D) (F : List D → Bool) : Bool :=
  D.rec (motive_1 := fun _ => Bool) (motive_2 := fun _ => Bool) (fun _ => false) (fun _ _ => false) (fun ds _ => F ds) (fun _ _ _ => false) (fun _ _ _ => false) (fun _ _ _ => false) (fun _ _ => false) (fun _ _ _ _ _ => false) (fun _ => false) (fun _ _ _ _ _ => false) (fun _ => false) (fun _ => false) false (fun _ _ _ _ => false) d
theorem kTup_eq {d : D} {F : List D → Bool} (h : kTup d F = true) : ∃ ds, d = .tup ds ∧ F ds = true := by
  cases d <;> first | exact ⟨_, rfl, h⟩ | cases h
noncomputable def kExtract (P : Program) (tb : Nat → Option (List D)) (s : Sx) (x : Operand) (i : Nat) : Bool := kEv tb s.et x fun d => kTup d fun ds => kNth ds i fun d => kDone P tb s d
theorem kExtract_goes {P : Program} {tb : Nat → Option (List D)} {s : Sx} {x : Operand} {i : Nat} (h : kExtract P tb s x i = true) : Goes P tb s (.extract x i) := by
  obtain ⟨d, hx, h2⟩ := kEv_eq h
  obtain ⟨ds, rfl, h3⟩ := kTup_eq h2
  obtain ⟨d, hn, h4⟩ := kNth_eq h3
  exact .pure (d := d) (rl := []) (by simp [opH, opP, hx, hn, pureH]) h4

theorem kMove_goes {P : Program} {tb : Nat → Option (List D)} {s : Sx} {x : Operand} (h : kMove P tb s x = true) : Goes P tb s (.move x) ∧ Goes P tb s (.assign x) := by
  obtain ⟨d, hx, hK⟩ := kEv_eq h
  exact ⟨.pure (d := d) (rl := []) (by simp [opH, opP, hx, pureH]) hK, .pure (d := d) (rl := []) (by simp [opH, opP, hx, pureH]) hK⟩

/-! Literals of slices, part after part -/
noncomputable def kFlat (d : D) (x z : Bool) : Bool :=
  D.rec (motive_1 := fun _ => Bool) (motive_2 := fun _ => Bool) (fun _ => x) (fun _ _ => z) (fun _ _ => x) (fun _ _ _ => x) (fun _ _ _ => x) (fun _ _ _ => x) (fun _ _ => x) (fun _ _ _ _ _ => x) (fun _ => x) (fun _ _ _ _ _ => x) (fun _ => x) (fun _ => x) z (fun _ _ _ _ => z) d
theorem kFlat_eq {d : D} {x z : Bool} (h : kFlat d x z = true) : z = true ∨ d.cells = [d] ∧ x = true := by
  cases d <;> first | exact .inr ⟨rfl, h⟩ | exact .inl h
noncomputable def kSeqParts (tb : Nat → Option (List D)) (et : ET) (z : Bool) (l : List (Nat × Operand)) : Nat → (List D → Bool) → Bool :=
  List.rec (motive := fun _ => Nat → (List D → Bool) → Bool) (fun _ K => K []) (fun p _ ih i K => kP p fun j x => br (Nat.beq j i) (kEv tb et x fun d => kFlat d (ih (Nat.succ i) fun ds => K (d :: ds)) z) z) l

theorem fillD_seq {k : Nat → Option (Nat × Nat)} (hk : ∀ j, k j = some (j, 1)) : ∀ {ps : List (Nat × D)} {i : Nat} {ds pre post : List D}, pre.length = i → ps.map (·.2) = ds → (∀ d ∈ ds, d.cells = [d]) → (∀ q p, ps[q]? = some p → p.1 = i + q) → post.length = ds.length →
    fillD k (pre ++ post) ps = some (pre ++ ds)
  | [], i, ds, pre, post, h1, h2, h3, h4, h5 => by
    cases h2
    have : post = [] := by cases post with | nil => rfl | cons _ _ => cases h5
    simp [fillD, this]
  | (j, d) :: ps, i, ds, pre, post, h1, h2, h3, h4, h5 => by
    cases h2
    have hj : j = i := by simpa using h4 0 (j, d) rfl
    subst hj
    cases post with
    | nil => cases h5
    | cons c post =>
      have hd := h3 d (by simp)
      simp only [fillD, hk, hd, List.length_cons, List.length_nil]
      rw [if_neg (by simp only [List.length_append, List.length_cons]; omega)]
      have hs : spliceD (pre ++ c :: post) [d] j = (pre ++ [d]) ++ post := by
        unfold spliceD
        rw [← h1, List.take_left', List.drop_append]
        · simp
        · rfl
      rw [hs]
      have := fillD_seq hk (ps := ps) (i := j + 1) (ds := ps.map (·.2)) (pre := pre ++ [d]) (post := post) (by simp [h1]) rfl (fun d hd => h3 d (by simp [hd]))
        (fun q p hq => by have := h4 (q + 1) p (by simpa using hq); omega) (by simpa using h5)
      rw [this]
      simp

theorem kSeqParts_eq {tb : Nat → Option (List D)} {et : ET} {z : Bool} : ∀ {l : List (Nat × Operand)} {i : Nat} {K : List D → Bool}, kSeqParts tb et z l i K = true → z = true ∨
    ∃ ps ds, partsD (evT tb et) l = some ps ∧ ps.map (·.2) = ds ∧ (∀ d ∈ ds, d.cells = [d]) ∧ (∀ q p, ps[q]? = some p → p.1 = i + q) ∧ K ds = true
  | [], i, K, h => .inr ⟨[], [], rfl, rfl, by simp, by simp, h⟩
  | (j, x) :: l, i, K, h => by
    rcases br_or (show br (Nat.beq j i) (kEv tb et x fun d => kFlat d (kSeqParts tb et z l (i + 1) fun ds => K (d :: ds)) z) z = true from h) with h1 | ⟨hj, h1⟩
    · exact .inl h1
    obtain ⟨d, hd, h2⟩ := kEv_eq h1
    rcases kFlat_eq h2 with h3 | ⟨hc, h3⟩
    · exact .inl h3
    rcases kSeqParts_eq h3 with h4 | ⟨ps, ds, h4, h5, h6, h7, h8⟩
    · exact .inl h4
    refine .inr ⟨(j, d) :: ps, d :: ds, by simp only [partsD, hd, h4], by simp [h5], ?_, ?_, h8⟩
    · intro e he
      rcases List.mem_cons.mp he with rfl | he
      · exact hc
      · exact h6 e he
    · intro q p hq
      have hji := Nat.eq_of_beq_eq_true hj
      cases q with
      | zero => simp at hq; subst hq; simpa using hji
      | succ q => have := h7 q p (by simpa using hq); omega

/-- Are a slice's elements one cell each? -/
def kEl1 (P : Program) (t : TypeId) : Bool := match elemD P t with | some (_, i, zs) => Nat.beq i.size 1 && Nat.beq zs.length 1 | none => false
noncomputable def kBuildSliceZ (P : Program) (tb : Nat → Option (List D)) (s : Sx) (t : TypeId) (len : Nat) (parts : Array (Nat × Operand)) (z : Bool) : Bool :=
  br (kEl1 P t) (br (Nat.ble len 1024) (br (kSm s.nm) (kSeqParts tb s.et z parts.toList 0 fun ds => br (Nat.beq ds.length len) (kN s.nm fun nm => Tr.kset TF s.t nm (some (.cells ds)) fun t' => s.K (.sl 1 nm 0 len (some len)) t' s.cur [nm] (.of [])) z) z) z) z
noncomputable def kBuildSlice (P : Program) (tb : Nat → Option (List D)) (s : Sx) (t : TypeId) (len : Nat) (parts : Array (Nat × Operand)) : Bool := kBuildSliceZ P tb s t len parts (kSlow P tb s (.buildSlice t len parts))
theorem kBuildSlice_goes {P : Program} {tb : Nat → Option (List D)} {s : Sx} {t : TypeId} {len : Nat} {parts : Array (Nat × Operand)} (h : kBuildSlice P tb s t len parts = true) : Goes P tb s (.buildSlice t len parts) := by
  rcases br_or h with h1 | ⟨he, h1⟩
  · exact kSlow_goes h1
  rcases br_or h1 with h2 | ⟨hl, h2⟩
  · exact kSlow_goes h2
  rcases br_or h2 with h3 | ⟨hsm, h3⟩
  · exact kSlow_goes h3
  rcases kSeqParts_eq h3 with h4 | ⟨ps, ds, hp, hds, hc, hi, h4⟩
  · exact kSlow_goes h4
  rcases br_or h4 with h5 | ⟨hdl, h5⟩
  · exact kSlow_goes h5
  rw [kN_eq, Tr.kset_eq] at h5
  have hlen := Nat.eq_of_beq_eq_true hdl
  have hle := Nat.le_of_ble_eq_true hl
  unfold kEl1 at he
  split at he
  · rename_i e i zs hel
    simp only [Bool.and_eq_true] at he
    have h1' := Nat.eq_of_beq_eq_true he.1
    have h2' := Nat.eq_of_beq_eq_true he.2
    have hflat : (List.replicate len zs).flatten.length = ds.length := by
      rw [List.length_flatten, List.map_replicate, h2', List.sum_replicate_nat, hlen]; simp
    have hfill := fillD_seq (k := fun j => some (j * 1, 1)) (fun j => by simp) (ps := ps) (i := 0) (ds := ds) (pre := []) (post := (List.replicate len zs).flatten) rfl hds hc (fun q p hq => by simpa using hi q p hq) hflat
    refine ⟨.sl 1 s.nm 0 len (some len), [(s.nm, some (.cells ds))], [], ?_, ?_, h5⟩
    · simp only [opH, hp, buildSliceD, hel, h1']
      rw [if_pos (by omega)]
      simp only [List.nil_append] at hfill
      rw [hfill]
      simp only [hlen, Nat.mul_one, if_true]
    · have : kSm s.nm = (s.nm + 1).blt (2 ^ 64) := rfl
      simp only [smallUp, ← this, hsm, Bool.and_self]
  · cases he

/-! ### Calls -/

abbrev CallK := Tgt → List D → Tr → Nat → (D → Tr → Nat → List Nm → Bool) → Bool
def KOK (CK : CallK) (CT : CallT) : Prop := ∀ tg ds t cur F, CK tg ds t cur F = true → ∃ d t' c' wl, CT tg ds t cur = some (d, t', c', wl) ∧ F d t' c' wl = true

noncomputable def kArgs (tb : Nat → Option (List D)) (et : ET) (xs : List Operand) : (List D → Bool) → Bool :=
  List.rec (motive := fun _ => (List D → Bool) → Bool) (fun K => K []) (fun x _ ih K => kEv tb et x fun d => ih fun ds => K (d :: ds)) xs
theorem kArgs_eq {tb : Nat → Option (List D)} {et : ET} : ∀ {xs : List Operand} {K : List D → Bool}, kArgs tb et xs K = true → ∃ ds, allD (evT tb et) xs = some ds ∧ K ds = true
  | [], K, h => ⟨[], rfl, h⟩
  | x :: xs, K, h => by
    obtain ⟨d, h1, h2⟩ := kEv_eq (show kEv tb et x (fun d => kArgs tb et xs fun ds => K (d :: ds)) = true from h)
    obtain ⟨ds, h3, h4⟩ := kArgs_eq h2
    exact ⟨d :: ds, by simp only [allD, h1, h3], h4⟩

noncomputable def kCallV (P : Program) (tb : Nat → Option (List D)) (s : Sx) (CK : CallK) (hid : List Nm) (gn : Nat) (c : Call) (f : Operand) : Bool :=
  kEv tb s.et f fun df => kArgs tb s.et c.args.toList fun ds => kO (tgtOf df ds) fun p => kP p fun tg ds => kSpine ds fun ds => kSpine hid fun hid => kUps (goneUp hid) s.t fun t0 =>
    CK tg ds t0 s.cur fun d t' cur' wl => br (hidOK gn hid wl) (forceUp (backUp s.t hid) fun ul => kUps ul t' fun t' => s.K d t' cur' wl (.but hid)) false
noncomputable def kCall (P : Program) (tb : Nat → Option (List D)) (s : Sx) (CK : CallK) (hid : List Nm) (gn : Nat) (c : Call) : Bool :=
  Callee.rec (motive := fun _ => Bool) (fun f => kCallV P tb s CK hid gn c f) (fun _ _ => false) (fun _ => kSlow P tb s (.call c)) c.callee

noncomputable def kOp (P : Program) (tb : Nat → Option (List D)) (s : Sx) (CK : CallK) (hid : List Nm) (gn : Nat) (op : Op) : Bool :=
  Op.rec (motive := fun _ => Bool) (kMove P tb s) (kMove P tb s) (kPick P tb s) (fun _ => kSlow P tb s op) (fun _ _ => kSlow P tb s op) (fun _ _ => kSlow P tb s op) (kBuildSlice P tb s) (fun _ _ _ _ => false)
    (kLoad P tb s) (kStore P tb s) (fun _ => false) (fun _ => false) (kNil P tb s) (kBin P tb s) (fun _ _ _ => kSlow P tb s op) (fun _ _ _ => kSlow P tb s op) (fun _ _ => false) (fun _ _ => false)
    (fun _ _ _ => kSlow P tb s op) (fun _ _ => kSlow P tb s op) (fun _ _ => false) (fun _ _ _ => kSlow P tb s op) (fun _ _ _ _ _ => kSlow P tb s op) (kFieldAddr P tb s) (fun _ _ _ => kSlow P tb s op) (kIx P tb s) (fun _ _ _ => kSlow P tb s op)
    (fun _ _ _ _ => kSlow P tb s op) (fun _ _ _ _ => kSlow P tb s op) (fun _ _ _ => kSlow P tb s op) (fun _ _ _ _ => kSlow P tb s op) (fun _ _ => kSlow P tb s op) (fun _ _ => kSlow P tb s op) (fun _ => kSlow P tb s op) (fun _ _ _ _ => false)
    (kExtract P tb s) (kCall P tb s CK hid gn) (fun _ => false) (fun _ => false) (fun _ => false) (fun _ _ => false) (fun _ _ _ => false) (fun _ _ => false) op

noncomputable def kGuard (P : Program) (tb : Nat → Option (List D)) (ops : Array Oper) (et : ET) (o : Oper) (s : Sx) (x : Bool) : Bool :=
  kO (wantT ops et o) fun w => br w x (s.K D.undef s.t s.cur [] (.of []))
noncomputable def kGo (P : Program) (tb : Nat → Option (List D)) (s : Sx) (CK : CallK) (hid : List Nm) (ops : Array Oper) (gn : Nat) (o : Oper) : Bool :=
  Option.rec (motive := fun _ => Bool) (kOp P tb s CK hid gn o.op) (fun _ => kGuard P tb ops s.et o s (kOp P tb s CK hid gn o.op)) o.guard
noncomputable def kStep (P : Program) (tb : Nat → Option (List D)) (CK : CallK) (hid : List Nm) (ops : Array Oper) (gn : Nat) (o : Oper) (et : ET) (t : Tr) (cur : Nat) (K : D → Tr → Nat → List Nm → Rd → Bool) : Bool :=
  kGo P tb (Sx.mk et t cur (nameH gn o) K) CK hid ops gn o

theorem kOp_goes {P : Program} {tb : Nat → Option (List D)} {s : Sx} {CK : CallK} {CT : CallT} (hc : KOK CK CT) {hid : List Nm} {gn : Nat} {op : Op} (h : kOp P tb s CK hid gn op = true) :
    (Goes P tb s op ∧ callOfG (evT tb s.et) op = none) ∨
    (∃ tg ds d t' cur' wl, callOfG (evT tb s.et) op = some (tg, ds) ∧ CT tg ds (s.t.ups (goneUp hid)) s.cur = some (d, t', cur', wl) ∧ hidOK gn hid wl = true ∧ s.K d (t'.ups (backUp s.t hid)) cur' wl (.but hid) = true) := by
  cases op with
  | move x => exact .inl ⟨(kMove_goes h).1, rfl⟩
  | assign x => exact .inl ⟨(kMove_goes h).2, rfl⟩
  | pick c a b => exact .inl ⟨kPick_goes h, rfl⟩
  | load t x => exact .inl ⟨kLoad_goes h, rfl⟩
  | store t x y => exact .inl ⟨kStore_goes h, rfl⟩
  | nilCheck x => exact .inl ⟨kNil_goes h, rfl⟩
  | binOp op t x y t2 => exact .inl ⟨kBin_goes h, rfl⟩
  | fieldAddr t x f => exact .inl ⟨kFieldAddr_goes h, rfl⟩
  | indexAddr t x i => exact .inl ⟨kIx_goes h, rfl⟩
  | extract x i => exact .inl ⟨kExtract_goes h, rfl⟩
  | buildSlice t len parts => exact .inl ⟨kBuildSlice_goes h, rfl⟩
  | call c =>
    have h1 : kCall P tb s CK hid gn c = true := h
    unfold kCall at h1
    cases hca : c.callee with
    | value f =>
      rw [hca] at h1
      have h2 : kCallV P tb s CK hid gn c f = true := h1
      obtain ⟨df, hf, h3⟩ := kEv_eq h2
      obtain ⟨ds, hds, h4⟩ := kArgs_eq h3
      obtain ⟨⟨tg, ds'⟩, htg, h5⟩ := kO_eq h4
      have h6 : kSpine ds' (fun ds => kSpine hid fun hid => kUps (goneUp hid) s.t fun t0 => CK tg ds t0 s.cur fun d t' cur' wl => br (hidOK gn hid wl) (forceUp (backUp s.t hid) fun ul => kUps ul t' fun t' => s.K d t' cur' wl (.but hid)) false) = true := h5
      rw [kSpine_eq, kSpine_eq, kUps_eq] at h6
      obtain ⟨d, t', c', wl, h7, h8⟩ := hc _ _ _ _ _ h6
      rcases br_or h8 with h9 | ⟨hh, h9⟩
      · cases h9
      rw [forceUp_eq, kUps_eq] at h9
      exact .inr ⟨tg, ds', d, t', c', wl, by simp only [callOfG, hca, hf, hds, htg], h7, hh, h9⟩
    | invoke _ _ => rw [hca] at h1; cases h1
    | builtin b =>
      rw [hca] at h1
      exact .inl ⟨kSlow_goes h1, by simp only [callOfG, hca]⟩
  | insert _ _ _ _ => cases h
  | ready _ => cases h
  | waits _ => cases h
  | sliceToArrayPointer _ _ => cases h
  | makeInterface _ _ => cases h
  | makeChan _ _ => cases h
  | typeAssert _ _ _ _ => cases h
  | go _ => cases h
  | defer _ => cases h
  | panic _ => cases h
  | send _ _ => cases h
  | recv _ _ _ => cases h
  | select _ _ => cases h
  | _ => exact .inl ⟨kSlow_goes h, rfl⟩

theorem kStep_sound {P : Program} {tb : Nat → Option (List D)} {CK : CallK} {CT : CallT} (hc : KOK CK CT) {n : Nat} {hid : List Nm} {ops : Array Oper} {gn : Nat} {o : Oper} {et : ET} {env : Env} {t : Tr} {cur : Nat} {K : D → Tr → Nat → List Nm → Rd → Bool}
    (hL : Lays n et env) (h : kStep P tb CK hid ops gn o et t cur K = true) : ∃ d t' cur' wl rd, stepX P CT tb hid ops gn o env t cur = some (d, t', cur', wl, rd) ∧ K d t' cur' wl rd = true := by
  have hco : callOf tb env o.op = callOfG (evT tb et) o.op := by rw [← evT_eq hL]; rfl
  have key : wantE ops env o = some true → kOp P tb (Sx.mk et t cur (nameH gn o) K) CK hid gn o.op = true → ∃ d t' cur' wl rd, stepX P CT tb hid ops gn o env t cur = some (d, t', cur', wl, rd) ∧ K d t' cur' wl rd = true := fun hw h => by
    unfold stepX
    rw [hw]
    simp only [hco, evT_eq hL]
    rcases kOp_goes hc h with ⟨⟨d, ul, rl, h1, h2, h3⟩, h4⟩ | ⟨tg, ds, d, t', cur', wl, h1, h2, h3, h4⟩
    · refine ⟨d, t.ups ul, cur, ul.map (·.1), .of rl, ?_, h3⟩
      have h1' : opH P (evT tb et) t.get (nameH gn o) o.op = some (d, ul, rl) := h1
      simp only [h4, h1', h2, if_true, forceUp_eq]
    · refine ⟨d, t'.ups (backUp t hid), cur', wl, .but hid, ?_, h4⟩
      have h2' : CT tg ds (t.ups (goneUp hid)) cur = some (d, t', cur', wl) := h2
      simp only [h1, h2', h3, if_true]
  have h1 : kGo P tb (Sx.mk et t cur (nameH gn o) K) CK hid ops gn o = true := h
  unfold kGo at h1
  cases hg : o.guard with
  | none =>
    rw [hg] at h1
    exact key (by simp only [wantE, hg]) h1
  | some g =>
    rw [hg] at h1
    obtain ⟨w, hw, h2⟩ := kO_eq (show kO (wantT ops et o) (fun w => br w (kOp P tb (Sx.mk et t cur (nameH gn o) K) CK hid gn o.op) (K D.undef t cur [] (.of []))) = true from h1)
    have hw' := wantT_sound hL hw
    rw [br_eq] at h2
    cases w with
    | true => exact key hw' h2
    | false => exact ⟨D.undef, t, cur, [], .of [], by unfold stepX; rw [hw'], h2⟩

end Go.Ab
