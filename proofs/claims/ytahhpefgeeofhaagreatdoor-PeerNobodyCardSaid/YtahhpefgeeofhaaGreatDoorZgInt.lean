/-
  Whole numbers that are not below nought, for the kernel: the same as intV.
-/
import Derived.Test.YtahhpefgeeofhaaGreatDoorZgKern
set_option linter.unusedSimpArgs false
set_option linter.unusedVariables false
set_option linter.constructorNameAsVariable false
namespace Go.Ab

noncomputable def kn (k : IntKind) : Nat := IntKind.rec (motive := fun _ => Nat) 0 1 2 3 4 5 6 7 k
noncomputable def kmx (k : IntKind) : Nat := IntKind.rec (motive := fun _ => Nat) 127 32767 2147483647 9223372036854775807 255 65535 4294967295 18446744073709551615 k
noncomputable def kmd (k : IntKind) : Nat := IntKind.rec (motive := fun _ => Nat) 256 65536 4294967296 18446744073709551616 256 65536 4294967296 18446744073709551616 k
noncomputable def ksg (k : IntKind) : Bool := IntKind.rec (motive := fun _ => Bool) true true true true false false false false k
noncomputable def kbt (k : IntKind) : Nat := IntKind.rec (motive := fun _ => Nat) 8 16 32 64 8 16 32 64 k
noncomputable def kpw (k : IntKind) : Nat := IntKind.rec (motive := fun _ => Nat) 7 15 31 63 8 16 32 64 k

theorem kn_inj {k k' : IntKind} (h : Nat.beq (kn k) (kn k') = true) : k = k' := by
  cases k <;> cases k' <;> first | rfl | cases h

theorem kmx_pw (k : IntKind) : kmx k + 1 = 2 ^ kpw k := by cases k <;> rfl
theorem kpw_le (k : IntKind) : kpw k ≤ k.bits := by cases k <;> decide
theorem kbt_eq (k : IntKind) : kbt k = k.bits := by cases k <;> rfl
theorem kmd_eq (k : IntKind) : kmd k = 2 ^ k.bits := by cases k <;> rfl

theorem ten (n : Nat) : ((2 : Int) ^ n) = ((2 ^ n : Nat) : Int) := by simp

theorem wrap_small {k : IntKind} {c : Nat} (h : c ≤ kmx k) : k.wrap (Int.ofNat c) = Int.ofNat c := by
  have hb := kmx_pw k
  unfold IntKind.wrap
  simp only [ten, Int.ofNat_eq_natCast]
  have hlt : c < 2 ^ k.bits := Nat.lt_of_lt_of_le (show c < 2 ^ kpw k by omega) (Nat.pow_le_pow_right (by decide) (kpw_le k))
  have hm : ((c : Int) % ((2 ^ k.bits : Nat) : Int)) = (c : Int) := by
    rw [← Int.natCast_emod, Nat.mod_eq_of_lt hlt]
  rw [hm]
  cases hs : k.signed with
  | false => simp
  | true =>
    have : c < 2 ^ (k.bits - 1) := by
      have : kpw k = k.bits - 1 := by cases k <;> first | rfl | cases hs
      rw [← this]; omega
    have h2 : ¬ ((c : Int) ≥ ((2 ^ (k.bits - 1) : Nat) : Int)) := by omega
    rw [if_neg]
    simp only [Bool.true_and, decide_eq_true_eq]
    exact h2

theorem wrap_mod {k : IntKind} {c : Nat} (h : ksg k = false) : k.wrap (Int.ofNat c) = Int.ofNat (Nat.mod c (kmd k)) := by
  have hs : k.signed = false := by cases k <;> first | rfl | cases h
  unfold IntKind.wrap
  simp only [ten, Int.ofNat_eq_natCast, hs, Bool.false_and, Bool.false_eq_true, if_false, kmd_eq]
  rw [← Int.natCast_emod]
  rfl

theorem ofInt_nat {k : IntKind} {a : Nat} (h : a ≤ kmx k) : (BitVec.ofInt k.bits (Int.ofNat a)).toNat = a := by
  have hb := kmx_pw k
  have hlt : a < 2 ^ k.bits := Nat.lt_of_lt_of_le (show a < 2 ^ kpw k by omega) (Nat.pow_le_pow_right (by decide) (kpw_le k))
  rw [Int.ofNat_eq_natCast, BitVec.ofInt_natCast, BitVec.toNat_ofNat, Nat.mod_eq_of_lt hlt]

/-! ### The operators -/

noncomputable def iv (k : IntKind) (F : Value → Bool) (c : Nat) : Bool := F (.int k (.ofNat c))

noncomputable def nFit (k : IntKind) (c : Nat) (F : Value → Bool) (z : Bool) : Bool :=
  br (Nat.ble c (kmx k)) (kN c (iv k F)) (br (ksg k) z (kN (Nat.mod c (kmd k)) (iv k F)))
noncomputable def nAdd (k : IntKind) (a : Nat) (k' : IntKind) (b : Nat) (F : Value → Bool) (z : Bool) : Bool := br (Nat.beq (kn k) (kn k')) (nFit k (Nat.add a b) F z) z
noncomputable def nMul (k : IntKind) (a : Nat) (k' : IntKind) (b : Nat) (F : Value → Bool) (z : Bool) : Bool := br (Nat.beq (kn k) (kn k')) (nFit k (Nat.mul a b) F z) z
noncomputable def nSub (k : IntKind) (a : Nat) (k' : IntKind) (b : Nat) (F : Value → Bool) (z : Bool) : Bool := br (Nat.beq (kn k) (kn k')) (br (Nat.ble b a) (nFit k (Nat.sub a b) F z) z) z
noncomputable def nQuo (k : IntKind) (a : Nat) (k' : IntKind) (b : Nat) (F : Value → Bool) (z : Bool) : Bool := br (Nat.beq (kn k) (kn k')) (br (Nat.beq b 0) z (nFit k (Nat.div a b) F z)) z
noncomputable def nRem (k : IntKind) (a : Nat) (k' : IntKind) (b : Nat) (F : Value → Bool) (z : Bool) : Bool := br (Nat.beq (kn k) (kn k')) (br (Nat.beq b 0) z (kN (Nat.mod a b) (iv k F))) z
noncomputable def nIn (k : IntKind) (a : Nat) (k' : IntKind) (b : Nat) (x z : Bool) : Bool := br (Nat.beq (kn k) (kn k')) (br (Nat.ble a (kmx k)) (br (Nat.ble b (kmx k)) x z) z) z
noncomputable def nAnd (k : IntKind) (a : Nat) (k' : IntKind) (b : Nat) (F : Value → Bool) (z : Bool) : Bool := nIn k a k' b (kN (Nat.land a b) (iv k F)) z
noncomputable def nOr (k : IntKind) (a : Nat) (k' : IntKind) (b : Nat) (F : Value → Bool) (z : Bool) : Bool := nIn k a k' b (kN (Nat.lor a b) (iv k F)) z
noncomputable def nXor (k : IntKind) (a : Nat) (k' : IntKind) (b : Nat) (F : Value → Bool) (z : Bool) : Bool := nIn k a k' b (kN (Nat.xor a b) (iv k F)) z
noncomputable def nShl (k : IntKind) (a : Nat) (_ : IntKind) (b : Nat) (F : Value → Bool) (z : Bool) : Bool := br (Nat.ble b (kbt k)) (nFit k (Nat.mul a (Nat.pow 2 b)) F z) z
noncomputable def nShr (k : IntKind) (a : Nat) (_ : IntKind) (b : Nat) (F : Value → Bool) (z : Bool) : Bool := br (Nat.ble b (kbt k)) (kN (Nat.div a (Nat.pow 2 b)) (iv k F)) z
noncomputable def nBool (F : Value → Bool) (b : Bool) : Bool := br b (F (.bool true)) (F (.bool false))
noncomputable def nEql (k : IntKind) (a : Nat) (k' : IntKind) (b : Nat) (F : Value → Bool) (z : Bool) : Bool := br (Nat.beq (kn k) (kn k')) (nBool F (Nat.beq a b)) z
noncomputable def nNeq (k : IntKind) (a : Nat) (k' : IntKind) (b : Nat) (F : Value → Bool) (z : Bool) : Bool := br (Nat.beq (kn k) (kn k')) (br (Nat.beq a b) (F (.bool false)) (F (.bool true))) z
noncomputable def nLss (k : IntKind) (a : Nat) (k' : IntKind) (b : Nat) (F : Value → Bool) (z : Bool) : Bool := br (Nat.beq (kn k) (kn k')) (br (Nat.ble b a) (F (.bool false)) (F (.bool true))) z
noncomputable def nLeq (k : IntKind) (a : Nat) (k' : IntKind) (b : Nat) (F : Value → Bool) (z : Bool) : Bool := br (Nat.beq (kn k) (kn k')) (nBool F (Nat.ble a b)) z
noncomputable def nGtr (k : IntKind) (a : Nat) (k' : IntKind) (b : Nat) (F : Value → Bool) (z : Bool) : Bool := br (Nat.beq (kn k) (kn k')) (br (Nat.ble a b) (F (.bool false)) (F (.bool true))) z
noncomputable def nGeq (k : IntKind) (a : Nat) (k' : IntKind) (b : Nat) (F : Value → Bool) (z : Bool) : Bool := br (Nat.beq (kn k) (kn k')) (nBool F (Nat.ble b a)) z
noncomputable def nNo (_ : IntKind) (_ : Nat) (_ : IntKind) (_ : Nat) (_ : Value → Bool) (z : Bool) : Bool := z

noncomputable def natK (op : BinOp) (k : IntKind) (a : Nat) (k' : IntKind) (b : Nat) (F : Value → Bool) (z : Bool) : Bool :=
  BinOp.rec (motive := fun _ => IntKind → Nat → IntKind → Nat → (Value → Bool) → Bool → Bool) nAdd nSub nMul nQuo nRem nAnd nOr nXor nShl nShr nNo nEql nNeq nLss nLeq nGtr nGeq op k a k' b F z

theorem br_or {b x z : Bool} (h : br b x z = true) : z = true ∨ b = true ∧ x = true := by cases b <;> simp [br] at h <;> simp [h]

theorem nFit_eq {k : IntKind} {c : Nat} {F : Value → Bool} {z : Bool} (h : nFit k c F z = true) : z = true ∨ F (.int k (k.wrap (Int.ofNat c))) = true := by
  unfold nFit at h
  cases hc : Nat.ble c (kmx k) with
  | true =>
    rw [hc] at h
    rw [wrap_small (Nat.le_of_ble_eq_true hc)]
    rw [show br true (kN c (iv k F)) _ = kN c (iv k F) from rfl, kN_eq] at h
    exact .inr h
  | false =>
    rw [hc] at h
    cases hs : ksg k with
    | true => rw [hs] at h; exact .inl h
    | false =>
      rw [hs] at h
      rw [wrap_mod hs]
      have h' : kN (Nat.mod c (kmd k)) (iv k F) = true := h
      rw [kN_eq] at h'
      exact .inr h'

theorem nBool_eq {F : Value → Bool} {b : Bool} (h : nBool F b = true) : F (.bool b) = true := by cases b <;> exact h

theorem ble_iff (a b : Nat) : Nat.ble a b = decide (a ≤ b) := by
  cases h : Nat.ble a b with
  | true => simp [Nat.le_of_ble_eq_true h]
  | false =>
    have : ¬ a ≤ b := fun hh => by rw [Nat.ble_eq_true_of_le hh] at h; cases h
    simp [this]

theorem natK_eq {op : BinOp} {k k' : IntKind} {a b : Nat} {F : Value → Bool} {z : Bool} (h0 : natK op k a k' b F z = true) :
    z = true ∨ ∃ v, intV op k (.ofNat a) k' (.ofNat b) = some v ∧ F v = true := by
  have nn : ¬ (Int.ofNat b < 0) := by simp
  cases op with
  | add =>
    rcases br_or (show br _ (nFit k (a + b) F z) z = true from h0) with h | ⟨h1, h⟩
    · exact .inl h
    rcases nFit_eq h with h | h
    · exact .inl h
    obtain rfl := kn_inj h1
    refine .inr ⟨_, ?_, h⟩
    simp [intV]
  | sub =>
    rcases br_or (show br _ (br _ (nFit k (a - b) F z) z) z = true from h0) with h | ⟨h1, h⟩
    · exact .inl h
    rcases br_or h with h | ⟨h2, h⟩
    · exact .inl h
    rcases nFit_eq h with h | h
    · exact .inl h
    obtain rfl := kn_inj h1
    have hle := Nat.le_of_ble_eq_true h2
    refine .inr ⟨_, ?_, h⟩
    simp only [intV, ne_eq, not_true_eq_false, if_false, Int.ofNat_eq_natCast]
    rw [Int.ofNat_sub hle]
  | mul =>
    rcases br_or (show br _ (nFit k (a * b) F z) z = true from h0) with h | ⟨h1, h⟩
    · exact .inl h
    rcases nFit_eq h with h | h
    · exact .inl h
    obtain rfl := kn_inj h1
    refine .inr ⟨_, ?_, h⟩
    simp [intV]
  | quo =>
    rcases br_or (show br _ (br _ z (nFit k (a / b) F z)) z = true from h0) with h | ⟨h1, h⟩
    · exact .inl h
    cases hb : Nat.beq b 0 with
    | true => rw [hb] at h; exact .inl h
    | false =>
      rw [hb] at h
      rcases nFit_eq (show nFit k (a / b) F z = true from h) with h | h
      · exact .inl h
      obtain rfl := kn_inj h1
      have hb0 : b ≠ 0 := fun e => by rw [e] at hb; cases hb
      refine .inr ⟨_, ?_, h⟩
      have : Int.ofNat b ≠ 0 := by simpa using hb0
      simp only [intV, ne_eq, not_true_eq_false, if_false, this]
      rfl
  | rem =>
    rcases br_or (show br _ (br _ z (kN (a % b) (iv k F))) z = true from h0) with h | ⟨h1, h⟩
    · exact .inl h
    cases hb : Nat.beq b 0 with
    | true => rw [hb] at h; exact .inl h
    | false =>
      rw [hb] at h
      have h' : kN (a % b) (iv k F) = true := h
      rw [kN_eq] at h'
      obtain rfl := kn_inj h1
      have hb0 : b ≠ 0 := fun e => by rw [e] at hb; cases hb
      refine .inr ⟨_, ?_, h'⟩
      have : Int.ofNat b ≠ 0 := by simpa using hb0
      simp only [intV, ne_eq, not_true_eq_false, if_false, this]
      rfl
  | and =>
    rcases br_or (show br _ (br _ (br _ (kN (Nat.land a b) (iv k F)) z) z) z = true from h0) with h | ⟨h1, h⟩
    · exact .inl h
    rcases br_or h with h | ⟨h2, h⟩
    · exact .inl h
    rcases br_or h with h | ⟨h3, h⟩
    · exact .inl h
    rw [kN_eq] at h
    obtain rfl := kn_inj h1
    have ha := Nat.le_of_ble_eq_true h2
    have hb := Nat.le_of_ble_eq_true h3
    refine .inr ⟨_, ?_, h⟩
    simp only [intV, ne_eq, not_true_eq_false, if_false, BitVec.toNat_and, ofInt_nat ha, ofInt_nat hb]
    exact congrArg (fun z => some (Value.int k z)) (wrap_small (Nat.le_trans Nat.and_le_left ha))
  | or =>
    rcases br_or (show br _ (br _ (br _ (kN (Nat.lor a b) (iv k F)) z) z) z = true from h0) with h | ⟨h1, h⟩
    · exact .inl h
    rcases br_or h with h | ⟨h2, h⟩
    · exact .inl h
    rcases br_or h with h | ⟨h3, h⟩
    · exact .inl h
    rw [kN_eq] at h
    obtain rfl := kn_inj h1
    have ha := Nat.le_of_ble_eq_true h2
    have hb := Nat.le_of_ble_eq_true h3
    have hp := kmx_pw k
    have hlt : a ||| b < 2 ^ kpw k := Nat.or_lt_two_pow (by omega) (by omega)
    refine .inr ⟨_, ?_, h⟩
    simp only [intV, ne_eq, not_true_eq_false, if_false, BitVec.toNat_or, ofInt_nat ha, ofInt_nat hb]
    exact congrArg (fun z => some (Value.int k z)) (wrap_small (by omega))
  | xor =>
    rcases br_or (show br _ (br _ (br _ (kN (Nat.xor a b) (iv k F)) z) z) z = true from h0) with h | ⟨h1, h⟩
    · exact .inl h
    rcases br_or h with h | ⟨h2, h⟩
    · exact .inl h
    rcases br_or h with h | ⟨h3, h⟩
    · exact .inl h
    rw [kN_eq] at h
    obtain rfl := kn_inj h1
    have ha := Nat.le_of_ble_eq_true h2
    have hb := Nat.le_of_ble_eq_true h3
    have hp := kmx_pw k
    have hlt : a ^^^ b < 2 ^ kpw k := Nat.xor_lt_two_pow (by omega) (by omega)
    refine .inr ⟨_, ?_, h⟩
    simp only [intV, ne_eq, not_true_eq_false, if_false, BitVec.toNat_xor, ofInt_nat ha, ofInt_nat hb]
    exact congrArg (fun z => some (Value.int k z)) (wrap_small (by omega))
  | shl =>
    rcases br_or (show br _ (nFit k (a * 2 ^ b) F z) z = true from h0) with h | ⟨h1, h⟩
    · exact .inl h
    rcases nFit_eq h with h | h
    · exact .inl h
    have hb := Nat.le_of_ble_eq_true h1
    rw [kbt_eq] at hb
    refine .inr ⟨_, ?_, h⟩
    simp only [intV, nn, if_false]
    rw [show (Int.ofNat b).toNat = b from rfl, Nat.min_eq_left hb, ten]
    rfl
  | shr =>
    rcases br_or (show br _ (kN (a / 2 ^ b) (iv k F)) z = true from h0) with h | ⟨h1, h⟩
    · exact .inl h
    rw [kN_eq] at h
    have hb := Nat.le_of_ble_eq_true h1
    rw [kbt_eq] at hb
    refine .inr ⟨_, ?_, h⟩
    simp only [intV, nn, if_false]
    rw [show (Int.ofNat b).toNat = b from rfl, Nat.min_eq_left hb, ten, Int.fdiv_eq_ediv_of_nonneg _ (Int.natCast_nonneg _)]
    rfl
  | andNot => exact .inl h0
  | eql =>
    rcases br_or (show br _ (nBool F (Nat.beq a b)) z = true from h0) with h | ⟨h1, h⟩
    · exact .inl h
    obtain rfl := kn_inj h1
    refine .inr ⟨_, ?_, nBool_eq h⟩
    simp only [intV, ne_eq, not_true_eq_false, if_false]
    congr 2
    cases hb : Nat.beq a b with
    | true => simp [Nat.eq_of_beq_eq_true hb]
    | false =>
      have hne : a ≠ b := Nat.ne_of_beq_eq_false hb
      have : ¬ ((a : Int) = (b : Int)) := by omega
      simpa using this
  | neq =>
    rcases br_or (show br _ (br (Nat.beq a b) (F (.bool false)) (F (.bool true))) z = true from h0) with h | ⟨h1, h⟩
    · exact .inl h
    obtain rfl := kn_inj h1
    cases hb : Nat.beq a b with
    | true =>
      rw [hb] at h
      refine .inr ⟨_, ?_, h⟩
      have := Nat.eq_of_beq_eq_true hb
      simp [intV, this]
    | false =>
      rw [hb] at h
      refine .inr ⟨_, ?_, h⟩
      have hne : a ≠ b := Nat.ne_of_beq_eq_false hb
      have : ¬ ((a : Int) = (b : Int)) := by omega
      simp [intV, this]
  | lss =>
    rcases br_or (show br _ (br (Nat.ble b a) (F (.bool false)) (F (.bool true))) z = true from h0) with h | ⟨h1, h⟩
    · exact .inl h
    obtain rfl := kn_inj h1
    rw [ble_iff] at h
    by_cases hb : b ≤ a
    · simp only [hb, decide_true] at h
      refine .inr ⟨_, ?_, h⟩
      simp [intV]; omega
    · simp only [hb, decide_false] at h
      refine .inr ⟨_, ?_, h⟩
      simp [intV]; omega
  | leq =>
    rcases br_or (show br _ (nBool F (Nat.ble a b)) z = true from h0) with h | ⟨h1, h⟩
    · exact .inl h
    obtain rfl := kn_inj h1
    refine .inr ⟨_, ?_, nBool_eq h⟩
    simp [intV, ble_iff]
  | gtr =>
    rcases br_or (show br _ (br (Nat.ble a b) (F (.bool false)) (F (.bool true))) z = true from h0) with h | ⟨h1, h⟩
    · exact .inl h
    obtain rfl := kn_inj h1
    rw [ble_iff] at h
    by_cases hb : a ≤ b
    · simp only [hb, decide_true] at h
      refine .inr ⟨_, ?_, h⟩
      simp [intV]; omega
    · simp only [hb, decide_false] at h
      refine .inr ⟨_, ?_, h⟩
      simp [intV]; omega
  | geq =>
    rcases br_or (show br _ (nBool F (Nat.ble b a)) z = true from h0) with h | ⟨h1, h⟩
    · exact .inl h
    obtain rfl := kn_inj h1
    refine .inr ⟨_, ?_, nBool_eq h⟩
    simp [intV, ble_iff]

end Go.Ab
