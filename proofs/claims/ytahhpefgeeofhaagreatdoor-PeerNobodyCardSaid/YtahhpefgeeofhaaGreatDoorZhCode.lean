/-
  That a function's code is of the kind that the run can take, quick to work out.
-/
import Derived.Test.YtahhpefgeeofhaaGreatDoorZhStart
set_option linter.unusedSimpArgs false
set_option linter.unusedVariables false
namespace Go.Ab

def mkD (o : Oper) : Option Nat := match makesH o.op with
  | true => some (o.dst.getD 0)
  | false => none
def notD (d : Nat) (o : Oper) : Bool := match mkD o with
  | some e => !Nat.beq d e
  | none => true
def apartL : List Oper → Bool
  | [] => true
  | o :: os => (match mkD o with
    | some d => Nat.blt d KB && os.all (notD d)
    | none => true) && apartL os

theorem makesAt_mkD {ops : Array Oper} {i d : Nat} : makesAt ops i = some d ↔ ∃ o, ops.toList[i]? = some o ∧ mkD o = some d := by
  unfold makesAt mkD
  rw [← Array.getElem?_toList]
  cases ops.toList[i]? with
  | none => simp
  | some o => cases hm : makesH o.op <;> simp [hm]

theorem apartL_spec : ∀ {l : List Oper}, apartL l = true → ∀ {i j : Nat} {o o' : Oper} {d : Nat}, i < j → l[i]? = some o → l[j]? = some o' → mkD o = some d → mkD o' ≠ some d
  | [], h, i, j, o, o', d, hij, hi, hj, hd => by cases hi
  | x :: l, h, i, j, o, o', d, hij, hi, hj, hd => by
    simp only [apartL, Bool.and_eq_true] at h
    cases j with
    | zero => omega
    | succ j =>
      rw [List.getElem?_cons_succ] at hj
      cases i with
      | zero =>
        simp only [List.getElem?_cons_zero, Option.some.injEq] at hi
        subst hi
        have h1 := h.1
        rw [hd] at h1
        simp only [Bool.and_eq_true] at h1
        have h2 := List.all_eq_true.1 h1.2 o' (List.mem_of_getElem? hj)
        intro he
        simp only [notD, he, Nat.beq_refl, Bool.not_true] at h2
        cases h2
      | succ i =>
        rw [List.getElem?_cons_succ] at hi
        exact apartL_spec h.2 (by omega) hi hj hd

theorem apartL_small : ∀ {l : List Oper}, apartL l = true → ∀ {i : Nat} {o : Oper} {d : Nat}, l[i]? = some o → mkD o = some d → d < KB
  | [], h, i, o, d, hi, hd => by cases hi
  | x :: l, h, i, o, d, hi, hd => by
    simp only [apartL, Bool.and_eq_true] at h
    cases i with
    | zero =>
      simp only [List.getElem?_cons_zero, Option.some.injEq] at hi
      subst hi
      have h1 := h.1
      rw [hd] at h1
      simp only [Bool.and_eq_true] at h1
      simpa using h1.1
    | succ i =>
      rw [List.getElem?_cons_succ] at hi
      exact apartL_small h.2 hi hd

theorem apartB_of_L {ops : Array Oper} (h : apartL ops.toList = true) : apartB ops = true := by
  unfold apartB
  rw [List.all_eq_true]
  intro i _
  cases hi : makesAt ops i with
  | none => rfl
  | some d =>
    obtain ⟨o, ho, hd⟩ := makesAt_mkD.1 hi
    simp only [Bool.and_eq_true, decide_eq_true_eq]
    refine ⟨apartL_small h ho hd, ?_⟩
    rw [List.all_eq_true]
    intro j _
    by_cases hij : i = j
    · simp [hij]
    · cases hj : makesAt ops j with
      | none => simp
      | some e =>
        obtain ⟨o', ho', he⟩ := makesAt_mkD.1 hj
        have : d ≠ e := by
          rintro rfl
          rcases Nat.lt_or_ge i j with hlt | hge
          · exact apartL_spec h hlt ho ho' hd he
          · exact apartL_spec h (by omega) ho' ho he hd
        simp [this]

def codeOKF : Code → Bool
  | .region _ ops draw => apartL ops.toList && (!draw || Region.lexB .any ops)
  | .seq a b => codeOKF a && codeOKF b
  | .cond _ a b => codeOKF a && codeOKF b
  | .block _ b => codeOKF b
  | .loop b => codeOKF b
  | .rangeFunc _ _ a b => codeOKF a && codeOKF b
  | _ => true

theorem codeOK_of_F : ∀ {c : Code}, codeOKF c = true → codeOK c = true
  | .region _ ops draw, h => by
    simp only [codeOKF, Bool.and_eq_true] at h
    simp only [codeOK, regOK, Bool.and_eq_true]
    exact ⟨apartB_of_L h.1, h.2⟩
  | .seq a b, h => by
    simp only [codeOKF, Bool.and_eq_true] at h
    simp only [codeOK, Bool.and_eq_true]
    exact ⟨codeOK_of_F h.1, codeOK_of_F h.2⟩
  | .cond _ a b, h => by
    simp only [codeOKF, Bool.and_eq_true] at h
    simp only [codeOK, Bool.and_eq_true]
    exact ⟨codeOK_of_F h.1, codeOK_of_F h.2⟩
  | .block _ b, h => codeOK_of_F (c := b) h
  | .loop b, h => codeOK_of_F (c := b) h
  | .rangeFunc _ _ a b, h => by
    simp only [codeOKF, Bool.and_eq_true] at h
    simp only [codeOK, Bool.and_eq_true]
    exact ⟨codeOK_of_F h.1, codeOK_of_F h.2⟩
  | .skip, _ => rfl
  | .exit _, _ => rfl
  | .scope _, _ => rfl
  | .label _, _ => rfl
  | .goto _, _ => rfl
  | .ret, _ => rfl
  | .refuse _, _ => rfl

def fnOK (fn : Func) : Bool := fn.name != "runtime.NumGoroutine" && (match fn.body with | some c => codeOKF c | none => true)
theorem fnOK_spec {fn : Func} (h : fnOK fn = true) : fn.name ≠ "runtime.NumGoroutine" ∧ ∀ c, fn.body = some c → codeOK c = true := by
  simp only [fnOK, Bool.and_eq_true, bne_iff_ne, ne_eq] at h
  exact ⟨h.1, fun c hc => codeOK_of_F (by have := h.2; rw [hc] at this; exact this)⟩

end Go.Ab
