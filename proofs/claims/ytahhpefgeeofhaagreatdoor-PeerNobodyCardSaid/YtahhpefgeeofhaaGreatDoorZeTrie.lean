/-
  A table of things by their names that is quick to look up and to change.
-/
import Derived.Test.YtahhpefgeeofhaaGreatDoorZeReg2
set_option linter.unusedSimpArgs false
set_option linter.unusedVariables false
namespace Go.Ab

inductive Tr where
  | e
  | n (v : Option Ob) (l r : Tr)

def Tr.get : Tr → Nat → Option Ob
  | .e, _ => none
  | .n v l r, k => bif Nat.beq k 0 then v else bif Nat.beq (k % 2) 0 then r.get ((k - 1) / 2) else l.get ((k - 1) / 2)

def Tr.set : Nat → Tr → Nat → Option Ob → Tr
  | 0, t, _, _ => t
  | f + 1, .e, k, o => bif Nat.beq k 0 then .n o .e .e else bif Nat.beq (k % 2) 0 then .n none .e (Tr.set f .e ((k - 1) / 2) o) else .n none (Tr.set f .e ((k - 1) / 2) o) .e
  | f + 1, .n v l r, k, o => bif Nat.beq k 0 then .n o l r else bif Nat.beq (k % 2) 0 then .n v l (Tr.set f r ((k - 1) / 2) o) else .n v (Tr.set f l ((k - 1) / 2) o) r

theorem Tr.get_set : ∀ (f : Nat) (t : Tr) (k : Nat) (o : Option Ob) (j : Nat), k + 1 < 2 ^ f → (Tr.set f t k o).get j = if j = k then o else t.get j
  | 0, t, k, o, j, h => by simp at h
  | f + 1, t, k, o, j, h => by
    have hk : k ≠ 0 → (k - 1) / 2 + 1 < 2 ^ f := fun hk => by
      rw [Nat.pow_succ] at h
      omega
    have hjk : ∀ {p : Nat}, k ≠ 0 → j ≠ 0 → k % 2 = p → j % 2 = p → ((j - 1) / 2 = (k - 1) / 2 ↔ j = k) := fun h1 h2 h3 h4 => by omega
    have hg : ∀ (v : Option Ob) (l r : Tr), (Tr.n v l r).get j = if j = 0 then v else if j % 2 = 0 then r.get ((j - 1) / 2) else l.get ((j - 1) / 2) := fun v l r => by
      simp only [Tr.get, Nat.beq_eq_true_eq, cond_eq_ite, Nat.beq_eq]
    have he : Tr.e.get j = none := rfl
    by_cases k0 : k = 0
    · subst k0
      have hs : Tr.set (f + 1) t 0 o = .n o (match t with | .e => .e | .n _ l _ => l) (match t with | .e => .e | .n _ _ r => r) := by cases t <;> rfl
      rw [hs, hg]
      by_cases j0 : j = 0
      · simp [j0]
      · simp only [j0, if_false]
        cases t with
        | e => simp [Tr.get]
        | n v l r => rw [hg]; simp [j0]
    · have kb : Nat.beq k 0 = false := by cases hb : Nat.beq k 0 with
      | false => rfl
      | true => exact absurd (Nat.eq_of_beq_eq_true hb) k0
      by_cases kp : k % 2 = 0
      · have kpb : Nat.beq (k % 2) 0 = true := by simp [kp]
        cases t with
        | e =>
          simp only [Tr.set, kb, kpb, cond_true, cond_false]
          rw [hg, Tr.get_set f _ _ _ _ (hk k0), he]
          by_cases j0 : j = 0
          · have : j ≠ k := by omega
            simp [j0, this]; omega
          · by_cases jp : j % 2 = 0
            · simp only [j0, jp, if_true, if_false, hjk k0 j0 kp jp, Tr.get]
            · have : j ≠ k := fun e => jp (e ▸ kp)
              simp [j0, jp, this, Tr.get]
        | n v l r =>
          simp only [Tr.set, kb, kpb, cond_true, cond_false]
          rw [hg, hg, Tr.get_set f _ _ _ _ (hk k0)]
          by_cases j0 : j = 0
          · have : j ≠ k := by omega
            simp [j0]; omega
          · by_cases jp : j % 2 = 0
            · simp only [j0, jp, if_true, if_false, hjk k0 j0 kp jp]
            · have : j ≠ k := fun e => jp (e ▸ kp)
              simp [j0, jp, this]
      · have kpb : Nat.beq (k % 2) 0 = false := by cases hb : Nat.beq (k % 2) 0 with
        | false => rfl
        | true => exact absurd (Nat.eq_of_beq_eq_true hb) kp
        have kp1 : k % 2 = 1 := by omega
        cases t with
        | e =>
          simp only [Tr.set, kb, kpb, cond_true, cond_false]
          rw [hg, Tr.get_set f _ _ _ _ (hk k0), he]
          by_cases j0 : j = 0
          · have : j ≠ k := by omega
            simp [j0]; omega
          · by_cases jp : j % 2 = 0
            · have : j ≠ k := fun e => by omega
              simp [j0, jp, this, Tr.get]
            · have jp1 : j % 2 = 1 := by omega
              simp only [j0, jp, if_false, hjk k0 j0 kp1 jp1, Tr.get]
        | n v l r =>
          simp only [Tr.set, kb, kpb, cond_true, cond_false]
          rw [hg, hg, Tr.get_set f _ _ _ _ (hk k0)]
          by_cases j0 : j = 0
          · have : j ≠ k := by omega
            simp [j0]; omega
          · by_cases jp : j % 2 = 0
            · have : j ≠ k := fun e => by omega
              simp [j0, jp, this]
            · have jp1 : j % 2 = 1 := by omega
              simp only [j0, jp, if_false, hjk k0 j0 kp1 jp1]

/-- How deep a table may be. -/
def TF : Nat := 64

def Tr.ups (t : Tr) : Up → Tr
  | [] => t
  | (m, o) :: us => (t.set TF m o).ups us
  where set (t : Tr) (f : Nat) (m : Nat) (o : Option Ob) : Tr := Tr.set f t m o

/-- May these names stand in a table? -/
def smallUp : Up → Bool
  | [] => true
  | (m, _) :: us => Nat.blt (m + 1) (2 ^ 64) && smallUp us

theorem Tr.get_ups : ∀ (us : Up) (t : Tr), smallUp us = true → (t.ups us).get = Hp.app t.get us.pt
  | [], t, _ => rfl
  | (m, o) :: us, t, h => by
    simp only [smallUp, Bool.and_eq_true] at h
    have h1 : m + 1 < 2 ^ TF := by simpa [TF] using h.1
    have ih := Tr.get_ups us (Tr.ups.set t TF m o) h.2
    show (Tr.ups (Tr.ups.set t TF m o) us).get = _
    rw [ih]
    funext n
    simp only [Hp.app, Up.pt, Tr.ups.set]
    cases hp : Up.pt us n with
    | some x => simp
    | none =>
      simp only [Option.getD_none]
      rw [Tr.get_set TF t m o n h1]
      by_cases e : n = m <;> simp [e]

end Go.Ab
