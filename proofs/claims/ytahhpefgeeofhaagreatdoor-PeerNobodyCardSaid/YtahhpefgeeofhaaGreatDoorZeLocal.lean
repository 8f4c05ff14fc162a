/-
  What an operation yields hangs on its operands and on what it looks at alone.
-/
import Derived.Test.YtahhpefgeeofhaaGreatDoorZeAll2
set_option linter.unusedSimpArgs false
set_option linter.unusedVariables false
namespace Go.Ab
section
variable {P : Program} {hp hp' : Hp}

theorem srcD_local {k : Nat} {d : D} {n : Nat} {cs : List D} {rd : List Nm} (h : srcD hp k d = some (n, cs, rd)) (hl : ∀ n ∈ rd, hp n = hp' n) : srcD hp' k d = some (n, cs, rd) := by
  cases d with
  | sl k' o off n' cap =>
    have q : o ∈ rd := by
      simp only [srcD] at h
      split at h
      · split at h
        · split at h
          · cases h; simp
          · cases h
        · cases h
      · cases h
    simp only [srcD] at h ⊢
    rw [← hl o q]; exact h
  | v x =>
    unfold srcD at h ⊢
    split at h <;> first | exact h | (rename_i hne; cases hne; done) | (cases h; done)
  | _ => exact h

theorem newsD_local {k : Nat} {t : TypeId} {d : D} {n : Nat} {cs : List D} {rd : List Nm} (h : newsD P hp k t d = some (n, cs, rd)) (hl : ∀ n ∈ rd, hp n = hp' n) : newsD P hp' k t d = some (n, cs, rd) := by
  unfold newsD at h ⊢
  split at h
  · exact h
  · exact srcD_local h hl
  · cases h

theorem laidD_local {i : TypeInfo} {zs : List D} {t : TypeId} {d : D} {n : Nat} {cs : List D} {rd : List Nm} {z : Bool} (h : laidD P hp i zs t d = some (n, cs, rd, z)) (hl : ∀ n ∈ rd, hp n = hp' n) : laidD P hp' i zs t d = some (n, cs, rd, z) := by
  unfold laidD at h ⊢
  split at h
  · exact h
  · split at h
    · rename_i h2
      cases h
      simp only [newsD_local h2 hl]
    · cases h

theorem appendD_local {nm : Nm} {t t2 : TypeId} {s x d : D} {us : Up} {rd : List Nm} (h : appendD P hp nm t t2 s x = some (d, us, rd)) (hl : ∀ n ∈ rd, hp n = hp' n) : appendD P hp' nm t t2 s x = some (d, us, rd) := by
  unfold appendD at h ⊢
  split at h
  · cases h
  · rename_i e i zs he
    split at h
    · cases h
    · rename_i n news rd0 zeros hlaid
      have sub : (∀ m ∈ rd0, m ∈ rd) → laidD P hp' i zs t2 x = some (n, news, rd0, zeros) := fun hs => laidD_local hlaid fun m hm => hl m (hs m hm)
      cases s with
      | sl k o off len cap =>
        simp only at h
        by_cases h0 : n = 0
        · have : rd0 = rd := by
            simp only [h0, if_true] at h
            cases h; rfl
          rw [sub (by rw [this]; exact fun _ h => h)]
          simp only [h0, if_true] at h ⊢
          exact h
        · have q : o ∈ rd ∧ ∀ m ∈ rd0, m ∈ rd := by
            simp only [h0, if_false] at h
            split at h
            · split at h
              · split at h
                · split at h
                  · split at h
                    · split at h
                      · cases h; exact ⟨by simp, fun m hm => by simp [hm]⟩
                      · cases h
                    · split at h
                      · cases h; exact ⟨by simp, fun m hm => by simp [hm]⟩
                      · cases h
                  · split at h
                    · cases h; exact ⟨by simp, fun m hm => by simp [hm]⟩
                    · cases h
                · cases h
              · cases h
            · cases h
          rw [sub q.2]
          simp only at h ⊢
          rw [← hl o q.1]; exact h
      | v x' =>
        split at h
        · have q : rd0 = rd := by
            split at h
            · cases h; rfl
            · split at h
              · cases h; rfl
              · cases h
          rw [sub (by rw [q]; exact fun _ h => h)]
          exact h
        · rename_i hne; cases hne
        · cases h
      | _ => cases h

theorem copyD_local {t t2 : TypeId} {s x d : D} {us : Up} {rd : List Nm} (h : copyD P hp t t2 s x = some (d, us, rd)) (hl : ∀ n ∈ rd, hp n = hp' n) : copyD P hp' t t2 s x = some (d, us, rd) := by
  unfold copyD at h ⊢
  split at h
  · rename_i e i zs he
    split at h
    · rename_i n cs rd0 hn
      have sub : (∀ m ∈ rd0, m ∈ rd) → newsD P hp' i.size t2 x = some (n, cs, rd0) := fun hs => newsD_local hn fun m hm => hl m (hs m hm)
      cases s with
      | sl k o off len cap =>
        simp only at h
        by_cases h0 : min n len = 0
        · have : rd0 = rd := by
            simp only [h0, if_true] at h
            cases h; rfl
          rw [sub (by rw [this]; exact fun _ h => h)]
          simp only [h0, if_true] at h ⊢
          exact h
        · have q : o ∈ rd ∧ ∀ m ∈ rd0, m ∈ rd := by
            simp only [h0, if_false] at h
            split at h
            · split at h
              · split at h
                · cases h; exact ⟨by simp, fun m hm => by simp [hm]⟩
                · cases h
              · cases h
            · cases h
          rw [sub q.2]
          simp only at h ⊢
          rw [← hl o q.1]; exact h
      | v x' =>
        split at h
        · have q : rd0 = rd := by cases h; rfl
          rw [sub (by rw [q]; exact fun _ h => h)]
          exact h
        · rename_i hne; cases hne
        · cases h
      | _ => cases h
    · cases h
  · cases h

theorem clearD_local {t : TypeId} {s d : D} {us : Up} {rd : List Nm} (h : clearD P hp t s = some (d, us, rd)) (hl : ∀ n ∈ rd, hp n = hp' n) : clearD P hp' t s = some (d, us, rd) := by
  unfold clearD at h ⊢
  split at h
  · cases s with
    | sl k o off len cap =>
      simp only at h ⊢
      by_cases h0 : len = 0
      · simp only [h0, if_true] at h ⊢; exact h
      · simp only [h0, if_false] at h ⊢
        have q : o ∈ rd := by
          split at h
          · split at h
            · split at h
              · cases h; simp
              · cases h
            · cases h
          · cases h
        rw [← hl o q]; exact h
    | v x =>
      split at h <;> first | exact h | (rename_i hne; cases hne; done) | (cases h; done)
    | _ => exact h
  · cases h

theorem sliceH_local {t : TypeId} {x d : D} {lo hi mx : Option D} {rd : List Nm} (h : sliceH P hp t x lo hi mx = some (d, rd)) (hl : ∀ n ∈ rd, hp n = hp' n) : sliceH P hp' t x lo hi mx = some (d, rd) := by
  cases x with
  | ptr o off =>
    unfold sliceH at h ⊢
    cases hu : P.underlying t with
    | none => rw [hu] at h; cases h
    | some u =>
      rw [hu] at h
      cases u with
      | array n e =>
        simp only at h ⊢
        have q : o ∈ rd := by
          split at h
          · cases h
          · split at h
            · split at h
              · split at h
                · cases h; simp
                · cases h
              · cases h
            · cases h
        rw [← hl o q]; exact h
      | _ => cases h
  | _ =>
    unfold sliceH at h ⊢
    split at h <;> first | exact h | (rename_i hne _; cases hne; done) | (rename_i hne; cases hne; done) | (cases h; done)

theorem lookupD_local {t : TypeId} {x k d : D} {c : Bool} {rd : List Nm} (h : lookupD P hp t x k c = some (d, rd)) (hl : ∀ n ∈ rd, hp n = hp' n) : lookupD P hp' t x k c = some (d, rd) := by
  cases x with
  | own m =>
    unfold lookupD at h ⊢
    split at h
    · split at h
      · rename_i h0
        simp only [h0, if_true] at h ⊢
        have q : m ∈ rd := by
          split at h
          · split at h
            · cases h; simp
            · simp only [Option.map_eq_some_iff] at h
              obtain ⟨_, _, heq⟩ := h
              cases heq; simp
            · cases h
          · cases h
        rw [← hl m q]; exact h
      · cases h
    · cases h
  | v x =>
    unfold lookupD at h ⊢
    split at h
    · split at h
      · rename_i h0
        simp only [h0, if_true] at h ⊢
        split at h <;> first | exact h | (rename_i hne; cases hne; done) | (cases h; done)
      · cases h
    · cases h
  | _ => exact h

theorem mapUpdateD_local {t : TypeId} {x k v : D} {us : Up} {rd : List Nm} (h : mapUpdateD P hp t x k v = some (us, rd)) (hl : ∀ n ∈ rd, hp n = hp' n) : mapUpdateD P hp' t x k v = some (us, rd) := by
  cases x with
  | own m =>
    unfold mapUpdateD at h ⊢
    split at h
    · split at h
      · rename_i h0
        simp only [h0, if_true] at h ⊢
        have q : m ∈ rd := by
          split at h
          · split at h
            · split at h
              · cases h; simp
              · cases h
            · cases h; simp
            · cases h
          · cases h
        rw [← hl m q]; exact h
      · cases h
    · cases h
  | _ => exact h

theorem mapEntryD_local {t : TypeId} {x k d : D} {us : Up} {rd : List Nm} (h : mapEntryD P hp t x k = some (d, us, rd)) (hl : ∀ n ∈ rd, hp n = hp' n) : mapEntryD P hp' t x k = some (d, us, rd) := by
  cases x with
  | own m =>
    unfold mapEntryD at h ⊢
    split at h
    · split at h
      · rename_i h0
        simp only [h0, if_true] at h ⊢
        have q : m ∈ rd := by
          split at h
          · split at h
            · split at h
              · cases h; simp
              · cases h
            · simp only [Option.map_eq_some_iff] at h
              obtain ⟨_, _, heq⟩ := h
              cases heq; simp
            · cases h
          · cases h
        rw [← hl m q]; exact h
      · cases h
    · cases h
  | _ => exact h

theorem entryStoreD_local {x s v : D} {us : Up} {rd : List Nm} (h : entryStoreD hp x s v = some (us, rd)) (hl : ∀ n ∈ rd, hp n = hp' n) : entryStoreD hp' x s v = some (us, rd) := by
  cases x with
  | own m =>
    cases s with
    | v sv =>
      cases sv with
      | int kb b =>
        simp only [entryStoreD] at h ⊢
        have q : m ∈ rd := by
          split at h
          · split at h
            · cases h; simp
            · cases h
          · cases h
        rw [← hl m q]; exact h
      | _ => exact h
    | _ => exact h
  | _ => exact h

theorem deleteD_local {t : TypeId} {x k : D} {us : Up} {rd : List Nm} (h : deleteD P hp t x k = some (us, rd)) (hl : ∀ n ∈ rd, hp n = hp' n) : deleteD P hp' t x k = some (us, rd) := by
  cases x with
  | own m =>
    unfold deleteD at h ⊢
    split at h
    · split at h
      · rename_i h0
        simp only [h0, if_true] at h ⊢
        have q : m ∈ rd := by
          split at h
          · split at h
            · cases h; simp
            · cases h; simp
            · cases h
          · cases h
        rw [← hl m q]; exact h
      · cases h
    · cases h
  | _ => exact h

theorem rangeD_local {nm : Nm} {t : TypeId} {x d : D} {us : Up} {rd : List Nm} (h : rangeD P hp nm t x = some (d, us, rd)) (hl : ∀ n ∈ rd, hp n = hp' n) : rangeD P hp' nm t x = some (d, us, rd) := by
  cases x with
  | own m =>
    unfold rangeD at h ⊢
    split at h
    · simp only at h ⊢
      have q : m ∈ rd := by
        split at h
        · cases h; simp
        · cases h
      rw [← hl m q]; exact h
    · cases h
  | v x =>
    unfold rangeD at h ⊢
    split at h
    · split at h <;> first | exact h | (rename_i hne; cases hne; done) | (cases h; done)
    · cases h
  | _ => exact h

theorem nextD_local {x d : D} {us : Up} {rd : List Nm} (h : nextD hp x = some (d, us, rd)) (hl : ∀ n ∈ rd, hp n = hp' n) : nextD hp' x = some (d, us, rd) := by
  cases x with
  | own n =>
    simp only [nextD] at h ⊢
    have q : n ∈ rd := by
      split at h
      · cases h; simp
      · split at h
        · split at h
          · cases h
          · split at h
            · cases h; simp
            · cases h; simp
            · cases h
        · cases h
      · cases h
    rw [← hl n q]
    split at h
    · exact h
    · rename_i m since seen last hn
      have q : m ∈ rd := by
        split at h
        · split at h
          · cases h
          · split at h
            · cases h; simp
            · cases h; simp
            · cases h
        · cases h
      rw [← hl m q]
      exact h
    · cases h
  | _ => exact h

theorem entryD_local {x d : D} {rd : List Nm} (h : entryD hp x = some (d, rd)) (hl : ∀ n ∈ rd, hp n = hp' n) : entryD hp' x = some (d, rd) := by
  cases x with
  | own n =>
    simp only [entryD] at h ⊢
    have q : n ∈ rd := by
      split at h
      · split at h
        · split at h
          · split at h
            · cases h; simp
            · cases h
          · cases h
        · cases h
      · cases h
    rw [← hl n q]
    split at h
    · rename_i m since seen last hn
      have q : m ∈ rd := by
        split at h
        · split at h
          · split at h
            · cases h; simp
            · cases h
          · cases h
        · cases h
      rw [← hl m q]
      exact h
    · cases h
  | _ => exact h

theorem isNilD_local {t : TypeId} {x y : D} {b : Bool} {rd : List Nm} (h : isNilD P hp t x y = some (b, rd)) (hl : ∀ n ∈ rd, hp n = hp' n) : isNilD P hp' t x y = some (b, rd) := by
  unfold isNilD at h ⊢
  split at h
  · exact h
  · exact h
  · exact h
  · rename_i m _
    have q : m ∈ rd := by
      split at h
      · cases h; simp
      · cases h
    rw [← hl m q]
    exact h
  · exact h
  · exact h
  · cases h

end
end Go.Ab
