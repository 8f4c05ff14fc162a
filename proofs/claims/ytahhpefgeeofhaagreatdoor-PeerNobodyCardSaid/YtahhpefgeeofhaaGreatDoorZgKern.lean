/-
  The run once more, in small constants that hand on to one another, for the kernel.
-/
import Derived.Test.YtahhpefgeeofhaaGreatDoorZgOp
set_option linter.unusedSimpArgs false
set_option linter.unusedVariables false
set_option linter.constructorNameAsVariable false
namespace Go.Ab

/-! ### Small parts -/

noncomputable def br (b x y : Bool) : Bool := Bool.rec (motive := fun _ => Bool) y x b
theorem br_eq (b x y : Bool) : br b x y = bif b then x else y := by cases b <;> rfl

noncomputable def kN (n : Nat) (k : Nat → Bool) : Bool := Nat.rec (motive := fun _ => Bool) (k Nat.zero) (fun m _ => k (Nat.succ m)) n
theorem kN_eq (n : Nat) (k : Nat → Bool) : kN n k = k n := by cases n <;> rfl

noncomputable def kO {α : Type} (o : Option α) (F : α → Bool) : Bool := Option.rec (motive := fun _ => Bool) false F o
theorem kO_eq {α : Type} {o : Option α} {F : α → Bool} (h : kO o F = true) : ∃ x, o = some x ∧ F x = true := by
  cases o with
  | none => cases h
  | some x => exact ⟨x, rfl, h⟩

noncomputable def kP {α β : Type} (p : α × β) (F : α → β → Bool) : Bool := Prod.rec (motive := fun _ => Bool) F p
theorem kP_eq {α β : Type} (p : α × β) (F : α → β → Bool) : kP p F = F p.1 p.2 := rfl

noncomputable def kV (d : D) (F : Value → Bool) (z : Bool) : Bool :=
  D.rec (motive_1 := fun _ => Bool) (motive_2 := fun _ => Bool) F (fun _ _ => z) (fun _ _ => z) (fun _ _ _ => z) (fun _ _ _ => z) (fun _ _ _ => z) (fun _ _ => z) (fun _ _ _ _ _ => z) (fun _ => z) (fun _ _ _ _ _ => z) (fun _ => z) (fun _ => z) z (fun _ _ _ _ => z) d
theorem kV_eq {d : D} {F : Value → Bool} {z : Bool} (h : kV d F z = true) : z = true ∨ ∃ x, d = .v x ∧ F x = true := by
  cases d <;> first | exact .inr ⟨_, rfl, h⟩ | exact .inl h

noncomputable def kI (v : Value) (F : IntKind → Int → Bool) (z : Bool) : Bool :=
  Value.rec (motive_1 := fun _ => Bool) (motive_2 := fun _ => Bool) (motive_3 := fun _ => Bool) (fun _ => z) F (fun _ _ => z) (fun _ _ _ => z) (fun _ => z) (fun _ => z) (fun _ _ _ => z) (fun _ => z) (fun _ => z) (fun _ _ _ _ _ => z) z (fun _ _ _ => z) z (fun _ _ => z) (fun _ _ => z) (fun _ _ => z) z (fun _ _ _ _ => z) v
theorem kI_eq {v : Value} {F : IntKind → Int → Bool} {z : Bool} (h : kI v F z = true) : z = true ∨ ∃ k n, v = .int k n ∧ F k n = true := by
  cases v <;> first | exact .inr ⟨_, _, rfl, h⟩ | exact .inl h

noncomputable def kB (v : Value) (F : Bool → Bool) (z : Bool) : Bool :=
  Value.rec (motive_1 := fun _ => Bool) (motive_2 := fun _ => Bool) (motive_3 := fun _ => Bool) F (fun _ _ => z) (fun _ _ => z) (fun _ _ _ => z) (fun _ => z) (fun _ => z) (fun _ _ _ => z) (fun _ => z) (fun _ => z) (fun _ _ _ _ _ => z) z (fun _ _ _ => z) z (fun _ _ => z) (fun _ _ => z) (fun _ _ => z) z (fun _ _ _ _ => z) v
theorem kB_eq {v : Value} {F : Bool → Bool} {z : Bool} (h : kB v F z = true) : z = true ∨ ∃ b, v = .bool b ∧ F b = true := by
  cases v <;> first | exact .inr ⟨_, rfl, h⟩ | exact .inl h

noncomputable def kZ (n : Int) (F : Nat → Bool) (z : Bool) : Bool := Int.rec (motive := fun _ => Bool) F (fun _ => z) n
theorem kZ_eq {n : Int} {F : Nat → Bool} {z : Bool} (h : kZ n F z = true) : z = true ∨ ∃ m : Nat, n = .ofNat m ∧ F m = true := by
  cases n with
  | ofNat m => exact .inr ⟨m, rfl, h⟩
  | negSucc m => exact .inl h

/-- A whole number not below nought. -/
noncomputable def kNat (d : D) (F : IntKind → Nat → Bool) (z : Bool) : Bool := kV d (fun v => kI v (fun k n => kZ n (F k) z) z) z
theorem kNat_eq {d : D} {F : IntKind → Nat → Bool} {z : Bool} (h : kNat d F z = true) : z = true ∨ ∃ k n, d = .v (.int k (.ofNat n)) ∧ F k n = true := by
  rcases kV_eq h with h | ⟨v, rfl, h⟩
  · exact .inl h
  rcases kI_eq h with h | ⟨k, n, rfl, h⟩
  · exact .inl h
  rcases kZ_eq h with h | ⟨m, rfl, h⟩
  · exact .inl h
  exact .inr ⟨k, m, rfl, h⟩

/-- A place. -/
noncomputable def kPl (d : D) (E : List D → Nat → Bool) (F : Nat → Nat → Bool) (z : Bool) : Bool :=
  D.rec (motive_1 := fun _ => Bool) (motive_2 := fun _ => Bool) (fun _ => z) (fun _ _ => z) (fun _ _ => z) (fun _ _ _ => z) (fun _ _ _ => z) (fun cs o _ => E cs o) F (fun _ _ _ _ _ => z) (fun _ => z) (fun _ _ _ _ _ => z) (fun _ => z) (fun _ => z) z (fun _ _ _ _ => z) d
theorem kPl_eq {d : D} {E : List D → Nat → Bool} {F : Nat → Nat → Bool} {z : Bool} (h : kPl d E F z = true) : z = true ∨ (∃ cs o, d = .elem cs o ∧ E cs o = true) ∨ ∃ n o, d = .ptr n o ∧ F n o = true := by
  cases d <;> first | exact .inr (.inl ⟨_, _, rfl, h⟩) | exact .inr (.inr ⟨_, _, rfl, h⟩) | exact .inl h

noncomputable def kSl (d : D) (F : Nat → Nat → Nat → Nat → Option Nat → Bool) (z : Bool) : Bool :=
  D.rec (motive_1 := fun _ => Bool) (motive_2 := fun _ => Bool) (fun _ => z) (fun _ _ => z) (fun _ _ => z) (fun _ _ _ => z) (fun _ _ _ => z) (fun _ _ _ => z) (fun _ _ => z) F (fun _ => z) (fun _ _ _ _ _ => z) (fun _ => z) (fun _ => z) z (fun _ _ _ _ => z) d
theorem kSl_eq {d : D} {F : Nat → Nat → Nat → Nat → Option Nat → Bool} {z : Bool} (h : kSl d F z = true) : z = true ∨ ∃ k o off len cap, d = .sl k o off len cap ∧ F k o off len cap = true := by
  cases d <;> first | exact .inr ⟨_, _, _, _, _, rfl, h⟩ | exact .inl h

noncomputable def kCells (o : Option Ob) (F : List D → Bool) (z : Bool) : Bool :=
  Option.rec (motive := fun _ => Bool) z (fun ob => Ob.rec (motive := fun _ => Bool) F (fun _ _ => z) (fun _ _ _ _ => z) (fun _ _ _ _ _ _ => z) z ob) o
theorem kCells_eq {o : Option Ob} {F : List D → Bool} {z : Bool} (h : kCells o F z = true) : z = true ∨ ∃ cs, o = some (.cells cs) ∧ F cs = true := by
  cases o with
  | none => exact .inl h
  | some ob => cases ob <;> first | exact .inr ⟨_, rfl, h⟩ | exact .inl h

noncomputable def ET.at (et : ET) : Nat → Option D :=
  ET.rec (motive := fun _ => Nat → Option D) (fun _ => none) (fun v _ _ gl gr k => Bool.rec (motive := fun _ => Option D) (Bool.rec (motive := fun _ => Option D) (gl (Nat.div (Nat.sub k 1) 2)) (gr (Nat.div (Nat.sub k 1) 2)) (Nat.beq (Nat.mod k 2) 0)) v (Nat.beq k 0)) et
theorem ET.at_eq : ∀ (et : ET) (k : Nat), et.at k = et.get k
  | .e, k => rfl
  | .n v l r, k => by
    have hl := ET.at_eq l ((k - 1) / 2)
    have hr := ET.at_eq r ((k - 1) / 2)
    show Bool.rec (motive := fun _ => Option D) (Bool.rec (motive := fun _ => Option D) (l.at ((k - 1) / 2)) (r.at ((k - 1) / 2)) (Nat.beq (k % 2) 0)) v (Nat.beq k 0) = _
    rw [hl, hr]
    simp only [ET.get]
    cases Nat.beq k 0 <;> cases Nat.beq (k % 2) 0 <;> rfl

noncomputable def Tr.at (t : Tr) : Nat → Option Ob :=
  Tr.rec (motive := fun _ => Nat → Option Ob) (fun _ => none) (fun v _ _ gl gr k => Bool.rec (motive := fun _ => Option Ob) (Bool.rec (motive := fun _ => Option Ob) (gl (Nat.div (Nat.sub k 1) 2)) (gr (Nat.div (Nat.sub k 1) 2)) (Nat.beq (Nat.mod k 2) 0)) v (Nat.beq k 0)) t
theorem Tr.at_eq : ∀ (t : Tr) (k : Nat), t.at k = t.get k
  | .e, k => rfl
  | .n v l r, k => by
    have hl := Tr.at_eq l ((k - 1) / 2)
    have hr := Tr.at_eq r ((k - 1) / 2)
    show Bool.rec (motive := fun _ => Option Ob) (Bool.rec (motive := fun _ => Option Ob) (l.at ((k - 1) / 2)) (r.at ((k - 1) / 2)) (Nat.beq (k % 2) 0)) v (Nat.beq k 0) = _
    rw [hl, hr]
    simp only [Tr.get]
    cases Nat.beq k 0 <;> cases Nat.beq (k % 2) 0 <;> rfl
theorem Tr.at_fun (t : Tr) : t.at = t.get := funext (Tr.at_eq t)

/-- One place changed; out of depth: as it was. -/
noncomputable def ET.kset (f : Nat) : ET → Nat → D → (ET → Bool) → Bool :=
  Nat.rec (motive := fun _ => ET → Nat → D → (ET → Bool) → Bool) (fun t _ _ K => K t) (fun _ ih t k d K =>
    ET.rec (motive := fun _ => Bool)
      (br (Nat.beq k 0) (K (.n (some d) .e .e)) (br (Nat.beq (Nat.mod k 2) 0) (ih .e (Nat.div (Nat.sub k 1) 2) d (fun r => K (.n none .e r))) (ih .e (Nat.div (Nat.sub k 1) 2) d (fun l => K (.n none l .e)))))
      (fun v l r _ _ => br (Nat.beq k 0) (K (.n (some d) l r)) (br (Nat.beq (Nat.mod k 2) 0) (ih r (Nat.div (Nat.sub k 1) 2) d (fun r => K (.n v l r))) (ih l (Nat.div (Nat.sub k 1) 2) d (fun l => K (.n v l r))))) t) f
theorem ET.kset_eq : ∀ (f : Nat) (t : ET) (k : Nat) (d : D) (K : ET → Bool), ET.kset f t k d K = K (ET.set f t k (some d))
  | 0, t, k, d, K => rfl
  | f + 1, .e, k, d, K => by
    show br (Nat.beq k 0) (K (.n (some d) .e .e)) (br (Nat.beq (k % 2) 0) (ET.kset f .e ((k - 1) / 2) d (fun r => K (.n none .e r))) (ET.kset f .e ((k - 1) / 2) d (fun l => K (.n none l .e)))) = _
    simp only [ET.kset_eq f, br_eq, ET.set]
    cases Nat.beq k 0 <;> cases Nat.beq (k % 2) 0 <;> rfl
  | f + 1, .n v l r, k, d, K => by
    show br (Nat.beq k 0) (K (.n (some d) l r)) (br (Nat.beq (k % 2) 0) (ET.kset f r ((k - 1) / 2) d (fun r => K (.n v l r))) (ET.kset f l ((k - 1) / 2) d (fun l => K (.n v l r)))) = _
    simp only [ET.kset_eq f, br_eq, ET.set]
    cases Nat.beq k 0 <;> cases Nat.beq (k % 2) 0 <;> rfl

noncomputable def Tr.kset (f : Nat) : Tr → Nat → Option Ob → (Tr → Bool) → Bool :=
  Nat.rec (motive := fun _ => Tr → Nat → Option Ob → (Tr → Bool) → Bool) (fun t _ _ K => K t) (fun _ ih t k d K =>
    Tr.rec (motive := fun _ => Bool)
      (br (Nat.beq k 0) (K (.n d .e .e)) (br (Nat.beq (Nat.mod k 2) 0) (ih .e (Nat.div (Nat.sub k 1) 2) d (fun r => K (.n none .e r))) (ih .e (Nat.div (Nat.sub k 1) 2) d (fun l => K (.n none l .e)))))
      (fun v l r _ _ => br (Nat.beq k 0) (K (.n d l r)) (br (Nat.beq (Nat.mod k 2) 0) (ih r (Nat.div (Nat.sub k 1) 2) d (fun r => K (.n v l r))) (ih l (Nat.div (Nat.sub k 1) 2) d (fun l => K (.n v l r))))) t) f
theorem Tr.kset_eq : ∀ (f : Nat) (t : Tr) (k : Nat) (d : Option Ob) (K : Tr → Bool), Tr.kset f t k d K = K (Tr.set f t k d)
  | 0, t, k, d, K => rfl
  | f + 1, .e, k, d, K => by
    show br (Nat.beq k 0) (K (.n d .e .e)) (br (Nat.beq (k % 2) 0) (Tr.kset f .e ((k - 1) / 2) d (fun r => K (.n none .e r))) (Tr.kset f .e ((k - 1) / 2) d (fun l => K (.n none l .e)))) = _
    simp only [Tr.kset_eq f, br_eq, Tr.set]
    cases Nat.beq k 0 <;> cases Nat.beq (k % 2) 0 <;> rfl
  | f + 1, .n v l r, k, d, K => by
    show br (Nat.beq k 0) (K (.n d l r)) (br (Nat.beq (k % 2) 0) (Tr.kset f r ((k - 1) / 2) d (fun r => K (.n v l r))) (Tr.kset f l ((k - 1) / 2) d (fun l => K (.n v l r)))) = _
    simp only [Tr.kset_eq f, br_eq, Tr.set]
    cases Nat.beq k 0 <;> cases Nat.beq (k % 2) 0 <;> rfl

noncomputable def kUpsG (S : Tr → Nat → Option Ob → (Tr → Bool) → Bool) (us : Up) : Tr → (Tr → Bool) → Bool :=
  List.rec (motive := fun _ => Tr → (Tr → Bool) → Bool) (fun t K => K t) (fun p _ ih t K => kP p fun m o => S t m o fun t => ih t K) us
theorem kUpsG_eq {S : Tr → Nat → Option Ob → (Tr → Bool) → Bool} (hS : ∀ t m o K, S t m o K = K (Tr.set TF t m o)) : ∀ (us : Up) (t : Tr) (K : Tr → Bool), kUpsG S us t K = K (t.ups us)
  | [], t, K => rfl
  | (m, o) :: us, t, K => by
    show S t m o (fun t => kUpsG S us t K) = _
    rw [hS, kUpsG_eq hS us]
    rfl
noncomputable def kUps (us : Up) : Tr → (Tr → Bool) → Bool := kUpsG (Tr.kset TF) us
theorem kUps_eq (us : Up) (t : Tr) (K : Tr → Bool) : kUps us t K = K (t.ups us) := kUpsG_eq (fun t m o K => Tr.kset_eq TF t m o K) us t K

noncomputable def kApp (ns : List Nat) : List Nat → (List Nat → Bool) → Bool :=
  List.rec (motive := fun _ => List Nat → (List Nat → Bool) → Bool) (fun l K => K l) (fun n _ ih l K => ih l fun l => K (n :: l)) ns
theorem kApp_eq : ∀ (ns l : List Nat) (K : List Nat → Bool), kApp ns l K = K (ns ++ l)
  | [], l, K => rfl
  | n :: ns, l, K => by
    show kApp ns l (fun l => K (n :: l)) = _
    rw [kApp_eq ns]; rfl

/-- The names of what has changed. -/
noncomputable def kNames (us : Up) : (List Nat → Bool) → Bool :=
  List.rec (motive := fun _ => (List Nat → Bool) → Bool) (fun K => K []) (fun p _ ih K => kP p fun m _ => ih fun l => K (m :: l)) us
theorem kNames_eq : ∀ (us : Up) (K : List Nat → Bool), kNames us K = K (us.map (·.1))
  | [], K => rfl
  | (m, o) :: us, K => by
    show kNames us (fun l => K (m :: l)) = _
    rw [kNames_eq us]; rfl

/-- The list laid out. -/
noncomputable def kSpine {α : Type} (l : List α) : (List α → Bool) → Bool :=
  List.rec (motive := fun _ => (List α → Bool) → Bool) (fun K => K []) (fun d _ ih K => ih fun l => K (d :: l)) l
theorem kSpine_eq {α : Type} : ∀ (l : List α) (K : List α → Bool), kSpine l K = K l
  | [], K => rfl
  | d :: l, K => by
    show kSpine l (fun l => K (d :: l)) = _
    rw [kSpine_eq l]

noncomputable def kNth (l : List D) : Nat → (D → Bool) → Bool :=
  List.rec (motive := fun _ => Nat → (D → Bool) → Bool) (fun _ _ => false) (fun d _ ih n K => Nat.rec (motive := fun _ => Bool) (K d) (fun m _ => ih m K) n) l
theorem kNth_eq : ∀ {l : List D} {n : Nat} {K : D → Bool}, kNth l n K = true → ∃ d, l[n]? = some d ∧ K d = true
  | [], n, K, h => by cases h
  | d :: l, 0, K, h => ⟨d, rfl, h⟩
  | d :: l, n + 1, K, h => by
    obtain ⟨x, h1, h2⟩ := kNth_eq (l := l) (n := n) (K := K) h
    exact ⟨x, by simpa using h1, h2⟩

noncomputable def kDrop (l : List D) : Nat → (List D → Bool) → Bool :=
  List.rec (motive := fun _ => Nat → (List D → Bool) → Bool) (fun _ K => K []) (fun d tl ih n K => Nat.rec (motive := fun _ => Bool) (K (d :: tl)) (fun m _ => ih m K) n) l
theorem kDrop_eq : ∀ (l : List D) (n : Nat) (K : List D → Bool), kDrop l n K = K (l.drop n)
  | [], n, K => by simp only [List.drop_nil]; rfl
  | d :: l, 0, K => rfl
  | d :: l, n + 1, K => by
    show kDrop l n K = _
    rw [kDrop_eq l]; rfl

noncomputable def kTake (l : List D) : Nat → (List D → Bool) → Bool :=
  List.rec (motive := fun _ => Nat → (List D → Bool) → Bool) (fun _ K => K []) (fun d tl ih n K => Nat.rec (motive := fun _ => Bool) (K []) (fun m _ => ih m fun l => K (d :: l)) n) l
theorem kTake_eq : ∀ (l : List D) (n : Nat) (K : List D → Bool), kTake l n K = K (l.take n)
  | [], n, K => by simp only [List.take_nil]; rfl
  | d :: l, 0, K => rfl
  | d :: l, n + 1, K => by
    show kTake l n (fun l => K (d :: l)) = _
    rw [kTake_eq l]; rfl

/-- One cell changed. -/
noncomputable def kSet (l : List D) : Nat → D → (List D → Bool) → Bool :=
  List.rec (motive := fun _ => Nat → D → (List D → Bool) → Bool) (fun _ _ _ => false) (fun d tl ih n x K => Nat.rec (motive := fun _ => Bool) (K (x :: tl)) (fun m _ => ih m x fun l => K (d :: l)) n) l
theorem kSet_eq : ∀ {l : List D} {n : Nat} {x : D} {K : List D → Bool}, kSet l n x K = true → n < l.length ∧ K (l.take n ++ [x] ++ l.drop (n + 1)) = true
  | [], n, x, K, h => by cases h
  | d :: l, 0, x, K, h => ⟨by simp, h⟩
  | d :: l, n + 1, x, K, h => by
    obtain ⟨h1, h2⟩ := kSet_eq (l := l) (n := n) (x := x) h
    exact ⟨by simpa using h1, by simpa using h2⟩

end Go.Ab
