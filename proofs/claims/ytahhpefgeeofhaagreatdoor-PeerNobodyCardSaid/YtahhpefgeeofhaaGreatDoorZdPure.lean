/-
  What an operation yields out of plain data alone (opP), and that the machine yields it.
-/
import Derived.Test.YtahhpefgeeofhaaGreatDoorZdOps4
set_option linter.unusedSimpArgs false
set_option linter.unusedVariables false
namespace Go.Ab

def allD (ev : Operand → Option D) : List Operand → Option (List D)
  | [] => some []
  | x :: xs => match ev x, allD ev xs with
    | some d, some ds => some (d :: ds)
    | _, _ => none

def partsD (ev : Operand → Option D) : List (Nat × Operand) → Option (List (Nat × D))
  | [] => some []
  | (i, x) :: xs => match ev x, partsD ev xs with
    | some d, some ds => some ((i, d) :: ds)
    | _, _ => none

def optD (ev : Operand → Option D) : Option Operand → Option (Option D)
  | none => some none
  | some x => (ev x).map some

def binD (P : Program) (op : BinOp) (t : TypeId) : D → D → Option D
  | .v (.int k a), .v (.int k' b) => (intV op k a k' b).map .v
  | .v (.string a), .v (.string b) => (strV op a b).map .v
  | .agg xs, .agg ys => if P.eqGuardType P.depth t = false then (match op with
      | .eql => (eqD P 9 t (.agg xs) (.agg ys)).map fun b => .v (.bool b)
      | .neq => (eqD P 9 t (.agg xs) (.agg ys)).map fun b => .v (.bool !b)
      | _ => none) else none
  | .v (.bool a), .v (.bool b) => (match op with
      | .eql => (eqD P 9 t (.v (.bool a)) (.v (.bool b))).map fun b => .v (.bool b)
      | .neq => (eqD P 9 t (.v (.bool a)) (.v (.bool b))).map fun b => .v (.bool !b)
      | _ => none)
  | .ptr o k, .v (.pointer none) => (match op with
      | .eql => (eqD P 9 t (.ptr o k) (.v (.pointer none))).map fun b => .v (.bool b)
      | .neq => (eqD P 9 t (.ptr o k) (.v (.pointer none))).map fun b => .v (.bool !b)
      | _ => none)
  | .v (.pointer none), .v (.pointer none) => (match op with
      | .eql => (eqD P 9 t (.v (.pointer none)) (.v (.pointer none))).map fun b => .v (.bool b)
      | .neq => (eqD P 9 t (.v (.pointer none)) (.v (.pointer none))).map fun b => .v (.bool !b)
      | _ => none)
  | _, _ => none

def unD (op : UnOp) : D → Option D
  | .v (.int k n) => (match op with
      | .neg => some (.v (.int k (k.wrap (0 - n))))
      | .xor => some (.v (.int k (k.wrap ((BitVec.ofInt k.bits (if k.signed then -1 else k.max) ^^^ BitVec.ofInt k.bits n).toNat))))
      | _ => none)
  | .v (.bool b) => (match op with
      | .not => some (.v (.bool !b))
      | _ => none)
  | _ => none

def isByte (P : Program) (e : TypeId) : Bool := match P.underlying e with | some (.int .u8) => true | _ => false

def convD (P : Program) (src dst : TypeId) : D → Option D
  | .v (.int _ n) => (match P.underlying src, P.underlying dst with
      | some _, some (.int k) => some (.v (.int k (k.wrap n)))
      | _, _ => none)
  | .v (.string s) => (match P.underlying src, P.underlying dst with
      | some .string, some .string => some (.v (.string s))
      | _, _ => none)
  | .v (.slice none 0 0) => (match P.underlying src, P.underlying dst with
      | some (.slice e), some .string => if isByte P e = true then some (.v (.string .empty)) else none
      | _, _ => none)
  | .list _ es => (match P.underlying src, P.underlying dst with
      | some (.slice e), some .string => if isByte P e = true then (bytesD es).map fun ns => .v (.string (strOfNums ns)) else none
      | _, _ => none)
  | .full _ es => (match P.underlying src, P.underlying dst with
      | some (.slice e), some .string => if isByte P e = true then (bytesD es).map fun ns => .v (.string (strOfNums ns)) else none
      | _, _ => none)
  | _ => none

/-- A part of a slice or text. -/
def sliceD (P : Program) (t : TypeId) (x : D) (lo hi mx : Option D) : Option D :=
  match mx with
  | some _ => none
  | none => match x, P.underlying t with
    | .v (.string s), some .string => (boundsD s.size lo hi).map fun (l, h) => .v (.string (s.extract l h))
    | .v (.slice none 0 0), some (.slice e) => if P.info? e = none then none else (boundsD 0 lo hi).map fun _ => .v (.slice none 0 0)
    | .list k es, some (.slice e) => if P.info? e = none ∨ k ≠ szD P e then none else (boundsD es.length lo hi).map fun (l, h) => .list k ((es.take h).drop l)
    | .full k es, some (.slice e) => if P.info? e = none ∨ k ≠ szD P e then none else (boundsD es.length lo hi).map fun (l, h) => .list k ((es.take h).drop l)
    | _, _ => none

def indexAddrD (P : Program) (t : TypeId) (x ix : D) : Option D :=
  match x, P.underlying t with
  | .list k es, some (.slice e) => if P.info? e = none ∨ k ≠ szD P e then none else (ixD ix es.length).bind fun i => (es[i]?).map fun d => .elem d.cells 0
  | .full k es, some (.slice e) => if P.info? e = none ∨ k ≠ szD P e then none else (ixD ix es.length).bind fun i => (es[i]?).map fun d => .elem d.cells 0
  | .elem cs off, some (.array n e) => if P.info? e = none then none else (ixD ix n).map fun i => .elem cs (off + i * szD P e)
  | .ptr o off, some (.array n e) => if P.info? e = none then none else (ixD ix n).map fun i => .ptr o (off + i * szD P e)
  | _, _ => none

def indexD (P : Program) (t : TypeId) (x ix : D) : Option D :=
  match x, P.underlying t with
  | .agg cs, some (.array n e) => if P.info? e = none then none else (ixD ix n).bind fun i => partD P e cs (i * szD P e)
  | .v (.string s), some .string => (ixD ix s.size).bind fun i => (s.data.toList[i]?).map byteD
  | _, _ => none

def min2D (big : Bool) : D → D → Option D
  | .v (.int k a), .v (.int _ b) => some (.v (.int k (if big then (if b > a then b else a) else (if b < a then b else a))))
  | _, _ => none

def minGo (big : Bool) : D → List D → Option D
  | acc, [] => some acc
  | acc, d :: ds => (min2D big acc d).bind fun x => minGo big x ds

def minD (big : Bool) : List D → Option D
  | [] => none
  | d :: ds => minGo big d ds

def callD (P : Program) (ev : Operand → Option D) (c : Call) : Option D :=
  match c.callee with
  | .builtin .len => (match allD ev c.args.toList, c.argTypes.toList with
      | some [d], [t] => (match P.underlying t, d with
          | some .string, .v (.string s) => some (.v (.int .i64 s.size))
          | some (.slice _), .v (.slice none 0 0) => some (.v (.int .i64 0))
          | some (.slice _), .list _ es => some (.v (.int .i64 es.length))
          | some (.slice _), .full _ es => some (.v (.int .i64 es.length))
          | some (.array n _), _ => some (.v (.int .i64 n))
          | _, _ => none)
      | _, _ => none)
  | .builtin .min => (allD ev c.args.toList).bind (minD false)
  | .builtin .max => (allD ev c.args.toList).bind (minD true)
  | _ => none

def opP (P : Program) (ev : Operand → Option D) : Op → Option D
  | .move x | .assign x => ev x
  | .pick c a b => (match ev c with
      | some (.v (.bool t)) => if t then ev a else ev b
      | _ => none)
  | .build t parts => (partsD ev parts.toList).bind fun ps => (builtD P t ps).map .agg
  | .load t x => (match ev x with
      | some (.elem cs off) => partD P t cs off
      | _ => none)
  | .nilCheck x => (match ev x with
      | some (.elem cs off) => some (.elem cs off)
      | some (.ptr o off) => some (.ptr o off)
      | some (.func (.func f) a b) => some (.func (.func f) a b)
      | _ => none)
  | .binOp op t x y _ => (match ev x, ev y with
      | some dx, some dy => binD P op t dx dy
      | _, _ => none)
  | .unOp op _ x => (ev x).bind (unD op)
  | .convert src dst x => (ev x).bind (convD P src dst)
  | .makeFunc fn first cap => (match allD ev first.toList, allD ev cap.toList with
      | some a, some b => some (.func fn a b)
      | _, _ => none)
  | .slice t x lo hi mx => (match ev x, optD ev lo, optD ev hi, optD ev mx with
      | some d, some l, some h, some m => sliceD P t d l h m
      | _, _, _, _ => none)
  | .fieldAddr s x f => (match ev x, fieldOff P s f with
      | some (.elem cs off), some (k, _) => some (.elem cs (off + k))
      | some (.ptr o off), some (k, _) => some (.ptr o (off + k))
      | _, _ => none)
  | .field t x f => (match ev x with
      | some (.agg cs) => fieldD P t cs f
      | _ => none)
  | .indexAddr t x ix => (match ev x, ev ix with
      | some d, some i => indexAddrD P t d i
      | _, _ => none)
  | .index t x ix => (match ev x, ev ix with
      | some d, some i => indexD P t d i
      | _, _ => none)
  | .extract x i => (match ev x with
      | some (.tup ds) => ds[i]?
      | _ => none)
  | .call c => callD P ev c
  | _ => none

section
variable {P : Program} {g : G} {w : World} {a : Act} {ev : Operand → Option D}

theorem allD_rel (hev : ∀ x d, ev x = some d → Rel g w d (a.eval x)) : ∀ {xs : List Operand} {ds : List D}, allD ev xs = some ds → RelL g w ds (xs.map a.eval)
  | [], ds, h => by simp only [allD] at h; cases h; simp [RelL]
  | x :: xs, ds, h => by
    simp only [allD] at h
    split at h
    · rename_i d ds' h1 h2
      cases h
      simp only [List.map_cons, RelL]
      exact ⟨_, _, rfl, hev _ _ h1, allD_rel hev h2⟩
    · cases h

theorem partsD_rel (hev : ∀ x d, ev x = some d → Rel g w d (a.eval x)) : ∀ {xs : List (Nat × Operand)} {ds : List (Nat × D)}, partsD ev xs = some ds → RelP g w ds (xs.map fun p => (p.1, a.eval p.2))
  | [], ds, h => by simp only [partsD] at h; cases h; simp [RelP]
  | (i, x) :: xs, ds, h => by
    simp only [partsD] at h
    split at h
    · rename_i d ds' h1 h2
      cases h
      simp only [List.map_cons, RelP]
      exact ⟨trivial, hev _ _ h1, partsD_rel hev h2⟩
    · cases h

theorem optD_rel (hev : ∀ x d, ev x = some d → Rel g w d (a.eval x)) {x : Option Operand} {d : Option D} (h : optD ev x = some d) : RelO g w d (x.map a.eval) := by
  cases x with
  | none => simp only [optD] at h; cases h; trivial
  | some x =>
    simp only [optD] at h
    cases hx : ev x with
    | none => simp [hx] at h
    | some y => simp [hx] at h; subst h; exact hev _ _ hx

theorem rel_v {x u : Value} (h : Rel g w (.v x) u) : u = x := by simp only [Rel] at h; exact h.1
theorem rel_v_mk {x : Value} (h : noAgg x = true) : Rel g w (.v x) x := by show x = x ∧ _; exact ⟨rfl, h⟩

theorem intV_noAgg {op : BinOp} {k k' : IntKind} {a b : Int} {v : Value} (h : intV op k a k' b = some v) : noAgg v = true := by
  by_cases hk : k = k'
  · subst hk
    by_cases hb : b < 0 <;> by_cases hz : b = 0 <;> cases op <;> simp [intV, hb, hz] at h <;> (try subst h) <;> rfl
  · by_cases hb : b < 0 <;> cases op <;> simp [intV, hk, hb] at h <;> (try subst h) <;> rfl

theorem strV_noAgg {op : BinOp} {a b : ByteArray} {v : Value} (h : strV op a b = some v) : noAgg v = true := by
  by_cases hb : ((a.size + b.size : Nat) : Int) > IntKind.i64.max <;> cases op <;>
    simp only [strV, hb, if_true, if_false, Option.some.injEq, reduceCtorEq] at h <;> first | (subst h; rfl) | cases h

theorem run_eql {t : TypeId} {X Y : Value} {r : Bool} (h : (Op.equalIn 10000 t X Y).run P w = .ok r w) (hX : ∀ k n, X ≠ .int k n) (hs : ∀ s, X ≠ .string s) (hf : ∀ k n, X ≠ .float k n) (hc : ∀ k n m, X ≠ .complex k n m)
    (hY : ∀ k n, Y ≠ .int k n) : (binOp .eql t X Y).run P w = .ok (.bool r) w ∧ (binOp .neq t X Y).run P w = .ok (.bool !r) w := by
  cases X <;> first
    | exact absurd rfl (hX _ _)
    | exact absurd rfl (hs _)
    | exact absurd rfl (hf _ _)
    | exact absurd rfl (hc _ _ _)
    | (constructor <;> simp only [binOp, Sem.run_bind, Op.equal, Op.maxDepth, h, Result.andThen_ok, Sem.run_pure])

theorem run_eqGuard_plain {op : BinOp} {t : TypeId} {x y : Operand} {X Y : Value} (h1 : X ≠ .nilIface) (h2 : ∀ cs, X ≠ .agg cs) : (eqGuard op t x y X Y).run P w = .ok () w := by
  cases X <;> first
    | exact absurd rfl h1
    | exact absurd rfl (h2 _)
    | (unfold eqGuard; split <;> simp)

theorem run_binD {op : BinOp} {t : TypeId} {x y : Operand} {dx dy d : D} {X Y : Value} (h : binD P op t dx dy = some d) (rx : Rel g w dx X) (ry : Rel g w dy Y) :
    ∃ v, (do eqGuard op t x y X Y; binOp op t X Y : Sem Value).run P w = .ok v w ∧ Rel g w d v := by
  unfold binD at h
  split at h
  · obtain rfl := rel_v rx; obtain rfl := rel_v ry
    simp only [Option.map_eq_some_iff] at h
    obtain ⟨v, hv, rfl⟩ := h
    refine ⟨v, ?_, rel_v_mk (intV_noAgg hv)⟩
    rw [Sem.run_bind, run_eqGuard_plain (by simp) (by simp)]
    exact run_intV hv
  · obtain rfl := rel_v rx; obtain rfl := rel_v ry
    simp only [Option.map_eq_some_iff] at h
    obtain ⟨v, hv, rfl⟩ := h
    refine ⟨v, ?_, rel_v_mk (strV_noAgg hv)⟩
    rw [Sem.run_bind, run_eqGuard_plain (by simp) (by simp)]
    exact run_strV hv
  · rename_i xs ys
    split at h
    · rename_i hg
      have rx' := rx
      have ry' := ry
      simp only [Rel] at rx ry
      obtain ⟨us, rfl, _⟩ := rx
      obtain ⟨vs, rfl, _⟩ := ry
      have h1 := run_eqGuard_agg (P := P) w op t x y us.toArray vs.toArray hg
      split at h
      · simp only [Option.map_eq_some_iff] at h
        obtain ⟨b, hb, rfl⟩ := h
        have h2 := run_eql (run_eqD hb (d := 10000) (by omega) rx' ry') (by simp) (by simp) (by simp) (by simp) (by simp)
        exact ⟨_, by rw [Sem.run_bind, h1]; exact h2.1, rel_v_mk rfl⟩
      · simp only [Option.map_eq_some_iff] at h
        obtain ⟨b, hb, rfl⟩ := h
        have h2 := run_eql (run_eqD hb (d := 10000) (by omega) rx' ry') (by simp) (by simp) (by simp) (by simp) (by simp)
        exact ⟨_, by rw [Sem.run_bind, h1]; exact h2.2, rel_v_mk rfl⟩
      · cases h
    · cases h
  all_goals try (cases h; done)
  · have rx' := rx
    have ry' := ry
    obtain rfl := rel_v rx; obtain rfl := rel_v ry
    split at h
    · simp only [Option.map_eq_some_iff] at h
      obtain ⟨b, hb, rfl⟩ := h
      have h2 := run_eql (run_eqD hb (d := 10000) (by omega) rx' ry') (by simp) (by simp) (by simp) (by simp) (by simp)
      exact ⟨_, by rw [Sem.run_bind, run_eqGuard_plain (by simp) (by simp)]; exact h2.1, rel_v_mk rfl⟩
    · simp only [Option.map_eq_some_iff] at h
      obtain ⟨b, hb, rfl⟩ := h
      have h2 := run_eql (run_eqD hb (d := 10000) (by omega) rx' ry') (by simp) (by simp) (by simp) (by simp) (by simp)
      exact ⟨_, by rw [Sem.run_bind, run_eqGuard_plain (by simp) (by simp)]; exact h2.2, rel_v_mk rfl⟩
    · cases h
  · have rx' := rx
    have ry' := ry
    simp only [Rel] at rx
    obtain ⟨b0, k0, _, rfl⟩ := rx
    obtain rfl := rel_v ry
    split at h
    · simp only [Option.map_eq_some_iff] at h
      obtain ⟨b, hb, rfl⟩ := h
      have h2 := run_eql (run_eqD hb (d := 10000) (by omega) rx' ry') (by simp) (by simp) (by simp) (by simp) (by simp)
      exact ⟨_, by rw [Sem.run_bind, run_eqGuard_plain (by simp) (by simp)]; exact h2.1, rel_v_mk rfl⟩
    · simp only [Option.map_eq_some_iff] at h
      obtain ⟨b, hb, rfl⟩ := h
      have h2 := run_eql (run_eqD hb (d := 10000) (by omega) rx' ry') (by simp) (by simp) (by simp) (by simp) (by simp)
      exact ⟨_, by rw [Sem.run_bind, run_eqGuard_plain (by simp) (by simp)]; exact h2.2, rel_v_mk rfl⟩
    · cases h
  · have rx' := rx
    have ry' := ry
    obtain rfl := rel_v rx; obtain rfl := rel_v ry
    split at h
    · simp only [Option.map_eq_some_iff] at h
      obtain ⟨b, hb, rfl⟩ := h
      have h2 := run_eql (run_eqD hb (d := 10000) (by omega) rx' ry') (by simp) (by simp) (by simp) (by simp) (by simp)
      exact ⟨_, by rw [Sem.run_bind, run_eqGuard_plain (by simp) (by simp)]; exact h2.1, rel_v_mk rfl⟩
    · simp only [Option.map_eq_some_iff] at h
      obtain ⟨b, hb, rfl⟩ := h
      have h2 := run_eql (run_eqD hb (d := 10000) (by omega) rx' ry') (by simp) (by simp) (by simp) (by simp) (by simp)
      exact ⟨_, by rw [Sem.run_bind, run_eqGuard_plain (by simp) (by simp)]; exact h2.2, rel_v_mk rfl⟩
    · cases h

theorem run_convD {src dst : TypeId} {x d : D} {X : Value} (h : convD P src dst x = some d) (rx : Rel g w x X) :
    ∃ v, (convert src dst X).run P w = .ok v w ∧ Rel g w d v := by
  have hbyte : ∀ e, isByte P e = true → P.underlying e = some (.int .u8) := by
    intro e he
    unfold isByte at he
    split at he
    · assumption
    · cases he
  unfold convD at h
  split at h
  · obtain rfl := rel_v rx
    split at h
    · rename_i hs hd; cases h
      refine ⟨_, ?_, rel_v_mk rfl⟩
      simp [convert, run_underlying hs w, run_underlying hd w, Conv.intToInt]
    · cases h
  · obtain rfl := rel_v rx
    split at h
    · rename_i hs hd; cases h
      refine ⟨_, ?_, rel_v_mk rfl⟩
      simp [convert, run_underlying hs w, run_underlying hd w]
    · cases h
  · obtain rfl := rel_v rx
    split at h
    · rename_i e hs hd
      split at h
      · rename_i he; cases h
        exact ⟨_, run_convert_bytes_nil w src e hs (hbyte e he) 0 0 dst hd, rel_v_mk rfl⟩
      · cases h
    · cases h
  · split at h
    · rename_i e hs hd
      split at h
      · rename_i he
        simp only [Option.map_eq_some_iff] at h
        obtain ⟨ns, hns, rfl⟩ := h
        exact ⟨_, run_bytes_string hs (hbyte e he) hd rx hns, rel_v_mk rfl⟩
      · cases h
    · cases h
  · split at h
    · rename_i e hs hd
      split at h
      · rename_i he
        simp only [Option.map_eq_some_iff] at h
        obtain ⟨ns, hns, rfl⟩ := h
        exact ⟨_, run_bytes_string hs (hbyte e he) hd rx.list_of_full hns, rel_v_mk rfl⟩
      · cases h
    · cases h
  · cases h

theorem run_sliceD {t : TypeId} {x d : D} {X : Value} {lo hi mx : Option D} {vlo vhi vmx : Option Value} (h : sliceD P t x lo hi mx = some d) (rx : Rel g w x X) (rlo : RelO g w lo vlo) (rhi : RelO g w hi vhi) (rmx : RelO g w mx vmx) :
    ∃ v, (Instr.sliceAt t X vlo vhi vmx).run P w = .ok v w ∧ Rel g w d v := by
  unfold sliceD at h
  split at h
  · cases h
  · cases vmx with
    | some v => simp [RelO] at rmx
    | none =>
      split at h
      · rename_i s hu
        obtain rfl := rel_v rx
        simp only [Option.map_eq_some_iff] at h
        obtain ⟨⟨l, h'⟩, hb, rfl⟩ := h
        exact ⟨_, run_slice_str hu rlo rhi hb, rel_v_mk rfl⟩
      · rename_i e hu
        obtain rfl := rel_v rx
        split at h
        · cases h
        · rename_i hi
          simp only [Option.map_eq_some_iff] at h
          obtain ⟨⟨l, h'⟩, hb, rfl⟩ := h
          obtain ⟨h1, h2, h3⟩ := run_sliceBounds (P := P) (w := w) (isS := true) hb (Nat.zero_le 0) rlo rhi
          have e3 : h' = 0 := by omega
          subst e3
          have e2 : l = 0 := by omega
          subst e2
          refine ⟨.slice none 0 0, ?_, rel_v_mk rfl⟩
          simp [Instr.sliceAt, Instr.slice, Sem.run_bind, run_underlying hu w, h1, run_sizeOf' hi]
      · rename_i k es e hu
        split at h
        · cases h
        · rename_i hc
          simp only [Option.map_eq_some_iff] at h
          obtain ⟨⟨l, h'⟩, hb, rfl⟩ := h
          exact run_slice_list hu (fun e => hc (.inl e)) (Decidable.byContradiction fun e => hc (.inr e)) rx rlo rhi hb
      · rename_i k es e hu
        split at h
        · cases h
        · rename_i hc
          simp only [Option.map_eq_some_iff] at h
          obtain ⟨⟨l, h'⟩, hb, rfl⟩ := h
          exact run_slice_list hu (fun e => hc (.inl e)) (Decidable.byContradiction fun e => hc (.inr e)) rx.list_of_full rlo rhi hb
      · cases h

theorem run_indexAddrD {t : TypeId} {x ix d : D} {X I : Value} (h : indexAddrD P t x ix = some d) (rx : Rel g w x X) (ri : Rel g w ix I) :
    ∃ v, (Instr.indexAt t X I).run P w = .ok v w ∧ Rel g w d v := by
  unfold indexAddrD at h
  split at h
  · rename_i k es e hu
    split at h
    · cases h
    · rename_i hc
      simp only [Option.bind_eq_some_iff, Option.map_eq_some_iff] at h
      obtain ⟨i, hi, d', hd, rfl⟩ := h
      exact run_indexAt_list hu (fun e => hc (.inl e)) (Decidable.byContradiction fun e => hc (.inr e)) rx ri hi hd
  · rename_i k es e hu
    split at h
    · cases h
    · rename_i hc
      simp only [Option.bind_eq_some_iff, Option.map_eq_some_iff] at h
      obtain ⟨i, hi, d', hd, rfl⟩ := h
      exact run_indexAt_list hu (fun e => hc (.inl e)) (Decidable.byContradiction fun e => hc (.inr e)) rx.list_of_full ri hi hd
  · rename_i cs off n e hu
    split at h
    · cases h
    · rename_i hc
      simp only [Option.map_eq_some_iff] at h
      obtain ⟨i, hi, rfl⟩ := h
      simp only [Rel] at rx
      obtain ⟨b, o, vs, rfl, h1, h2⟩ := rx
      refine ⟨_, run_indexAt_arr hu hc ri hi, ?_⟩
      simp only [Rel]
      exact ⟨b, o, vs, by rw [Nat.add_assoc], h1, h2⟩
  · rename_i o off n e hu
    split at h
    · cases h
    · rename_i hc
      simp only [Option.map_eq_some_iff] at h
      obtain ⟨i, hi, rfl⟩ := h
      simp only [Rel] at rx
      obtain ⟨b, k, h1, rfl⟩ := rx
      refine ⟨_, run_indexAt_arr hu hc ri hi, ?_⟩
      simp only [Rel]
      exact ⟨b, k, h1, by rw [Nat.add_assoc]⟩
  · cases h

theorem run_indexD {t : TypeId} {x ix d : D} {X I : Value} (h : indexD P t x ix = some d) (rx : Rel g w x X) (ri : Rel g w ix I) :
    ∃ v, (Instr.index t X I).run P w = .ok v w ∧ Rel g w d v := by
  unfold indexD at h
  split at h
  · rename_i cs n e hu
    split at h
    · cases h
    · rename_i hc
      simp only [Option.bind_eq_some_iff] at h
      obtain ⟨i, hi, hp⟩ := h
      obtain ⟨k, rfl, hlt⟩ := ixD_spec hi ri
      simp only [Rel] at rx
      obtain ⟨vs, rfl, hl⟩ := rx
      obtain ⟨v, h1, h2⟩ := run_part (P := P) hp hl
      exact ⟨v, by simp [Instr.index, asIntOf, Sem.run_bind, run_underlying hu w, hlt, run_sizeOf' hc, h1], h2⟩
  · rename_i s hu
    obtain rfl := rel_v rx
    simp only [Option.bind_eq_some_iff, Option.map_eq_some_iff] at h
    obtain ⟨i, hi, b, hb, rfl⟩ := h
    obtain ⟨k, rfl, hlt⟩ := ixD_spec hi ri
    refine ⟨.int .u8 b.toNat, ?_, rel_v_mk rfl⟩
    have hb' : s[i]? = some b := by
      rw [← hb]
      simp [hlt, data_len]
      rfl
    simp [Instr.index, asIntOf, Sem.run_bind, run_underlying hu w, hb']
  · cases h

end
end Go.Ab
