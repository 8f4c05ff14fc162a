/-
  Region.lexB, quick to work out.
-/
import Derived.Test.YtahhpefgeeofhaaGreatDoorZhCode
set_option linter.unusedSimpArgs false
set_option linter.unusedVariables false
namespace Go.Ab

def edgesB (md : Region.Mode) (k : Nat) (o : Oper) : Bool := o.after.toList.all fun e => !Region.binds md e || Nat.blt e.on k
def pairB (md : Region.Mode) (ops : Array Oper) (k : Nat) (o oj : Oper) : Bool := oj.after.toList.any (fun e => Region.binds md e && Nat.beq e.on k) || o.apart ops oj
def lexL (md : Region.Mode) (ops : Array Oper) : Nat → List Oper → Bool
  | _, [] => true
  | k, o :: rest => edgesB md k o && rest.all (pairB md ops k o) && lexL md ops (k + 1) rest

/-- The first k have been taken. -/
def Took (n k : Nat) (listed : Array Bool) : Prop := listed.size = n ∧ ∀ i, i < n → listed[i]? = some (decide (i < k))

theorem Took.t {n k i : Nat} {listed : Array Bool} (h : Took n k listed) (hi : i < n) (b : Bool) : listed.getD i b = decide (i < k) := by
  rw [Array.getD_eq_getD_getElem?, h.2 i hi]; rfl

theorem lexFrom_of_L {md : Region.Mode} {ops : Array Oper} : ∀ (l : List Oper) (k : Nat) (listed : Array Bool), (∀ j, l[j]? = ops[k + j]?) → k + l.length = ops.size → Took ops.size k listed → lexL md ops k l = true →
    Region.lexFrom md ops l.length k listed = true
  | [], k, listed, hl, hn, hT, h => by
    simp only [List.length_nil, Region.lexFrom, List.isEmpty_iff]
    unfold Region.ready
    rw [List.filter_eq_nil_iff]
    intro i hi
    have hi' := List.mem_range.1 hi
    simp only [List.length_nil, Nat.add_zero] at hn
    rw [hT.t hi', hn]
    simp [hi']
  | o :: l, k, listed, hl, hn, hT, h => by
    simp only [lexL, Bool.and_eq_true] at h
    obtain ⟨⟨h1, h2⟩, h3⟩ := h
    simp only [List.length_cons] at hn
    have hk : k < ops.size := by omega
    have h0 : ops[k]? = some o := by simpa using (hl 0).symm
    simp only [List.length_cons, Region.lexFrom, Bool.and_eq_true]
    refine ⟨⟨?_, ?_⟩, ?_⟩
    · rw [List.contains_iff_mem]
      unfold Region.ready
      rw [List.mem_filter]
      refine ⟨List.mem_range.2 hk, ?_⟩
      rw [hT.t hk, h0]
      simp only [Nat.lt_irrefl, decide_false, Bool.not_false, Bool.true_and, Option.map_some, Option.getD_some]
      rw [Array.all_eq_true_iff_forall_mem]
      intro e he
      have := List.all_eq_true.1 h1 e (by simpa using he)
      simp only [Bool.or_eq_true, Bool.not_eq_true'] at this ⊢
      rcases this with h | h
      · exact .inl h
      · right
        have hlt : e.on < k := by simpa using h
        rw [hT.t (by omega)]
        simpa using hlt
    · unfold Region.free
      rw [h0]
      simp only [List.all_eq_true, List.mem_range]
      intro j hj
      rw [hT.t hj]
      by_cases hjk : j = k
      · simp [hjk]
      · by_cases hlt : j < k
        · simp [hlt]
        · have hq := hl (j - k)
          rw [show k + (j - k) = j by omega] at hq
          rw [show j - k = (j - k - 1) + 1 by omega, List.getElem?_cons_succ] at hq
          have hj2 : ops[j]? = some ops[j] := Array.getElem?_eq_getElem hj
          rw [hj2] at hq
          have hp := List.all_eq_true.1 h2 _ (List.mem_of_getElem? hq)
          rw [hj2]
          simp only [pairB, Bool.or_eq_true] at hp
          simp only [Bool.or_eq_true]
          right
          rcases hp with hp | hp
          · left
            rw [List.any_eq_true] at hp
            obtain ⟨e, he, hb⟩ := hp
            rw [← Array.any_toList, List.any_eq_true]
            refine ⟨e, by simpa using he, ?_⟩
            simpa using hb
          · exact .inr hp
    · refine lexFrom_of_L l (k + 1) _ (fun j => ?_) (by omega) ⟨by simp [hT.1], fun i hi => ?_⟩ h3
      · have := hl (j + 1)
        rw [List.getElem?_cons_succ] at this
        rw [this, show k + 1 + j = k + (j + 1) by omega]
      · rw [Array.getElem?_setIfInBounds]
        by_cases hik : k = i
        · subst hik
          simp [hT.1, hi]
        · rw [if_neg hik, hT.2 i hi]
          congr 1
          simp only [decide_eq_decide]
          omega

def lexF (md : Region.Mode) (ops : Array Oper) : Bool := Region.noSelect ops && lexL md ops 0 ops.toList
theorem lexB_of_F {md : Region.Mode} {ops : Array Oper} (h : lexF md ops = true) : Region.lexB md ops = true := by
  simp only [lexF, Bool.and_eq_true] at h
  simp only [Region.lexB, Bool.and_eq_true]
  refine ⟨h.1, ?_⟩
  have := lexFrom_of_L (md := md) (ops := ops) ops.toList 0 (Array.replicate ops.size false) (fun j => by simp) (by simp) ⟨by simp, fun i hi => by simp [hi]⟩ h.2
  simpa using this

def codeOKG : Code → Bool
  | .region _ ops draw => apartL ops.toList && (!draw || lexF .any ops)
  | .seq a b => codeOKG a && codeOKG b
  | .cond _ a b => codeOKG a && codeOKG b
  | .block _ b => codeOKG b
  | .loop b => codeOKG b
  | .rangeFunc _ _ a b => codeOKG a && codeOKG b
  | _ => true

theorem codeOK_of_G : ∀ {c : Code}, codeOKG c = true → codeOK c = true
  | .region _ ops draw, h => by
    simp only [codeOKG, Bool.and_eq_true, Bool.or_eq_true] at h
    simp only [codeOK, regOK, Bool.and_eq_true, Bool.or_eq_true]
    exact ⟨apartB_of_L h.1, h.2.imp id lexB_of_F⟩
  | .seq a b, h => by
    simp only [codeOKG, Bool.and_eq_true] at h
    simp only [codeOK, Bool.and_eq_true]
    exact ⟨codeOK_of_G h.1, codeOK_of_G h.2⟩
  | .cond _ a b, h => by
    simp only [codeOKG, Bool.and_eq_true] at h
    simp only [codeOK, Bool.and_eq_true]
    exact ⟨codeOK_of_G h.1, codeOK_of_G h.2⟩
  | .block _ b, h => codeOK_of_G (c := b) h
  | .loop b, h => codeOK_of_G (c := b) h
  | .rangeFunc _ _ a b, h => by
    simp only [codeOKG, Bool.and_eq_true] at h
    simp only [codeOK, Bool.and_eq_true]
    exact ⟨codeOK_of_G h.1, codeOK_of_G h.2⟩
  | .skip, _ => rfl
  | .exit _, _ => rfl
  | .scope _, _ => rfl
  | .label _, _ => rfl
  | .goto _, _ => rfl
  | .ret, _ => rfl
  | .refuse _, _ => rfl

def fnGood (fn : Func) : Bool := fn.name != "runtime.NumGoroutine" && (match fn.body with | some c => codeOKG c | none => true)
theorem fnGood_spec {fn : Func} (h : fnGood fn = true) : fn.name ≠ "runtime.NumGoroutine" ∧ ∀ c, fn.body = some c → codeOK c = true := by
  simp only [fnGood, Bool.and_eq_true, bne_iff_ne, ne_eq] at h
  exact ⟨h.1, fun c hc => codeOK_of_G (by have := h.2; rw [hc] at this; exact this)⟩

end Go.Ab
