/-
  Operations, each a small constant, for the kernel: the same as opH.
-/
import Derived.Test.YtahhpefgeeofhaaGreatDoorZfFast
set_option linter.unusedSimpArgs false
set_option linter.unusedVariables false
set_option linter.constructorNameAsVariable false
namespace Go.Ab

def hPick (ev : Operand → Option D) (c a b : Operand) : OutH := pureH (match ev c with
  | some (.v (.bool t)) => if t then ev a else ev b
  | _ => none)
def hAlloc (P : Program) (nm : Nm) (t : TypeId) : OutH := match zerosD P t with
  | some cs => some (.ptr nm 0, [(nm, some (.cells cs))], [])
  | none => none
def hBox (ev : Operand → Option D) (nm : Nm) (_ : TypeId) (x : Operand) : OutH := match ev x with
  | some d => some (.ptr nm 0, [(nm, some (.cells d.cells))], [])
  | none => none
def hBuild (P : Program) (ev : Operand → Option D) (t : TypeId) (parts : Array (Nat × Operand)) : OutH := pureH ((partsD ev parts.toList).bind fun ps => (builtD P t ps).map .agg)
def hBuildSlice (P : Program) (ev : Operand → Option D) (nm : Nm) (t : TypeId) (len : Nat) (parts : Array (Nat × Operand)) : OutH := match partsD ev parts.toList with
  | some ps => buildSliceD P nm t len ps
  | none => none
def hLoad (P : Program) (ev : Operand → Option D) (hp : Hp) (t : TypeId) (x : Operand) : OutH := match ev x with
  | some (.ptr n off) => (match hp n with
    | some (.cells cs) => (match partD P t cs off with
      | some d => some (d, [], [n])
      | none => none)
    | _ => none)
  | some (.elem cs off) => pureH (partD P t cs off)
  | _ => none
def hStore (P : Program) (ev : Operand → Option D) (hp : Hp) (t : TypeId) (x y : Operand) : OutH := match ev x, ev y with
  | some (.ptr n off), some d => (match hp n with
    | some (.cells cs) => if P.info? t ≠ none ∧ d.cells.length = szD P t ∧ off + d.cells.length ≤ cs.length ∧ d.cells.all D.isCell = true then some (D.undef, [(n, some (.cells (spliceD cs d.cells off)))], [n]) else none
    | _ => none)
  | _, _ => none
def hNilCheck (ev : Operand → Option D) (x : Operand) : OutH := pureH (match ev x with
  | some (.elem cs off) => some (.elem cs off)
  | some (.ptr o off) => some (.ptr o off)
  | some (.func (.func f) a b) => some (.func (.func f) a b)
  | _ => none)
def hBin (P : Program) (ev : Operand → Option D) (hp : Hp) (op : BinOp) (t : TypeId) (x y : Operand) (_ : TypeId) : OutH := match ev x, ev y with
  | some dx, some dy => (match binH P hp op t dx dy with
    | some (d, rd) => some (d, [], rd)
    | none => none)
  | _, _ => none
def hUn (ev : Operand → Option D) (op : UnOp) (_ : TypeId) (x : Operand) : OutH := pureH ((ev x).bind (unD op))
def hConvert (P : Program) (ev : Operand → Option D) (hp : Hp) (src dst : TypeId) (x : Operand) : OutH := match ev x with
  | some (.sl k o off n cap) => (match P.underlying src, P.underlying dst with
    | some (.slice e), some .string => if isByte P e = true then (match srcD hp 1 (.sl k o off n cap) with
        | some (_, cs, rd) => (match bytesD cs with
          | some ns => some (.v (.string (strOfNums ns)), [], rd)
          | none => none)
        | none => none) else none
    | _, _ => none)
  | some d => pureH (convD P src dst d)
  | none => none
def hMakeFunc (ev : Operand → Option D) (fn : Fn) (first cap : Array Operand) : OutH := pureH (match allD ev first.toList, allD ev cap.toList with
  | some a, some b => some (.func fn a b)
  | _, _ => none)
def hMakeMap (P : Program) (ev : Operand → Option D) (nm : Nm) (t : TypeId) (r : Option Operand) : OutH := match r with
  | none => some (.own nm, [(nm, some (.map [] 0))], [])
  | some x => (match ev x, P.underlying t with
    | some (.v (.int _ _)), some (.map _ _) => some (.own nm, [(nm, some (.map [] 0))], [])
    | _, _ => none)
def hMakeSlice (P : Program) (ev : Operand → Option D) (nm : Nm) (t : TypeId) (l c : Operand) : OutH := match ev l, ev c with
  | some dl, some dc => makeSliceD P nm t dl dc
  | _, _ => none
def hSlice (P : Program) (ev : Operand → Option D) (hp : Hp) (t : TypeId) (x : Operand) (lo hi mx : Option Operand) : OutH := match ev x, optD ev lo, optD ev hi, optD ev mx with
  | some d, some l, some h, some m => if placed d = true then (match sliceH P hp t d l h m with
    | some (r, rd) => some (r, [], rd)
    | none => none) else pureH (sliceD P t d l h m)
  | _, _, _, _ => none
def hFieldAddr (P : Program) (ev : Operand → Option D) (s : TypeId) (x : Operand) (f : Nat) : OutH := pureH (match ev x, fieldOff P s f with
  | some (.elem cs off), some (k, _) => some (.elem cs (off + k))
  | some (.ptr o off), some (k, _) => some (.ptr o (off + k))
  | _, _ => none)
def hField (P : Program) (ev : Operand → Option D) (t : TypeId) (x : Operand) (f : Nat) : OutH := pureH (match ev x with
  | some (.agg cs) => fieldD P t cs f
  | _ => none)
def hIndexAddr (P : Program) (ev : Operand → Option D) (t : TypeId) (x ix : Operand) : OutH := match ev x, ev ix with
  | some (.sl k o off len cap), some i => (match P.underlying t with
    | some (.slice e) => if P.info? e = none ∨ k ≠ szD P e then none else (match ixD i len with
      | some j => some (.ptr o (off + j * k), [], [])
      | none => none)
    | _ => none)
  | some d, some i => pureH (indexAddrD P t d i)
  | _, _ => none
def hIndex (P : Program) (ev : Operand → Option D) (t : TypeId) (x ix : Operand) : OutH := pureH (match ev x, ev ix with
  | some d, some i => indexD P t d i
  | _, _ => none)
def hLookup (P : Program) (ev : Operand → Option D) (hp : Hp) (t : TypeId) (x k : Operand) (c : Bool) : OutH := match ev x, ev k with
  | some dx, some dk => (match lookupD P hp t dx dk c with
    | some (d, rd) => some (d, [], rd)
    | none => none)
  | _, _ => none
def hMapUpdate (P : Program) (ev : Operand → Option D) (hp : Hp) (t : TypeId) (m k x : Operand) : OutH := match ev m, ev k, ev x with
  | some dm, some dk, some dx => (match mapUpdateD P hp t dm dk dx with
    | some (us, rd) => some (D.undef, us, rd)
    | none => none)
  | _, _, _ => none
def hMapEntry (P : Program) (ev : Operand → Option D) (hp : Hp) (t : TypeId) (m k : Operand) : OutH := match ev m, ev k with
  | some dm, some dk => mapEntryD P hp t dm dk
  | _, _ => none
def hEntryStore (ev : Operand → Option D) (hp : Hp) (_ : TypeId) (m s x : Operand) : OutH := match ev m, ev s, ev x with
  | some dm, some ds, some dx => (match entryStoreD hp dm ds dx with
    | some (us, rd) => some (D.undef, us, rd)
    | none => none)
  | _, _, _ => none
def hRange (P : Program) (ev : Operand → Option D) (hp : Hp) (nm : Nm) (t : TypeId) (x : Operand) : OutH := match ev x with
  | some d => rangeD P hp nm t d
  | none => none
def hNext (ev : Operand → Option D) (hp : Hp) (x : Operand) (b : Bool) : OutH := match b with
  | false => (match ev x with
    | some d => nextD hp d
    | none => none)
  | true => none
def hEntry (ev : Operand → Option D) (hp : Hp) (x : Operand) : OutH := match ev x with
  | some d => (match entryD hp d with
    | some (r, rd) => some (r, [], rd)
    | none => none)
  | none => none
def hExtract (ev : Operand → Option D) (x : Operand) (i : Nat) : OutH := pureH (match ev x with
  | some (.tup ds) => ds[i]?
  | _ => none)
def hCall (P : Program) (ev : Operand → Option D) (hp : Hp) (nm : Nm) (c : Call) : OutH := match c.callee with
  | .builtin b => (match allD ev c.args.toList with
    | some ds => if looks b ds = true then builtinH P hp nm b ds c.argTypes.toList else pureH (callD P ev c)
    | none => none)
  | _ => none
def hMove (ev : Operand → Option D) (x : Operand) : OutH := pureH (ev x)

noncomputable def opR (P : Program) (ev : Operand → Option D) (hp : Hp) (nm : Nm) (op : Op) : OutH :=
  Op.rec (motive := fun _ => OutH) (hMove ev) (hMove ev) (hPick ev) (hAlloc P nm) (hBox ev nm) (hBuild P ev) (hBuildSlice P ev nm) (fun _ _ _ _ => none)
    (hLoad P ev hp) (hStore P ev hp) (fun _ => none) (fun _ => none) (hNilCheck ev) (hBin P ev hp) (hUn ev) (hConvert P ev hp) (fun _ _ => none) (fun _ _ => none)
    (hMakeFunc ev) (hMakeMap P ev nm) (fun _ _ => none) (hMakeSlice P ev nm) (hSlice P ev hp) (hFieldAddr P ev) (hField P ev) (hIndexAddr P ev) (hIndex P ev)
    (hLookup P ev hp) (hMapUpdate P ev hp) (hMapEntry P ev hp) (hEntryStore ev hp) (hRange P ev hp nm) (hNext ev hp) (hEntry ev hp) (fun _ _ _ _ => none)
    (hExtract ev) (hCall P ev hp nm) (fun _ => none) (fun _ => none) (fun _ => none) (fun _ _ => none) (fun _ _ _ => none) (fun _ _ => none) op

theorem opR_eq (P : Program) (ev : Operand → Option D) (hp : Hp) (nm : Nm) (op : Op) : opR P ev hp nm op = opH P ev hp nm op := by
  cases op with
  | load t x =>
    show hLoad P ev hp t x = _
    simp only [hLoad, opH, opP]
    cases ev x with
    | none => rfl
    | some d => cases d <;> rfl
  | next x b => cases b <;> rfl
  | call c =>
    show hCall P ev hp nm c = _
    simp only [hCall, opH]
    rfl
  | _ => rfl

end Go.Ab
