/-
  the evaluator of the model: its values, its heap, its operations, one by one.
-/
import Derived.RangeFuncFrom
import Derived.DefersIn
import Derived.Laws.Sem
import Derived.Laws.World
import Derived.Laws.BytesArg
import Derived.MapKept
set_option linter.all false
/-
  A pure evaluator of the model's code: its values, its heap, its operations.
-/
namespace Go.Pv
open Go

/-- Whether a slice's rest of room may be used: never; there is none; it belongs to an object. -/
inductive Tk where
  | no
  | full
  | tail (id : Nat)

/-- Abstract values. -/
inductive V where
  | unk
  | sc (v : Value)
  | list (sz : Nat) (xs : List (List V)) (tk : Tk)
  | pptr (sz : Nat) (xs : List (List V)) (i k : Nat)
  | ref (id off : Nat)
  | sl (id ver sz off len : Nat)
  | eref (id ver sz i k : Nat)
  | csl (id off len : Nat)
  | agg (cs : List V)
  | tup (vs : List V)
  | fn (f : Fn) (first caps : List V)
  | yld (id : Nat)
  | mp (id : Nat)
instance : Inhabited V := ⟨.unk⟩

/-- Objects of the abstract heap. -/
inductive Ob where
  | dead
  | pad
  | cells (bt : TypeId) (c : List V)
  | tail (bt : TypeId) (n : Nat)
  | arr (ver wm sz : Nat) (xs : List (List V))
  | map (es : List (Value × V))
  | loop (st : LoopState) (pend : Option Code) (fid : FuncId) (tmps : List V) (params : List Tmp) (assign body : Code)
instance : Inhabited Ob := ⟨.dead⟩

abbrev H := List Ob
structure St where
  env : List V
  heap : H

/-- What touches the heap. -/
inductive HP (α : Type) : Type where
  | ret (a : α)
  | fail
  | get (id : Nat) (k : Ob → HP α)
  | put (id : Nat) (o : Ob) (k : HP α)
  | new (o : Ob) (k : Nat → HP α)
namespace HP
def bind {α β : Type} : HP α → (α → HP β) → HP β
  | .ret a, f => f a
  | .fail, _ => .fail
  | .get i k, f => .get i fun o => (k o).bind f
  | .put i o k, f => .put i o (k.bind f)
  | .new o k, f => .new o fun i => (k i).bind f
def run {α : Type} : HP α → H → Option (α × H)
  | .ret a, h => some (a, h)
  | .fail, _ => none
  | .get i k, h => match h[i]? with | some o => (k o).run h | none => none
  | .put i o k, h => if i < h.length then k.run (h.set i o) else none
  | .new o k, h => (k h.length).run (h ++ [o])
/-- The same, what is new lying at given places. -/
def runAt {α : Type} : HP α → List Nat → H → Option (α × List Nat × H)
  | .ret a, is, h => some (a, is, h)
  | .fail, _, _ => none
  | .get i k, is, h => match h[i]? with | some o => (k o).runAt is h | none => none
  | .put i o k, is, h => if i < h.length then k.runAt is (h.set i o) else none
  | .new _ _, [], _ => none
  | .new o k, i :: is, h => match h[i]? with | some .pad => (k i).runAt is (h.set i o) | _ => none
/-- The same, and which objects it touches, and which it writes. -/
def runT {α : Type} : HP α → H → Option (α × H × List Nat × List Nat)
  | .ret a, h => some (a, h, [], [])
  | .fail, _ => none
  | .get i k, h => match h[i]? with | some o => ((k o).runT h).map fun r => (r.1, r.2.1, i :: r.2.2.1, r.2.2.2) | none => none
  | .put i o k, h => if i < h.length then (k.runT (h.set i o)).map fun r => (r.1, r.2.1, i :: r.2.2.1, i :: r.2.2.2) else none
  | .new o k, h => ((k h.length).runT (h ++ [o])).map fun r => (r.1, r.2.1, h.length :: r.2.2.1, h.length :: r.2.2.2)
def ofOption {α : Type} : Option α → HP α
  | some a => .ret a
  | none => .fail
theorem run_bind {α β : Type} (p : HP α) (f : α → HP β) (h : H) : (p.bind f).run h = (p.run h).bind fun r => (f r.1).run r.2 := by
  induction p generalizing h with
  | ret a => rfl
  | fail => rfl
  | get i k ih => simp only [bind, run]; split <;> simp [*]
  | put i o k ih => simp only [bind, run]; split <;> simp [*]
  | new o k ih => simp only [bind, run]; exact ih _ _
theorem runAt_bind {α β : Type} (p : HP α) (f : α → HP β) (is : List Nat) (h : H) : (p.bind f).runAt is h = (p.runAt is h).bind fun r => (f r.1).runAt r.2.1 r.2.2 := by
  induction p generalizing is h with
  | ret a => rfl
  | fail => rfl
  | get i k ih => simp only [bind, runAt]; split <;> simp [*]
  | put i o k ih => simp only [bind, runAt]; split <;> simp [*]
  | new o k ih =>
    cases is with
    | nil => rfl
    | cons i is => simp only [bind, runAt]; split <;> simp [*]
theorem runAt_ofOption {α : Type} (x : Option α) (is : List Nat) (h : H) : (ofOption x).runAt is h = x.map fun a => (a, is, h) := by cases x <;> rfl
theorem run_ofOption {α : Type} (x : Option α) (h : H) : (ofOption x).run h = x.map fun a => (a, h) := by cases x <;> rfl
end HP

/-- The part of the model's operations that touches no memory. -/
def pureRun {α : Type} (P : Program) : Sem α → Option α
  | .pure a => some a
  | .program k => pureRun P (k P)
  | _ => none
theorem pureRun_sound {α : Type} {P : Program} {s : Sem α} {a : α} (h : pureRun P s = some a) (w : World) : s.run P w = .ok a w := by
  induction s with
  | pure b => simp only [pureRun, Option.some.injEq] at h; subst h; rfl
  | program k ih => simp only [pureRun] at h; exact ih P h
  | _ => simp [pureRun] at h
theorem pureRun_bind' {α β : Type} (P : Program) (s : Sem α) (f : α → Sem β) : pureRun P (s.bind f) = (pureRun P s).bind fun a => pureRun P (f a) := by
  induction s with
  | pure b => rfl
  | program k ih => simp only [pureRun, Sem.bind]; exact ih P
  | _ => rfl
theorem pureRun_bind {α β : Type} (P : Program) (s : Sem α) (f : α → Sem β) : pureRun P (s >>= f) = (pureRun P s).bind fun a => pureRun P (f a) := pureRun_bind' P s f
theorem pureRun_pure {α : Type} (P : Program) (a : α) : pureRun P (pure a : Sem α) = some a := rfl
theorem pureRun_program (P : Program) : pureRun P program = some P := rfl

/-! ### Values -/
def scal : V → Option Value
  | .sc v => some v
  | _ => none
def V.toVal : V → Option Value
  | .sc v => some v
  | .agg cs => (cs.mapM scal).map fun vs => .agg vs.toArray
  | _ => none
def ofVal : Value → V
  | .agg cells => .agg (cells.toList.map .sc)
  | v => .sc v
/-- The cells of a value. -/
def csOf : V → Option (List V)
  | .agg cs => some cs
  | .unk => none
  | .tup _ => none
  | .sc (.agg _) => none
  | v => some [v]
def isD : V → Bool
  | .sc v => v.oneCell'
  | .list _ _ .no => true
  | _ => false
/-- What one cell can hold. -/
def isCell : V → Bool
  | .sc v => v.oneCell'
  | .unk | .agg _ | .tup _ => false
  | _ => true
def isArg : V → Bool
  | .agg cs => cs.all isD
  | v => isD v

/-! ### Types -/
def isAggT (P : Program) (t : TypeId) : Bool :=
  match P.underlying t with
  | some (.struct _) | some (.array _ _) => true
  | _ => false
def pack (P : Program) (t : TypeId) (cs : List V) : Option V :=
  if isAggT P t then some (.agg cs) else match cs with | [v] => some v | _ => none
def zeroV (P : Program) (t : TypeId) : Option (List V) :=
  match P.info? t with
  | some i => i.zero.map fun v => v.cells.toList.map .sc
  | none => none
/-- Of each cell of a type: is it a slice, and of what size are its elements? -/
def cellTys (P : Program) : Nat → TypeId → List (Option Nat)
  | 0, _ => []
  | d + 1, t =>
    match P.underlying t with
    | some (.struct fs) => fs.toList.flatMap fun f => cellTys P d f.type
    | some (.array n e) => (List.replicate n (cellTys P d e)).flatten
    | some (.slice e) => [some (P.cellsOf e)]
    | _ => [none]
def tyD : Nat := 12

/-! ### The heap's operations -/
def takeAt (x : List V) (k n : Nat) : Option (List V) :=
  let r := (x.drop k).take n
  if r.length = n then some r else none
def putAt (x : List V) (k : Nat) (cs : List V) : Option (List V) :=
  if k + cs.length ≤ x.length then some (x.take k ++ cs ++ x.drop (k + cs.length)) else none
def readAt (p : V) (n : Nat) : HP (List V) :=
  match p with
  | .ref id off => .get id fun
    | .cells bt c => .ofOption (takeAt c off n)
    | _ => .fail
  | .eref id ver sz i k => .get id fun
    | .arr ver' _ sz' xs => if ver = ver' ∧ sz = sz' then .ofOption ((xs[i]?).bind fun x => takeAt x k n) else .fail
    | _ => .fail
  | .pptr _ xs i k => .ofOption ((xs[i]?).bind fun x => takeAt x k n)
  | _ => .fail
def writeAt (p : V) (cs : List V) : HP Unit :=
  match p with
  | .ref id off => .get id fun
    | .cells bt c => match putAt c off cs with | some c' => .put id (.cells bt c') (.ret ()) | none => .fail
    | _ => .fail
  | .eref id ver sz i k => .get id fun
    | .arr ver' wm sz' xs =>
      if ver = ver' ∧ sz = sz' ∧ wm ≤ i then
        match (xs[i]?).bind fun x => putAt x k cs with | some x' => .put id (.arr ver' wm sz' (xs.set i x')) (.ret ()) | none => .fail
      else .fail
    | _ => .fail
  | _ => .fail
def ptrAdd (p : V) (n : Nat) : Option V :=
  match p with
  | .ref id off => some (.ref id (off + n))
  | .eref id ver sz i k => some (.eref id ver sz i (k + n))
  | .pptr sz xs i k => some (.pptr sz xs i (k + n))
  | _ => none
/-- A cell that is handed on: its slices read as what they hold. -/
def normCell (ty : Option Nat) (v : V) : HP V :=
  match v with
  | .list sz xs _ => .ret (.list sz xs .no)
  | .sc (.slice none 0 0) => match ty with | some sz => .ret (.list sz [] .no) | none => .ret v
  | .sl id ver sz off len => .get id fun
    | .arr ver' wm sz' xs =>
      if ver = ver' ∧ sz = sz' ∧ off + len ≤ xs.length then
        .put id (.arr ver' (max wm (off + len)) sz' xs) (.ret (.list sz ((xs.drop off).take len) .no))
      else .fail
    | _ => .fail
  | v => .ret v
def normCells : List (Option Nat) → List V → HP (List V)
  | t :: ts, c :: cs => (normCell t c).bind fun c => (normCells ts cs).bind fun cs => .ret (c :: cs)
  | _, cs => .ret cs
def normV (P : Program) (t : TypeId) (v : V) : HP V :=
  match v with
  | .agg cs => (normCells (cellTys P tyD t) cs).bind fun cs => .ret (.agg cs)
  | v => normCell ((cellTys P tyD t).headD none) v
def normVs (P : Program) : List TypeId → List V → HP (List V)
  | t :: ts, v :: vs => (normV P t v).bind fun v => (normVs P ts vs).bind fun vs => .ret (v :: vs)
  | _, vs => .ret vs
/-- The elements of a slice. -/
def rowsOf (v : V) : HP (List (List V)) :=
  match v with
  | .list _ xs _ => .ret xs
  | .sc (.slice none 0 0) => .ret []
  | .sl id ver sz off len => .get id fun
    | .arr ver' _ sz' xs => if ver = ver' ∧ sz = sz' ∧ off + len ≤ xs.length then .ret ((xs.drop off).take len) else .fail
    | _ => .fail
  | .sc (.string s) => .ret (s.data.toList.map fun b => [.sc (.int .u8 b.toNat)])
  | _ => .fail
def lim : Nat := 4294967296
def elOk (P : Program) (e : TypeId) : Bool := decide (P.bytesOf e ≤ 4096) && (match zeroV P e with | some z => z.length == P.cellsOf e | none => false)
def sizeOk (P : Program) (e : TypeId) (n : Nat) : Bool := elOk P e && decide (n < lim)

/-- append -/
def appendV (P : Program) (own : Bool) (e : TypeId) (s : V) (ys : List (List V)) : HP V :=
  let sz := P.cellsOf e
  let fresh (xs : List (List V)) : HP V :=
    if sizeOk P e (xs.length + ys.length) then
      if own then .new (.arr 0 0 sz (xs ++ ys)) fun id => .ret (.sl id 0 sz 0 (xs.length + ys.length))
      else .new (.tail e (xs.length + ys.length)) fun id => .ret (.list sz (xs ++ ys) (.tail id))
    else .fail
  match s with
  | .sc (.slice none 0 0) => if ys.isEmpty then .ret s else fresh []
  | .list sz' xs .full => if ys.isEmpty then .ret s else if sz' = sz then fresh xs else .fail
  | .list sz' xs (.tail id) => .get id fun
    | .tail bt n =>
      if bt = e ∧ n = xs.length ∧ sz' = sz ∧ sizeOk P e (xs.length + ys.length) = true then
        .put id (.tail e (xs.length + ys.length)) (.ret (.list sz (xs ++ ys) (.tail id)))
      else .fail
    | _ => .fail
  | .sl id ver sz' off len => .get id fun
    | .arr ver' wm sz'' xs =>
      if ver = ver' ∧ sz' = sz'' ∧ sz' = sz ∧ off = 0 ∧ len ≤ xs.length ∧ wm ≤ len ∧ sizeOk P e (len + ys.length) = true then
        .put id (.arr (ver' + 1) wm sz (xs.take len ++ ys)) (.ret (.sl id (ver' + 1) sz 0 (len + ys.length)))
      else .fail
    | _ => .fail
  | _ => .fail

/-- Parts that are put into cells. -/
def fillV (place : Nat → Option (Nat × Nat)) (cells : List V) : List (Nat × V) → Option (List V)
  | [] => some cells
  | (i, v) :: rest =>
    match place i, csOf v with
    | some (off, size), some cs => if cs.length = size then (putAt cells off cs).bind fun c => fillV place c rest else none
    | _, _ => none
def fieldPlaces (P : Program) (t : TypeId) : Option (Array (Nat × Nat)) :=
  match P.underlying t with
  | some (.struct fields) => if fields.toList.all fun f => (P.info? f.type).isSome then some (fields.map fun f => (f.offset, P.cellsOf f.type)) else none
  | _ => none
/-- Cells, so many to a row. -/
def rowsBy (sz : Nat) : Nat → List V → List (List V)
  | 0, _ => []
  | n + 1, cs => cs.take sz :: rowsBy sz n (cs.drop sz)
def numsOf : List (List V) → Option (List Int)
  | [] => some []
  | [.sc (.int .u8 n)] :: r => (numsOf r).map fun l => n :: l
  | _ :: _ => none
def intOf : V → Option (IntKind × Int)
  | .sc (.int k n) => some (k, n)
  | _ => none
def boundOf (v : Option V) (dflt : Nat) (top : Nat) : Option Nat :=
  match v with
  | none => some dflt
  | some (.sc (.int _ i)) => if 0 ≤ i ∧ i ≤ top then some i.toNat else none
  | _ => none

structure Cx where
  P : Program
  gl : Nat → Option (List V)
  own : FuncId → Bool
  befo : FuncId → Nat → List Nat

def ev (C : Cx) (env : List V) : Operand → V
  | .tmp t => env.getD t .unk
  | .const v => ofVal v
  | .global g => match C.gl g with | some cs => .pptr cs.length [cs] 0 0 | none => .unk
  | .func f => .sc (.func (.func f) #[] #[])
def pureV (P : Program) (x : Sem Value) : HP V :=
  match pureRun P x with
  | some r => .ret (ofVal r)
  | none => .fail
def indexAddrV (P : Program) (t : TypeId) (x i : V) : Option V :=
  match P.underlying t, intOf i with
  | some (.array len e), some (_, n) =>
    if 0 ≤ n ∧ n < len ∧ elOk P e = true then ptrAdd x (n.toNat * P.cellsOf e) else none
  | some (.slice e), some (_, n) =>
    if elOk P e = true then
    match x with
    | .list sz xs _ => if 0 ≤ n ∧ n < xs.length ∧ sz = P.cellsOf e then some (.pptr sz xs n.toNat 0) else none
    | .sl id ver sz off len => if 0 ≤ n ∧ n < len ∧ sz = P.cellsOf e then some (.eref id ver sz (off + n.toNat) 0) else none
    | .csl id off len => if 0 ≤ n ∧ n < len ∧ 1 = P.cellsOf e then some (.ref id (off + n.toNat)) else none
    | _ => none
    else none
  | _, _ => none
def sliceV (P : Program) (t : TypeId) (x : V) (lo hi : Option V) : Option V :=
  match P.underlying t, x with
  | some (.slice e), .list sz xs _ =>
    (boundOf hi xs.length xs.length).bind fun h => (boundOf lo 0 h).bind fun l => if sz = P.cellsOf e ∧ elOk P e = true then some (.list sz ((xs.take h).drop l) .no) else none
  | some (.slice e), .sl id ver sz off len =>
    (boundOf hi len len).bind fun h => (boundOf lo 0 h).bind fun l =>
      if sz = P.cellsOf e ∧ elOk P e = true then if l = 0 ∨ l < h then some (.sl id ver sz (off + l) (h - l)) else some (.list sz [] .no) else none
  | some (.slice e), .csl id off len =>
    (boundOf hi len len).bind fun h => (boundOf lo 0 h).bind fun l => if 1 = P.cellsOf e ∧ elOk P e = true ∧ (l = 0 ∨ l < h) then some (.csl id (off + l) (h - l)) else none
  | some (.array n e), .ref id off =>
    (boundOf hi n n).bind fun h => (boundOf lo 0 h).bind fun l => if 1 = P.cellsOf e ∧ elOk P e = true ∧ (l = 0 ∨ l < h) then some (.csl id (off + l) (h - l)) else none
  | _, _ => none
/-- s[lo:hi:max] -/
def slice3V (P : Program) (t : TypeId) (x lo hi mx : V) : Option V :=
  match P.underlying t, x, intOf lo, intOf hi, intOf mx with
  | some (.slice e), .list sz xs _, some (_, l), some (_, h), some (_, m) =>
    if 0 ≤ l ∧ l ≤ h ∧ h ≤ m ∧ m ≤ xs.length ∧ sz = P.cellsOf e ∧ elOk P e = true then some (.list sz ((xs.take h.toNat).drop l.toNat) .no) else none
  | _, _, _, _, _ => none
def lenV : V → Option Nat
  | .list _ xs _ => some xs.length
  | .sl _ _ _ _ len => some len
  | .csl _ _ len => some len
  | _ => none

def binOpV (P : Program) (op : BinOp) (t : TypeId) (x y : Operand) (a b : V) : HP V :=
  match a.toVal, b.toVal with
  | some u, some v => pureV P (do eqGuard op t x y u v; binOp op t u v)
  | _, _ => .fail
def unOpV (P : Program) (op : UnOp) (a : V) : HP V :=
  match a.toVal with
  | some u => pureV P (Op.unary op u)
  | none => .fail
/-- Places of a map or a list of values, all of them plain. -/
def optVal : Option V → Option (Option Value)
  | none => some none
  | some v => match v.toVal with | some u => some (some u) | none => none
def storeV (P : Program) (t : TypeId) (p v : V) : HP V :=
  match csOf v with
  | some cs =>
    if cs.length = P.cellsOf t ∧ cs.all isCell = true ∧ cs ≠ [] then
      match p with
      | .eref id ver sz i k => (normCells (cellTys P tyD t) cs).bind fun cs => if cs.all isD then (writeAt (.eref id ver sz i k) cs).bind fun _ => .ret .unk else .fail
      | p => (writeAt p cs).bind fun _ => .ret .unk
    else .fail
  | none => .fail
def fieldV (P : Program) (t : TypeId) (x : V) (f : Nat) : HP V :=
  match x with
  | .agg cs =>
    match P.underlying t with
    | some (.struct fs) =>
      match fs[f]? with
      | some fd =>
        if (P.underlying fd.type).isSome then
          if isAggT P fd.type then .ret (.agg ((cs.drop fd.offset).take (P.cellsOf fd.type))) else .ofOption cs[fd.offset]?
        else .fail
      | none => .fail
    | _ => .fail
  | _ => .fail
def buildV (P : Program) (t : TypeId) (parts : List (Nat × V)) : HP V :=
  match zeroV P t with
  | some z =>
    match fieldPlaces P t with
    | some pl => .ofOption ((fillV (pl[·]?) z parts).map .agg)
    | none =>
      match P.underlying t with
      | some (.array _ el) => if (P.info? el).isSome then .ofOption ((fillV (fun i => some (i * P.cellsOf el, P.cellsOf el)) z parts).map .agg) else .fail
      | _ => .fail
  | none => .fail
def buildSliceV (P : Program) (own : Bool) (t : TypeId) (len : Nat) (parts : List (Nat × V)) : HP V :=
  match P.underlying t with
  | some (.slice el) =>
    match zeroV P el with
    | some z =>
      if len * P.cellsOf el ≤ 16777216 ∧ elOk P el = true then
        match fillV (fun i => some (i * P.cellsOf el, P.cellsOf el)) (List.replicate len z).flatten parts with
        | some cs => (normCells (List.replicate len (cellTys P tyD el)).flatten cs).bind fun cs =>
          if cs.all isD then
            if own then .new (.arr 0 0 (P.cellsOf el) (rowsBy (P.cellsOf el) len cs)) fun id => .ret (.sl id 0 (P.cellsOf el) 0 len)
            else .ret (.list (P.cellsOf el) (rowsBy (P.cellsOf el) len cs) .full)
          else .fail
        | none => .fail
      else .fail
    | none => .fail
  | _ => .fail
def nilCheckV (v : V) : HP V :=
  match v with
  | .ref id off => .ret (.ref id off)
  | .eref id ver sz i k => .ret (.eref id ver sz i k)
  | .pptr sz xs i k => .ret (.pptr sz xs i k)
  | .fn (.func f) first caps => .ret (.fn (.func f) first caps)
  | .yld id => .ret (.yld id)
  | .sc (.func (.func f) us vs) => .ret (.sc (.func (.func f) us vs))
  | _ => .fail
def sliceOp (P : Program) (t : TypeId) (x : V) (lo hi : Option V) : HP V :=
  match x with
  | .sc u =>
    match optVal lo, optVal hi with
    | some l, some h => pureV P (Instr.sliceAt t u l h none)
    | _, _ => .fail
  | v => .ofOption (sliceV P t v lo hi)
def isU8 (P : Program) (el : TypeId) : Bool := match P.underlying el with | some (.int .u8) => true | _ => false
def bytesV (s : ByteArray) : List (List V) := s.data.toList.map fun b => [V.sc (.int .u8 b.toNat)]
def toBytesV (P : Program) (own : Bool) (el : TypeId) (s : ByteArray) : HP V :=
  if elOk P el = true ∧ P.cellsOf el = 1 ∧ isU8 P el = true then
    if own = true then .new (.arr 0 0 1 (bytesV s)) fun id => .ret (.sl id 0 1 0 s.size)
    else .new (.tail el s.size) fun id => .ret (.list 1 (bytesV s) (.tail id))
  else .fail
def toStringV (P : Program) (el : TypeId) (v : V) : HP V :=
  if isU8 P el = true then
    match v with
    | .csl id off len => .get id fun
      | .cells bt c => match numsOf (((c.drop off).take len).map ([·])) with
        | some l => if l.length = len then .ret (.sc (.string (strOfNums l))) else .fail
        | none => .fail
      | _ => .fail
    | .sc (.string _) => .fail
    | v => (rowsOf v).bind fun xs => match numsOf xs with | some l => .ret (.sc (.string (strOfNums l))) | none => .fail
  else .fail
def convertV (P : Program) (own : Bool) (src dst : TypeId) (x : V) : HP V :=
  match P.underlying src, P.underlying dst with
  | some .string, some (.slice el) => match x with | .sc (.string s) => toBytesV P own el s | _ => .fail
  | some (.slice el), some .string => toStringV P el x
  | _, _ => match x.toVal with | some u => pureV P (convert src dst u) | none => .fail
def makeSliceV (P : Program) (t : TypeId) (l c : V) : HP V :=
  match P.underlying t, intOf l, intOf c with
  | some (.slice el), some (_, n), some (_, m) =>
    match zeroV P el with
    | some z => if n = m ∧ 0 ≤ n ∧ sizeOk P el n.toNat = true ∧ z.all isD = true then
        .new (.arr 0 0 (P.cellsOf el) (List.replicate n.toNat z)) fun id => .ret (.sl id 0 (P.cellsOf el) 0 n.toNat)
      else .fail
    | none => .fail
  | _, _, _ => .fail
def copyV (P : Program) (t : TypeId) (d s : V) : HP V :=
  match P.underlying t with
  | some (.slice el) =>
    if elOk P el = true ∧ P.cellsOf el = 1 then
      match d, s with
      | .csl id off len, .csl id' off' len' =>
        .get id fun
          | .cells bt c => .get id' fun
            | .cells _ c2 => match takeAt c2 off' (min len' len) with
              | some r => match putAt c off r with
                | some c' => if r.all isCell then .put id (.cells bt c') (.ret (.sc (.int .i64 (min len' len : Nat)))) else .fail
                | none => .fail
              | none => .fail
            | _ => .fail
          | _ => .fail
      | _, _ => .fail
    else .fail
  | _ => .fail
def builtinV (P : Program) (own : Bool) (ty : TypeId) (b : Builtin) (argTypes : Array TypeId) (args : List V) : HP V :=
  match b with
  | .len =>
    match args with
    | [x] =>
      match lenV x with
      | some n => match (argTypes[0]?).bind P.underlying with | some (.slice _) => .ret (.sc (.int .i64 n)) | _ => .fail
      | none => match x.toVal with | some u => pureV P (Builtin.len_ argTypes ty #[u]) | none => .fail
    | _ => .fail
  | .min => match args.mapM V.toVal with | some us => pureV P (Builtin.min_ argTypes ty us.toArray) | none => .fail
  | .max => match args.mapM V.toVal with | some us => pureV P (Builtin.max_ argTypes ty us.toArray) | none => .fail
  | .append =>
    match args with
    | [s, x] =>
      match argTypes[0]?, argTypes[1]? with
      | some t0, some t1 =>
        match P.underlying t0, P.underlying t1 with
        | some (.slice el), some (.slice _) | some (.slice el), some .string =>
          if elOk P el = true then
            (rowsOf x).bind fun ys => if ys.all fun y => y.length = P.cellsOf el then appendV P own el s ys else .fail
          else .fail
        | _, _ => .fail
      | _, _ => .fail
    | _ => .fail
  | .copy =>
    match args with
    | [d, s] => match argTypes[0]? with | some t => copyV P t d s | none => .fail
    | _ => .fail
  | _ => .fail

/-! ### Maps -/
/-- Keys that tell themselves apart. -/
def keyOk : TypeDesc → Value → Bool
  | .int k, .int k' _ => k == k'
  | .string, .string _ => true
  | .bool, .bool _ => true
  | _, _ => false
def keyEq : Value → Value → Bool
  | .int _ a, .int _ b => a == b
  | .string a, .string b => a == b
  | .bool a, .bool b => a == b
  | _, _ => false
def findE (k : Value) : List (Value × V) → Option V
  | [] => none
  | e :: es => if keyEq k e.1 then some e.2 else findE k es
def setE (k : Value) (x : V) : List (Value × V) → List (Value × V)
  | [] => [(k, x)]
  | e :: es => if keyEq k e.1 then (k, x) :: es else e :: setE k x es
def keyDesc (P : Program) (t : TypeId) : Option (TypeDesc × TypeId) :=
  match P.underlying t with
  | some (.map kt et) => (P.underlying kt).map fun d => (d, et)
  | _ => none
def mapUpdateV (P : Program) (t : TypeId) (m k v : V) : HP V :=
  match keyDesc P t, m, k with
  | some (d, et), .mp id, .sc kv =>
    if keyOk d kv then
      (normV P et v).bind fun x =>
        if isArg x then .get id fun
          | .map es => if es.all fun e => keyOk d e.1 then .put id (.map (setE kv x es)) (.ret .unk) else .fail
          | _ => .fail
        else .fail
    else .fail
  | _, _, _ => .fail
def lookedUp (P : Program) (et : TypeId) (commaOk : Bool) (x : Option V) : HP V :=
  match x with
  | some v => .ret (if commaOk then .tup [v, .sc (.bool true)] else v)
  | none => .ofOption (((P.info? et).bind fun i => i.zero).map fun v => if commaOk then .tup [ofVal v, .sc (.bool false)] else ofVal v)
def lookupV (P : Program) (t : TypeId) (m k : V) (commaOk : Bool) : HP V :=
  match keyDesc P t, k with
  | some (d, et), .sc kv =>
    if keyOk d kv then
      match m with
      | .sc (.map none) => lookedUp P et commaOk none
      | .mp id => .get id fun
        | .map es => if es.all fun e => keyOk d e.1 then lookedUp P et commaOk (findE kv es) else .fail
        | _ => .fail
      | _ => .fail
    else .fail
  | _, _ => .fail
/-- One operation, calls of functions aside. -/
def opHP (C : Cx) (own : Bool) (env : List V) (o : Oper) : HP V :=
  let e := ev C env
  match o.op with
  | .move x | .assign x => .ret (e x)
  | .pick c a b => match e c with | .sc (.bool t) => .ret (if t then e a else e b) | _ => .fail
  | .binOp op t x y _ => binOpV C.P op t x y (e x) (e y)
  | .unOp op _ x => unOpV C.P op (e x)
  | .alloc t => match zeroV C.P t with | some cs => .new (.cells t cs) fun id => .ret (.ref id 0) | none => .fail
  | .box t x => match csOf (e x) with | some cs => .new (.cells t cs) fun id => .ret (.ref id 0) | none => .fail
  | .load t x => if (C.P.underlying t).isSome then (readAt (e x) (C.P.cellsOf t)).bind fun cs => .ofOption (pack C.P t cs) else .fail
  | .store t x v => storeV C.P t (e x) (e v)
  | .fieldAddr s x f =>
    match (fieldPlaces C.P s).bind (·[f]?) with
    | some (off, size) => if size = 0 then .fail else .ofOption (ptrAdd (e x) off)
    | none => .fail
  | .indexAddr t x i => .ofOption (indexAddrV C.P t (e x) (e i))
  | .extract x i => match e x with | .tup vs => .ofOption vs[i]? | _ => .fail
  | .field t x f => fieldV C.P t (e x) f
  | .index t x i =>
    match (e x).toVal, (e i).toVal with
    | some u, some v => pureV C.P (Instr.index t u v)
    | _, _ => .fail
  | .build t parts => buildV C.P t (parts.toList.map fun p => (p.1, e p.2))
  | .buildSlice t len parts => buildSliceV C.P false t len (parts.toList.map fun p => (p.1, e p.2))
  | .makeFunc fn first caps => if first.isEmpty && caps.isEmpty then .ret (.sc (.func fn #[] #[])) else .ret (.fn fn (first.toList.map e) (caps.toList.map e))
  | .nilCheck x => nilCheckV (e x)
  | .slice t x lo hi mx => match mx with | none => sliceOp C.P t (e x) (lo.map e) (hi.map e) | some m => match lo, hi with | some l, some h => .ofOption (slice3V C.P t (e x) (e l) (e h) (e m)) | _, _ => .fail
  | .convert src dst x => convertV C.P own src dst (e x)
  | .makeSlice t l c => makeSliceV C.P t (e l) (e c)
  | .makeMap _ r => match r with | none => .new (.map []) fun id => .ret (.mp id) | some _ => .fail
  | .mapUpdate t m k v => mapUpdateV C.P t (e m) (e k) (e v)
  | .lookup t m k commaOk => lookupV C.P t (e m) (e k) commaOk
  | .call c => match c.callee with | .builtin b => builtinV C.P own o.type b c.argTypes (c.args.toList.map e) | _ => .fail
  | _ => .fail
end Go.Pv
/-
  The evaluator: code, calls, rounds; the least solution of its equations.
-/
namespace Go.Pv
open Go

/-- Sixteen, and the rest. -/
def c16 (a0 a1 a2 a3 a4 a5 a6 a7 a8 a9 a10 a11 a12 a13 a14 a15 : V) (r : List V) : List V := a0 :: a1 :: a2 :: a3 :: a4 :: a5 :: a6 :: a7 :: a8 :: a9 :: a10 :: a11 :: a12 :: a13 :: a14 :: a15 :: r
def unks (n : Nat) : List V := List.replicate n .unk
/-- What a call starts with. -/
def envOf (n : Nat) (args : List V) : List V := args ++ unks (n - args.length)

inductive Ex where
  | normal
  | exit (id : Nat)
  | ret

/-! ### Renumbering of what a call hands back -/
def V.shift0 (n : Nat) : V → V
  | .list sz xs (.tail id) => .list sz xs (.tail (id + n))
  | .ref id off => .ref (id + n) off
  | .sl id ver sz off len => .sl (id + n) ver sz off len
  | .eref id ver sz i k => .eref (id + n) ver sz i k
  | .csl id off len => .csl (id + n) off len
  | .yld id => .yld (id + n)
  | .mp id => .mp (id + n)
  | .agg _ => .unk
  | .tup _ => .unk
  | .fn _ _ _ => .unk
  | v => v
def V.shift1 (n : Nat) : V → V
  | .agg cs => .agg (cs.map (V.shift0 n))
  | .tup cs => .tup (cs.map (V.shift0 n))
  | .fn f first caps => .fn f (first.map (V.shift0 n)) (caps.map (V.shift0 n))
  | v => v.shift0 n
def V.shift (n : Nat) : V → V
  | .agg cs => .agg (cs.map (V.shift1 n))
  | .tup cs => .tup (cs.map (V.shift1 n))
  | .fn f first caps => .fn f (first.map (V.shift1 n)) (caps.map (V.shift1 n))
  | v => v.shift0 n
def Ob.shift (n : Nat) : Ob → Ob
  | .cells bt c => .cells bt (c.map (V.shift n))
  | .map es => .map (es.map fun e => (e.1, V.shift n e.2))
  | .loop .. => .dead
  | o => o
/-- Nothing in it leads to an object from n on. -/
def V.lt0 (n : Nat) : V → Bool
  | .list _ _ (.tail id) => decide (id < n)
  | .ref id _ | .sl id _ _ _ _ | .eref id _ _ _ _ | .csl id _ _ | .yld id | .mp id => decide (id < n)
  | .agg _ | .tup _ | .fn _ _ _ => false
  | _ => true
def V.lt1 (n : Nat) : V → Bool
  | .agg cs | .tup cs => cs.all (V.lt0 n)
  | .fn _ first caps => first.all (V.lt0 n) && caps.all (V.lt0 n)
  | v => v.lt0 n
def V.ltN (n : Nat) : V → Bool
  | .agg cs | .tup cs => cs.all (V.lt1 n)
  | .fn _ first caps => first.all (V.lt1 n) && caps.all (V.lt1 n)
  | v => v.lt0 n
def Ob.ltN (n : Nat) : Ob → Bool
  | .cells bt c => c.all (V.ltN n)
  | .map es => es.all fun e => V.ltN n e.2
  | .loop _ _ _ tmps _ _ _ => tmps.all (V.ltN n)
  | _ => true
/-- The objects from n on are forgotten, if nothing before them leads there. -/
def gc (n : Nat) (h : H) : H := if (h.take n).all (Ob.ltN n) then h.take n else h

/-- Results that are plain data. -/
def isRes : V → Bool
  | .tup vs => vs.all isArg
  | .list _ _ .full => true
  | v => isArg v
/-- Two operations of which one writes what the other one touches. -/
def clash (a b : List Nat × List Nat) : Bool := a.2.any (fun i => b.1.contains i) || b.2.any (fun i => a.1.contains i)
def clashes (ord : Nat → Nat → Bool) : Nat → List (List Nat × List Nat) → Bool
  | _, [] => true
  | i, a :: r => (r.zipIdx (i + 1)).all (fun b => !clash a b.1 || ord i b.2) && clashes ord (i + 1) r

/-- Of the objects that a call has made, what its results need: the room of one slice. -/
def tailOf : V → Option (Nat × List (List V) × Nat)
  | .list sz xs (.tail id) => some (sz, xs, id)
  | _ => none
def selV : List V → H → Option (List V × H)
  | [], _ => some ([], [])
  | v :: vs, h =>
    match tailOf v with
    | some (sz, xs, id) =>
      match h[id]? with
      | some (.tail bt n) => if vs.all isRes then some (.list sz xs (.tail 0) :: vs, [.tail bt n]) else none
      | _ => none
    | none => if isRes v then (selV vs h).map fun r => (v :: r.1, r.2) else none
def selR (k : Bool) (r : List V × H) : List V × H := if k then (selV r.1 r.2).getD r else r

structure Cx2 extends Cx where
  prim : FuncId → Option (List V → H → Option (V × H))
  /-- What is forgotten behind a region, and at a loop's head. -/
  dead : FuncId → Nat → List Nat
  deadL : FuncId → Nat → List Nat
  /-- Functions whose results are left as they are. -/
  keep : FuncId → Bool
  /-- Functions whose arguments are left as they are. -/
  raw : FuncId → Bool
/-- The arguments of a call. -/
def argsHP (C : Cx2) (g : FuncId) (ts : List TypeId) (args : List V) : HP (List V) := if C.raw g then .ret args else normVs C.P ts args

def forget : List Nat → List V → List V
  | [], e => e
  | t :: ts, e => forget ts (e.set t .unk)
def forgetS (l : List Nat) (st : St) : St := ⟨forget l st.env, st.heap⟩
/-- The first region of a piece of code. -/
def keyOf : Code → Option Nat
  | .region id _ _ => some id
  | .seq a b => match keyOf a with | some i => some i | none => keyOf b
  | .cond _ a b => match keyOf a with | some i => some i | none => keyOf b
  | .block _ a => keyOf a
  | .loop a => keyOf a
  | .scope a => keyOf a
  | .rangeFunc _ _ a b => match keyOf a with | some i => some i | none => keyOf b
  | _ => none

structure Sm where
  code : FuncId → Code → St → Option (Ex × St)
  call : FuncId → List V → H → Option (V × H)

def tupOf : List V → V
  | [v] => v
  | vs => .tup vs
def putV (env : List V) (d : Option Tmp) (v : V) : List V :=
  match d with
  | some t => env.set t v
  | none => env
def setParams (ps : List Tmp) (args : List V) (tmps : List V) : List V :=
  match ps, args with
  | p :: ps, a :: args => setParams ps args (tmps.set p a)
  | _, _ => tmps

def jumpOf : Ex → Option Code
  | .normal => none
  | .exit id => some (.exit id)
  | .ret => some .ret

section
variable (C : Cx2) (S : Sm)

def yieldV (id : Nat) (args : List V) (h : H) : Option (V × H) :=
  match h[id]? with
  | some (.loop .ready none fid tmps params assign body) =>
    if args.length = params.length then
      (S.code fid assign ⟨setParams params args tmps, h⟩).bind fun r =>
        match r with
        | (.normal, st1) =>
          match st1.heap[id]? with
          | some (.loop .ready none f1 t1 p1 a1 b1) =>
            (S.code fid body ⟨st1.env, st1.heap.set id (.loop .busy none f1 t1 p1 a1 b1)⟩).bind fun r2 =>
              match r2.2.heap[id]? with
              | some (.loop .busy none f2 t2 p2 a2 b2) =>
                some (.sc (.bool (jumpOf r2.1).isNone), gc h.length (r2.2.heap.set id (.loop (if (jumpOf r2.1).isNone then .ready else .done) (jumpOf r2.1) f2 t2 p2 a2 b2)))
              | _ => none
          | _ => none
        | _ => none
    else none
  | _ => none

def callFn (f : V) (args : List V) (h : H) : Option (V × H) :=
  match f with
  | .sc (.func (.func g) ⟨[]⟩ ⟨[]⟩) => S.call g args h
  | .fn (.func g) first caps => S.call g (first ++ args ++ caps) h
  | _ => none
def callVal (f : V) (args : List V) (h : H) : Option (V × H) :=
  match f with
  | .yld id => yieldV S id args h
  | f => callFn S f args h

def guardV (ops : Array Oper) (env : List V) (o : Oper) : Option Bool :=
  match o.guard with
  | none => some true
  | some (j, want) =>
    match ((ops[j]?).bind (·.dst)).bind (env[·]?) with
    | some (.sc (.bool b)) => some (b == want)
    | some (.tup _) => some false
    | _ => none

def stepO (fid : FuncId) (ops : Array Oper) (o : Oper) (st : St) : Option St :=
  match guardV ops st.env o with
  | none => none
  | some false => some ⟨putV st.env o.dst (.tup []), st.heap⟩
  | some true =>
    match o.op with
    | .call c =>
      match c.callee with
      | .value f => (callVal S (ev C.toCx st.env f) (c.args.toList.map (ev C.toCx st.env)) st.heap).map fun r => ⟨putV st.env o.dst r.1, r.2⟩
      | _ => ((opHP C.toCx (C.own fid) st.env o).run st.heap).map fun r => ⟨putV st.env o.dst r.1, r.2⟩
    | _ => ((opHP C.toCx (C.own fid) st.env o).run st.heap).map fun r => ⟨putV st.env o.dst r.1, r.2⟩

def runL (fid : FuncId) (ops : Array Oper) : List Oper → St → Option St
  | [], st => some st
  | o :: os, st => (stepO C S fid ops o st).bind (runL fid ops os)

def resultsV (P : Program) (env : List V) : List ResultVar → HP (List V)
  | [] => .ret []
  | .tmp t :: r => (resultsV P env r).bind fun vs => .ret (env.getD t .unk :: vs)
  | .cell a t :: r => if (P.underlying t).isSome then ((readAt (env.getD a .unk) (P.cellsOf t)).bind fun cs => .ofOption (pack P t cs)).bind fun v => (resultsV P env r).bind fun vs => .ret (v :: vs) else .fail

def bodyV (g : FuncId) (fn : Func) (body : Code) (args : List V) (h : H) : Option (List V × H) :=
  (S.code g body ⟨envOf fn.ntmps args, h⟩).bind fun r =>
    match r.1 with
    | .exit _ => none
    | _ => ((resultsV C.P r.2.env fn.results.toList).bind fun vs => if C.keep g then .ret vs else normVs C.P fn.resultTypes.toList vs).run r.2.heap

/-- The way back of a call of plain data. -/
def retD (h : H) (r : List V × H) : V × H := if r.1.all isArg then (tupOf r.1, h) else (tupOf (r.1.map (V.shift h.length)), h ++ r.2.map (Ob.shift h.length))
def callF (g : FuncId) (args : List V) (h : H) : Option (V × H) :=
  match C.prim g with
  | some p => p args h
  | none =>
    match C.P.funcs[g]? with
    | some fn =>
      match fn.body with
      | some body =>
        if fn.name == "runtime.NumGoroutine" then none else
        ((argsHP C g fn.params.toList args).run h).bind fun a =>
          if a.1.all isArg then
            (bodyV C S g fn body a.1 []).map fun r => retD a.2 (selR (C.keep g) r)
          else
            (bodyV C S g fn body a.1 a.2).map fun r =>
              if r.1.all (V.ltN a.2.length) then (tupOf r.1, gc a.2.length r.2) else (tupOf r.1, r.2)
      | none => none
    | none => none

/-- A slice without its room. -/
def dropT : V → V
  | .list sz xs _ => .list sz xs .no
  | v => v
/-- What such a call hands back. -/
def resHP : Option (V × H) → HP V
  | some (v, []) => if isRes v then .ret v else .fail
  | some (.list sz xs (.tail 0), [.tail bt n]) => .new (.tail bt n) fun id => .ret (.list sz xs (.tail id))
  | some (.tup vs, _ :: _) => if (vs.map dropT).all isArg then .ret (.tup (vs.map dropT)) else .fail
  | _ => .fail
/-- A call that touches no memory but its own. -/
def callHP (f : V) (args : List V) : HP V :=
  match f with
  | .sc (.func (.func g) ⟨[]⟩ ⟨[]⟩) =>
    match C.P.funcs[g]? with
    | some fn => (normVs C.P fn.params.toList args).bind fun args =>
      if args.all isArg then
        resHP (S.call g args [])
      else .fail
    | none => .fail
  | _ => .fail
def stepHP (fid : FuncId) (env : List V) (o : Oper) : HP V :=
  match o.op with
  | .call c =>
    match c.callee with
    | .value f => callHP C S (ev C.toCx env f) (c.args.toList.map (ev C.toCx env))
    | _ => opHP C.toCx (C.own fid) env o
  | _ => opHP C.toCx (C.own fid) env o
def runD (fid : FuncId) (ops : Array Oper) : List Oper → St → Option (St × List (List Nat × List Nat))
  | [], st => some (st, [])
  | o :: os, st =>
    match guardV ops st.env o with
    | none => none
    | some false => (runD fid ops os ⟨putV st.env o.dst (.tup []), st.heap⟩).map fun r => (r.1, ([], []) :: r.2)
    | some true =>
      ((stepHP C S fid st.env o).runT st.heap).bind fun r =>
        (runD fid ops os ⟨putV st.env o.dst r.1, r.2.1⟩).map fun q => (q.1, r.2.2 :: q.2)

def rangeV (fid : FuncId) (g : Operand) (params : Array Tmp) (assign body : Code) (st : St) : Option (Ex × St) :=
  (callFn S (ev C.toCx st.env g) [.yld st.heap.length] (st.heap ++ [.loop .ready none fid st.env params.toList assign body])).bind fun r =>
    match r.2[st.heap.length]? with
    | some (.loop s pend _ _ _ _ _) =>
      match s with
      | .busy => none
      | _ =>
        let h := gc st.heap.length (r.2.set st.heap.length .dead)
        match pend with
        | none => some (.normal, ⟨st.env, h⟩)
        | some c => S.code fid c ⟨st.env, h⟩
    | _ => none

def codeF (fid : FuncId) (c : Code) (st : St) : Option (Ex × St) :=
  match c with
  | .skip => some (.normal, st)
  | .label _ => some (.normal, st)
  | .region id ops d =>
    if d then (runD C S fid ops ops.toList st).bind fun r => if clashes (fun i j => ((C.befo fid id).getD j 0).testBit i) 0 r.2 then some (.normal, forgetS (C.dead fid id) r.1) else none
    else (runL C S fid ops ops.toList st).map fun st => (.normal, forgetS (C.dead fid id) st)
  | .seq a b => (S.code fid a st).bind fun r => match r.1 with | .normal => S.code fid b r.2 | e => some (e, r.2)
  | .cond x a b =>
    match ev C.toCx st.env x with
    | .sc (.bool t) => if t then S.code fid a st else S.code fid b st
    | _ => none
  | .block id a => (S.code fid a st).map fun r => match r.1 with | .exit id' => if id' = id then (.normal, r.2) else r | _ => r
  | .loop a => (S.code fid a (forgetS (C.deadL fid ((keyOf a).getD 0)) st)).bind fun r => match r.1 with | .normal => S.code fid (.loop a) r.2 | e => some (e, r.2)
  | .rangeFunc g params assign body => rangeV C S fid g params assign body st
  | .exit id => some (.exit id, st)
  | .ret => some (.ret, st)
  | .scope a => S.code fid a st
  | _ => none
end

def stepS (C : Cx2) (S : Sm) : Sm := ⟨codeF C S, callF C S⟩
def iter (C : Cx2) : Nat → Sm
  | 0 => ⟨fun _ _ _ => none, fun _ _ _ => none⟩
  | n + 1 => stepS C (iter C n)

/-! ### The least solution -/
structure Le (S T : Sm) : Prop where
  code : ∀ f c st r, S.code f c st = some r → T.code f c st = some r
  call : ∀ g a h r, S.call g a h = some r → T.call g a h = some r
theorem Le.refl (S : Sm) : Le S S := ⟨fun _ _ _ _ h => h, fun _ _ _ _ h => h⟩
theorem Le.trans {S T U : Sm} (h : Le S T) (k : Le T U) : Le S U := ⟨fun f c st r e => k.code _ _ _ _ (h.code f c st r e), fun g a x r e => k.call _ _ _ _ (h.call g a x r e)⟩

/-- An answer of the whole chain is one of a member's, and members answer alike. -/
structure Good (C : Cx2) (S : Sm) : Prop where
  code : ∀ f c st r, S.code f c st = some r ↔ ∃ n, (iter C n).code f c st = some r
  call : ∀ g a h r, S.call g a h = some r ↔ ∃ n, (iter C n).call g a h = some r

def Mono {α : Type} (F : Sm → Option α) : Prop := ∀ S T, Le S T → ∀ r, F S = some r → F T = some r
def Cont {α : Type} (C : Cx2) (S : Sm) (F : Sm → Option α) : Prop := ∀ r, F S = some r → ∃ n, F (iter C n) = some r

theorem Mono.const {α : Type} (x : Option α) : Mono fun _ => x := fun _ _ _ _ h => h
theorem Mono.code (f : FuncId) (c : Code) (st : St) : Mono fun S => S.code f c st := fun _ _ h r e => h.code _ _ _ r e
theorem Mono.call (g : FuncId) (a : List V) (x : H) : Mono fun S => S.call g a x := fun _ _ h r e => h.call _ _ _ r e
theorem Mono.bind {α β : Type} {F : Sm → Option α} {G : α → Sm → Option β} (hF : Mono F) (hG : ∀ x, Mono (G x)) : Mono fun S => (F S).bind fun x => G x S := by
  intro S T h r e
  cases hx : F S with
  | none => simp [hx] at e
  | some x =>
    simp only [hx, Option.bind_some] at e
    simp only [hF S T h x hx, Option.bind_some]
    exact hG x S T h r e
theorem Mono.map {α β : Type} {F : Sm → Option α} (g : α → β) (hF : Mono F) : Mono fun S => (F S).map g := by
  intro S T h r e
  cases hx : F S with
  | none => simp [hx] at e
  | some x => simp only [hx, Option.map_some] at e; simp only [hF S T h x hx, Option.map_some]; exact e

end Go.Pv
/-
  The least solution of the evaluator's equations.
-/
set_option linter.unusedSimpArgs false
set_option linter.unusedVariables false
namespace Go.Pv
open Go

theorem HP.runT_bind {α β : Type} (p : HP α) (k : α → HP β) : ∀ h, (p.bind k).runT h = (p.runT h).bind fun r => ((k r.1).runT r.2.1).map fun q => (q.1, q.2.1, r.2.2.1 ++ q.2.2.1, r.2.2.2 ++ q.2.2.2) := by
  induction p with
  | ret a => intro h; simp only [HP.bind, HP.runT, Option.bind_some, List.nil_append]; cases (k a).runT h <;> rfl
  | fail => intro h; rfl
  | get i kk ih =>
    intro h
    simp only [HP.bind, HP.runT]
    split
    · rename_i o ho
      rw [ih o h]
      cases (kk o).runT h with
      | none => rfl
      | some r => simp only [Option.bind_some, Option.map_some]; cases (k r.1).runT r.2.1 <;> simp
    · rfl
  | put i o kk ih =>
    intro h
    simp only [HP.bind, HP.runT]
    split
    · rw [ih (h.set i o)]
      cases kk.runT (h.set i o) with
      | none => rfl
      | some r => simp only [Option.bind_some, Option.map_some]; cases (k r.1).runT r.2.1 <;> simp
    · rfl
  | new o kk ih =>
    intro h
    simp only [HP.bind, HP.runT]
    rw [ih h.length (h ++ [o])]
    cases (kk h.length).runT (h ++ [o]) with
    | none => rfl
    | some r => simp only [Option.bind_some, Option.map_some]; cases (k r.1).runT r.2.1 <;> simp

structure GoodS (it : Nat → Sm) (L : Sm) : Prop where
  code : ∀ f c st r, L.code f c st = some r ↔ ∃ n, (it n).code f c st = some r
  call : ∀ g a h r, L.call g a h = some r ↔ ∃ n, (it n).call g a h = some r
section
variable (it : Nat → Sm)
/-- What is asked of a member: of all, or of a late enough one. -/
structure MC (L : Sm) {α : Type} (F : Sm → Option α) : Prop where
  mono : ∀ S T, Le S T → ∀ r, F S = some r → F T = some r
  cont : ∀ r, F L = some r → ∃ n, F (it n) = some r
variable {it} {L : Sm}

theorem MC.congr {α : Type} {F F' : Sm → Option α} (h : ∀ S, F S = F' S) (k : MC it L F') : MC it L F := by
  have : F = F' := funext h
  subst this; exact k
theorem MC.const {α : Type} (x : Option α) : MC it L fun _ => x := ⟨fun _ _ _ _ h => h, fun r h => ⟨0, h⟩⟩
end

section
variable {it : Nat → Sm} {L : Sm}
variable (chain : ∀ m n, m ≤ n → Le (it m) (it n))
include chain
theorem MC.bind {α β : Type} {F : Sm → Option α} {K : Sm → α → Option β} (hF : MC it L F) (hK : ∀ x, MC it L fun S => K S x) : MC it L fun S => (F S).bind fun x => K S x := by
  constructor
  · intro S T h r e
    cases hx : F S with
    | none => simp [hx] at e
    | some x => simp only [hx, Option.bind_some] at e; simp only [hF.mono S T h x hx, Option.bind_some]; exact (hK x).mono S T h r e
  · intro r e
    cases hx : F L with
    | none => simp [hx] at e
    | some x =>
      simp only [hx, Option.bind_some] at e
      obtain ⟨n, hn⟩ := hF.cont x hx
      obtain ⟨m, hm⟩ := (hK x).cont r e
      refine ⟨max n m, ?_⟩
      simp only [hF.mono _ _ (chain n (max n m) (Nat.le_max_left _ _)) x hn, Option.bind_some]
      exact (hK x).mono _ _ (chain m (max n m) (Nat.le_max_right _ _)) r hm
theorem MC.map {α β : Type} {F : Sm → Option α} (k : α → β) (hF : MC it L F) : MC it L fun S => (F S).map k := by
  have := MC.bind chain hF (K := fun _ x => some (k x)) fun x => MC.const _
  simpa [Option.map_eq_bind, Function.comp_def] using this
end

section
variable {C : Cx2} {it : Nat → Sm} {L : Sm} (chain : ∀ m n, m ≤ n → Le (it m) (it n)) (hL : GoodS it L)
include chain hL
theorem MC.code (f : FuncId) (c : Code) (st : St) : MC it L fun S => S.code f c st := ⟨fun _ _ h r e => h.code _ _ _ r e, fun r e => (hL.code _ _ _ r).1 e⟩
theorem MC.call (g : FuncId) (a : List V) (h : H) : MC it L fun S => S.call g a h := ⟨fun _ _ h r e => h.call _ _ _ r e, fun r e => (hL.call _ _ _ r).1 e⟩

theorem mc_yield (id : Nat) (args : List V) (h : H) : MC it L fun S => yieldV S id args h := by
  unfold yieldV
  split
  · split
    · refine MC.bind chain (MC.code chain hL _ _ _) fun r => ?_
      obtain ⟨x, st1⟩ := r
      cases x with
      | normal =>
        simp only
        split
        · exact MC.bind chain (MC.code chain hL _ _ _) fun r2 => MC.const _
        · exact MC.const _
      | exit id => exact MC.const _
      | ret => exact MC.const _
    · exact MC.const _
  · exact MC.const _
theorem mc_callFn (f : V) (args : List V) (h : H) : MC it L fun S => callFn S f args h := by
  unfold callFn
  split
  · exact MC.call chain hL _ _ _
  · exact MC.call chain hL _ _ _
  · exact MC.const _
theorem mc_callVal (f : V) (args : List V) (h : H) : MC it L fun S => callVal S f args h := by
  unfold callVal
  split
  · exact mc_yield chain hL _ _ _
  · exact mc_callFn chain hL _ _ _
theorem mc_stepO (fid : FuncId) (ops : Array Oper) (o : Oper) (st : St) : MC it L fun S => stepO C S fid ops o st := by
  unfold stepO
  split
  · exact MC.const _
  · exact MC.const _
  · split
    · split
      · exact MC.map chain _ (mc_callVal chain hL _ _ _)
      · exact MC.const _
    · exact MC.const _
theorem mc_runL (fid : FuncId) (ops : Array Oper) : ∀ (os : List Oper) (st : St), MC it L fun S => runL C S fid ops os st
  | [], st => MC.const _
  | o :: os, st => MC.bind chain (mc_stepO chain hL fid ops o st) fun st1 => mc_runL fid ops os st1
theorem mc_body (g : FuncId) (fn : Func) (body : Code) (args : List V) (h : H) : MC it L fun S => bodyV C S g fn body args h := by
  unfold bodyV
  exact MC.bind chain (MC.code chain hL _ _ _) fun r => MC.const _
theorem mc_callF (g : FuncId) (args : List V) (h : H) : MC it L fun S => callF C S g args h := by
  unfold callF
  split
  · exact MC.const _
  · split
    · split
      · split
        · exact MC.const _
        · refine MC.bind chain (MC.const _) fun a => ?_
          split
          · exact MC.map chain _ (mc_body chain hL _ _ _ _ _)
          · exact MC.map chain _ (mc_body chain hL _ _ _ _ _)
      · exact MC.const _
    · exact MC.const _
theorem mc_range (fid : FuncId) (g : Operand) (ps : Array Tmp) (a b : Code) (st : St) : MC it L fun S => rangeV C S fid g ps a b st := by
  unfold rangeV
  refine MC.bind chain (mc_callFn chain hL _ _ _) fun r => ?_
  split
  · split
    · exact MC.const _
    · simp only
      split
      · exact MC.const _
      · exact MC.code chain hL _ _ _
  · exact MC.const _

theorem mc_stepHP (fid : FuncId) (env : List V) (o : Oper) (h : H) : MC it L fun S => (stepHP C S fid env o).runT h := by
  unfold stepHP
  split
  · split
    · unfold callHP
      split
      · rename_i gf _
        split
        · rename_i fn _
          simp only [HP.runT_bind]
          refine MC.bind chain (MC.const _) fun r => MC.map chain _ ?_
          split
          · have hc := MC.call chain hL gf r.1 []
            have key : ∀ S : Sm, (resHP (S.call gf r.1 [])).runT r.2.1 = (S.call gf r.1 []).bind fun q => (resHP (some q)).runT r.2.1 := by
              intro S
              cases S.call gf r.1 [] with
              | none => rfl
              | some q => rfl
            exact MC.congr key (MC.bind chain hc fun q => MC.const _)
          · exact MC.const _
        · exact MC.const _
      · exact MC.const _
    · exact MC.const _
  · exact MC.const _
theorem mc_runD (fid : FuncId) (ops : Array Oper) : ∀ (os : List Oper) (st : St), MC it L fun S => runD C S fid ops os st
  | [], st => MC.const _
  | o :: os, st => by
    unfold runD
    split
    · exact MC.const _
    · exact MC.map chain _ (mc_runD fid ops os _)
    · exact MC.bind chain (mc_stepHP chain hL fid st.env o st.heap) fun r => MC.map chain _ (mc_runD fid ops os _)
theorem mc_codeF (fid : FuncId) (c : Code) (st : St) : MC it L fun S => codeF C S fid c st := by
  cases c
  case region id ops d =>
    simp only [codeF]
    cases d
    · exact MC.map chain _ (mc_runL chain hL fid ops _ st)
    · exact MC.bind chain (mc_runD chain hL fid ops _ st) fun r => MC.const _
  case seq a b =>
    simp only [codeF]
    refine MC.bind chain (MC.code chain hL _ _ _) fun r => ?_
    split
    · exact MC.code chain hL _ _ _
    · exact MC.const _
  case cond x a b =>
    simp only [codeF]
    split
    · split
      · exact MC.code chain hL _ _ _
      · exact MC.code chain hL _ _ _
    · exact MC.const _
  case block id a =>
    simp only [codeF]
    exact MC.map chain _ (MC.code chain hL _ _ _)
  case loop a =>
    simp only [codeF]
    refine MC.bind chain (MC.code chain hL _ _ _) fun r => ?_
    split
    · exact MC.code chain hL _ _ _
    · exact MC.const _
  case scope a =>
    simp only [codeF]
    exact MC.code chain hL _ _ _
  case rangeFunc g ps a b =>
    simp only [codeF]
    exact mc_range chain hL fid g ps a b st
  all_goals exact MC.const _
end

/-! ### The limit -/
theorem codeF_mono (C : Cx2) {S T : Sm} (h : Le S T) (f : FuncId) (c : Code) (st : St) (r : Ex × St) (e : codeF C S f c st = some r) : codeF C T f c st = some r :=
  (mc_codeF (C := C) (it := fun _ => S) (L := S) (fun _ _ _ => .refl _) ⟨fun _ _ _ _ => ⟨fun h => ⟨0, h⟩, fun ⟨_, h⟩ => h⟩, fun _ _ _ _ => ⟨fun h => ⟨0, h⟩, fun ⟨_, h⟩ => h⟩⟩ f c st).mono S T h r e
theorem callF_mono (C : Cx2) {S T : Sm} (h : Le S T) (g : FuncId) (a : List V) (hh : H) (r : V × H) (e : callF C S g a hh = some r) : callF C T g a hh = some r :=
  (mc_callF (C := C) (it := fun _ => S) (L := S) (fun _ _ _ => .refl _) ⟨fun _ _ _ _ => ⟨fun h => ⟨0, h⟩, fun ⟨_, h⟩ => h⟩, fun _ _ _ _ => ⟨fun h => ⟨0, h⟩, fun ⟨_, h⟩ => h⟩⟩ g a hh).mono S T h r e
theorem iter_le_succ (C : Cx2) : ∀ n, Le (iter C n) (iter C (n + 1))
  | 0 => ⟨fun _ _ _ _ h => by simp [iter] at h, fun _ _ _ _ h => by simp [iter] at h⟩
  | n + 1 => ⟨fun f c st r e => codeF_mono C (iter_le_succ C n) f c st r e, fun g a h r e => callF_mono C (iter_le_succ C n) g a h r e⟩
theorem iter_chain (C : Cx2) : ∀ m n, m ≤ n → Le (iter C m) (iter C n) := by
  intro m n h
  obtain ⟨d, rfl⟩ : ∃ d, n = m + d := ⟨n - m, by omega⟩
  clear h
  induction d with
  | zero => exact .refl _
  | succ d ih => exact ih.trans (iter_le_succ C (m + d))
open Classical in
noncomputable def top (C : Cx2) : Sm where
  code f c st := if h : ∃ r n, (iter C n).code f c st = some r then some h.choose else none
  call g a h := if h : ∃ r n, (iter C n).call g a h = some r then some h.choose else none
theorem top_good (C : Cx2) : GoodS (iter C) (top C) := by
  constructor
  · intro f c st r
    simp only [top]
    constructor
    · intro e
      split at e
      · rename_i h
        obtain ⟨n, hn⟩ := h.choose_spec
        exact ⟨n, by rw [hn]; exact e⟩
      · simp at e
    · rintro ⟨n, hn⟩
      have h : ∃ r n, (iter C n).code f c st = some r := ⟨r, n, hn⟩
      rw [dif_pos h]
      obtain ⟨m, hm⟩ := h.choose_spec
      have h1 := (iter_chain C n (max n m) (Nat.le_max_left _ _)).code _ _ _ _ hn
      have h2 := (iter_chain C m (max n m) (Nat.le_max_right _ _)).code _ _ _ _ hm
      exact h2.symm.trans h1
  · intro g a hh r
    simp only [top]
    constructor
    · intro e
      split at e
      · rename_i h
        obtain ⟨n, hn⟩ := h.choose_spec
        exact ⟨n, by rw [hn]; exact e⟩
      · simp at e
    · rintro ⟨n, hn⟩
      have h : ∃ r n, (iter C n).call g a hh = some r := ⟨r, n, hn⟩
      rw [dif_pos h]
      obtain ⟨m, hm⟩ := h.choose_spec
      have h1 := (iter_chain C n (max n m) (Nat.le_max_left _ _)).call _ _ _ _ hn
      have h2 := (iter_chain C m (max n m) (Nat.le_max_right _ _)).call _ _ _ _ hm
      exact h2.symm.trans h1
theorem top_ge (C : Cx2) (n : Nat) : Le (iter C n) (top C) := ⟨fun f c st r e => ((top_good C).code f c st r).2 ⟨n, e⟩, fun g a h r e => ((top_good C).call g a h r).2 ⟨n, e⟩⟩

/-- The evaluator's equations. -/
structure Sol (C : Cx2) (S : Sm) : Prop where
  code : ∀ f c st, S.code f c st = codeF C S f c st
  call : ∀ g a h, S.call g a h = callF C S g a h
theorem top_sol (C : Cx2) : Sol C (top C) := by
  have key : ∀ {α : Type} (x y : Option α), (∀ r, x = some r ↔ y = some r) → x = y := by
    intro α x y h
    cases x with
    | none => cases y with
      | none => rfl
      | some r => exact ((h r).2 rfl)
    | some r => exact ((h r).1 rfl).symm
  constructor
  · intro f c st
    refine key _ _ fun r => ⟨fun e => ?_, fun e => ?_⟩
    · obtain ⟨n, hn⟩ := ((top_good C).code f c st r).1 e
      cases n with
      | zero => simp [iter] at hn
      | succ n => exact codeF_mono C (top_ge C n) f c st r hn
    · obtain ⟨n, hn⟩ := (mc_codeF (C := C) (iter_chain C) (top_good C) f c st).cont r e
      exact ((top_good C).code f c st r).2 ⟨n + 1, hn⟩
  · intro g a h
    refine key _ _ fun r => ⟨fun e => ?_, fun e => ?_⟩
    · obtain ⟨n, hn⟩ := ((top_good C).call g a h r).1 e
      cases n with
      | zero => simp [iter] at hn
      | succ n => exact callF_mono C (top_ge C n) g a h r hn
    · obtain ⟨n, hn⟩ := (mc_callF (C := C) (iter_chain C) (top_good C) g a h).cont r e
      exact ((top_good C).call g a h r).2 ⟨n + 1, hn⟩
end Go.Pv
/-
  What an abstract value says of a value in memory, and what an abstract heap says of a world.
-/
set_option linter.unusedSimpArgs false
set_option linter.unusedVariables false
namespace Go.Pv
open Go

structure WT where
  ι : Nat → Nat → Option Value
  σ : Nat → Option Nat
  μ : Nat → Option (Nat × Nat)
  ν : Nat → Nat
  N : Nat
  G : FuncId → Code → Prop

abbrev at_ (b o : Nat) : Addr := ⟨b, o, none⟩
theorem add_at (b o n : Nat) : (at_ b o).add n = at_ b (o + n) := by
  unfold Addr.add; split <;> simp_all [at_]

/-- The rows at a place of unwritten memory. -/
inductive RD (ι : Nat → Nat → Option Value) : V → Value → Prop
  | sc (v : Value) (h : v.oneCell' = true) : RD ι (.sc v) v
  | list (sz : Nat) (xs : List (List V)) (a : Option Addr) (cap b o : Nat) (val : Nat → Nat → Value)
      (hrow : ∀ x ∈ xs, x.length = sz) (hbase : xs ≠ [] → a = some (at_ b o)) (hcap : xs.length ≤ cap)
      (hc : ∀ i k x y, xs[i]? = some x → x[k]? = some y → ι b (o + i * sz + k) = some (val i k))
      (hr : ∀ i k x y, xs[i]? = some x → x[k]? = some y → RD ι y (val i k)) :
      RD ι (.list sz xs .no) (.slice a xs.length cap)

/-- xs lies at b, o, never to be written. -/
def Rows (ι : Nat → Nat → Option Value) (sz : Nat) (xs : List (List V)) (b o : Nat) : Prop :=
  (∀ x ∈ xs, x.length = sz) ∧ ∀ i k x y, xs[i]? = some x → x[k]? = some y → ∃ v, ι b (o + i * sz + k) = some v ∧ RD ι y v

theorem RD.list' {ι : Nat → Nat → Option Value} {sz : Nat} {xs : List (List V)} {a : Option Addr} {cap b o : Nat}
    (h : Rows ι sz xs b o) (hbase : xs ≠ [] → a = some (at_ b o)) (hcap : xs.length ≤ cap) : RD ι (.list sz xs .no) (.slice a xs.length cap) := by
  classical
  refine .list sz xs a cap b o (fun i k => if h : ∃ v, ι b (o + i * sz + k) = some v then h.choose else undef) h.1 hbase hcap ?_ ?_
  · intro i k x y hx hy
    obtain ⟨v, hv, _⟩ := h.2 i k x y hx hy
    have hex : ∃ v, ι b (o + i * sz + k) = some v := ⟨v, hv⟩
    simp only [dif_pos hex]; exact hex.choose_spec
  · intro i k x y hx hy
    obtain ⟨v, hv, hr⟩ := h.2 i k x y hx hy
    have hex : ∃ v, ι b (o + i * sz + k) = some v := ⟨v, hv⟩
    have e : hex.choose = v := Option.some.inj (hex.choose_spec.symm.trans hv)
    simp only [dif_pos hex, e]; exact hr
theorem RD.list_inv {ι : Nat → Nat → Option Value} {sz : Nat} {xs : List (List V)} {v : Value} (h : RD ι (.list sz xs .no) v) :
    ∃ a cap b o, v = .slice a xs.length cap ∧ Rows ι sz xs b o ∧ (xs ≠ [] → a = some (at_ b o)) ∧ xs.length ≤ cap := by
  cases h with
  | list _ _ a cap b o val hrow hbase hcap hc hr =>
    exact ⟨a, cap, b, o, rfl, ⟨hrow, fun i k x y hx hy => ⟨_, hc i k x y hx hy, hr i k x y hx hy⟩⟩, hbase, hcap⟩

def SubI (ι ι' : Nat → Nat → Option Value) : Prop := ∀ b o v, ι b o = some v → ι' b o = some v
theorem RD.mono {ι ι' : Nat → Nat → Option Value} (hs : SubI ι ι') {x : V} {v : Value} (h : RD ι x v) : RD ι' x v := by
  induction h with
  | sc v h => exact .sc v h
  | list sz xs a cap b o val hrow hbase hcap hc hr ih =>
    exact .list sz xs a cap b o val hrow hbase hcap (fun i k x y hx hy => hs _ _ _ (hc i k x y hx hy)) (fun i k x y hx hy => ih i k x y hx hy)
theorem Rows.mono {ι ι' : Nat → Nat → Option Value} (hs : SubI ι ι') {sz : Nat} {xs : List (List V)} {b o : Nat} (h : Rows ι sz xs b o) : Rows ι' sz xs b o :=
  ⟨h.1, fun i k x y hx hy => let ⟨v, hv, hr⟩ := h.2 i k x y hx hy; ⟨v, hs _ _ _ hv, hr.mono hs⟩⟩

/-- The object is where it is said to be, if it is still of this version. -/
def Place (Δ : WT) (id ver b p : Nat) : Prop := id < Δ.N ∧ ver ≤ Δ.ν id ∧ (ver = Δ.ν id → Δ.μ id = some (b, p))
def TkOk (Δ : WT) (sz n : Nat) (tk : Tk) (v : Value) : Prop :=
  match tk with
  | .no => True
  | .full => ∃ a, v = .slice a n n
  | .tail id => ∃ b o cap S, v = .slice (some (at_ b o)) n cap ∧ Place Δ id (n + 1) b (o + n * sz) ∧ Δ.σ b = some S ∧ o + cap * sz ≤ S

inductive Rep (Δ : WT) : V → Value → Prop
  | unk (v : Value) : Rep Δ .unk v
  | sc (v : Value) : Rep Δ (.sc v) v
  | list (sz : Nat) (xs : List (List V)) (tk : Tk) (v : Value) (h : RD Δ.ι (.list sz xs .no) v) (ht : TkOk Δ sz xs.length tk v) : Rep Δ (.list sz xs tk) v
  | pptr (sz : Nat) (xs : List (List V)) (i k b o : Nat) (h : Rows Δ.ι sz xs b o) : Rep Δ (.pptr sz xs i k) (.pointer (some (at_ b (o + i * sz + k))))
  | ref (id off b : Nat) (h : Place Δ id 1 b 0) : Rep Δ (.ref id off) (.pointer (some (at_ b off)))
  | sl (id ver sz off len b cap S : Nat) (h : Place Δ id (ver + 1) b 0) (hs : Δ.σ b = some S) (hc : (off + cap) * sz ≤ S) (hl : len ≤ cap) : Rep Δ (.sl id ver sz off len) (.slice (some (at_ b (off * sz))) len cap)
  | eref (id ver sz i k b : Nat) (h : Place Δ id (ver + 1) b 0) : Rep Δ (.eref id ver sz i k) (.pointer (some (at_ b (i * sz + k))))
  | csl (id off len b cap : Nat) (h : Place Δ id 1 b 0) (hl : len ≤ cap) : Rep Δ (.csl id off len) (.slice (some (at_ b off)) len cap)
  | agg (cs : List V) (vs : Array Value) (hn : vs.size = cs.length) (h : ∀ (i : Nat) (x : V) (v : Value), cs[i]? = some x → vs[i]? = some v → Rep Δ x v) : Rep Δ (.agg cs) (.agg vs)
  | tup (cs : List V) (vs : Array Value) (hn : vs.size = cs.length) (h : ∀ (i : Nat) (x : V) (v : Value), cs[i]? = some x → vs[i]? = some v → Rep Δ x v) : Rep Δ (.tup cs) (.tuple vs)
  | fn (f : Fn) (first caps : List V) (us vs : Array Value) (hu : us.size = first.length) (hv : vs.size = caps.length)
      (h1 : ∀ (i : Nat) (x : V) (v : Value), first[i]? = some x → us[i]? = some v → Rep Δ x v) (h2 : ∀ (i : Nat) (x : V) (v : Value), caps[i]? = some x → vs[i]? = some v → Rep Δ x v) : Rep Δ (.fn f first caps) (.func f us vs)
  | yld (id l : Nat) (h : Place Δ id 1 l 0) : Rep Δ (.yld id) (.func (.yield l) #[] #[])
  | mp (id b : Nat) (h : Place Δ id 1 b 0) : Rep Δ (.mp id) (.map (some b))

/-- Lists of values. -/
def RepL (Δ : WT) (xs : List V) (vs : List Value) : Prop := xs.length = vs.length ∧ ∀ (i : Nat) (x : V) (v : Value), xs[i]? = some x → vs[i]? = some v → Rep Δ x v

structure Ext (Δ Δ' : WT) : Prop where
  ι : SubI Δ.ι Δ'.ι
  σ : ∀ b S, Δ.σ b = some S → Δ'.σ b = some S
  N : Δ.N ≤ Δ'.N
  ν : ∀ id, id < Δ.N → Δ.ν id ≤ Δ'.ν id
  μ : ∀ id, id < Δ.N → Δ.ν id = Δ'.ν id → Δ.μ id = Δ'.μ id
  G : Δ'.G = Δ.G
theorem Ext.refl (Δ : WT) : Ext Δ Δ := ⟨fun _ _ _ h => h, fun _ _ h => h, Nat.le_refl _, fun _ _ => Nat.le_refl _, fun _ _ _ => rfl, rfl⟩
theorem Ext.trans {Δ Δ' Δ'' : WT} (h : Ext Δ Δ') (k : Ext Δ' Δ'') : Ext Δ Δ'' where
  ι := fun b o v e => k.ι _ _ _ (h.ι b o v e)
  σ := fun b S e => k.σ _ _ (h.σ b S e)
  N := Nat.le_trans h.N k.N
  ν := fun id hi => Nat.le_trans (h.ν id hi) (k.ν id (Nat.lt_of_lt_of_le hi h.N))
  μ := fun id hi e => by
    have h1 := h.ν id hi
    have h2 := k.ν id (Nat.lt_of_lt_of_le hi h.N)
    rw [h.μ id hi (by omega), k.μ id (Nat.lt_of_lt_of_le hi h.N) (by omega)]
  G := k.G.trans h.G
theorem Place.ext {Δ Δ' : WT} (e : Ext Δ Δ') {id ver b p : Nat} (h : Place Δ id ver b p) : Place Δ' id ver b p := by
  obtain ⟨h1, h2, h3⟩ := h
  have := e.ν id h1
  refine ⟨Nat.lt_of_lt_of_le h1 e.N, by omega, fun hv => ?_⟩
  rw [← e.μ id h1 (by omega)]; exact h3 (by omega)
theorem TkOk.ext {Δ Δ' : WT} (e : Ext Δ Δ') {sz n : Nat} {tk : Tk} {v : Value} (h : TkOk Δ sz n tk v) : TkOk Δ' sz n tk v := by
  cases tk with
  | no => exact h
  | full => exact h
  | tail id => obtain ⟨b, o, cap, S, h1, h2, h3, h4⟩ := h; exact ⟨b, o, cap, S, h1, h2.ext e, e.σ _ _ h3, h4⟩
theorem Rep.ext {Δ Δ' : WT} (e : Ext Δ Δ') {x : V} {v : Value} (h : Rep Δ x v) : Rep Δ' x v := by
  induction h with
  | unk v => exact .unk v
  | sc v => exact .sc v
  | list sz xs tk v h ht => exact .list sz xs tk v (h.mono e.ι) (ht.ext e)
  | pptr sz xs i k b o h => exact .pptr sz xs i k b o (h.mono e.ι)
  | ref id off b h => exact .ref id off b (h.ext e)
  | sl id ver sz off len b cap S h hs hc hl => exact .sl id ver sz off len b cap S (h.ext e) (e.σ _ _ hs) hc hl
  | eref id ver sz i k b h => exact .eref id ver sz i k b (h.ext e)
  | csl id off len b cap h hl => exact .csl id off len b cap (h.ext e) hl
  | agg cs vs hn h ih => exact .agg cs vs hn ih
  | tup cs vs hn h ih => exact .tup cs vs hn ih
  | fn f first caps us vs hu hv h1 h2 i1 i2 => exact .fn f first caps us vs hu hv i1 i2
  | yld id l h => exact .yld id l (h.ext e)
  | mp id b h => exact .mp id b (h.ext e)
theorem RepL.ext {Δ Δ' : WT} (e : Ext Δ Δ') {xs : List V} {vs : List Value} (h : RepL Δ xs vs) : RepL Δ' xs vs := ⟨h.1, fun i x v hx hv => (h.2 i x v hx hv).ext e⟩
theorem RepL.nil (Δ : WT) : RepL Δ [] [] := ⟨rfl, fun i x v hx => by simp at hx⟩
theorem RepL.cons {Δ : WT} {x : V} {v : Value} {xs : List V} {vs : List Value} (h : Rep Δ x v) (hs : RepL Δ xs vs) : RepL Δ (x :: xs) (v :: vs) := by
  refine ⟨by simp [hs.1], fun i y u hy hu => ?_⟩
  cases i with
  | zero => simp at hy hu; subst hy hu; exact h
  | succ i => simp at hy hu; exact hs.2 i y u hy hu
theorem RepL.cons_inv {Δ : WT} {x : V} {xs : List V} {vs : List Value} (h : RepL Δ (x :: xs) vs) : ∃ v vs', vs = v :: vs' ∧ Rep Δ x v ∧ RepL Δ xs vs' := by
  cases vs with
  | nil => have := h.1; simp at this
  | cons v vs' => exact ⟨v, vs', rfl, h.2 0 x v rfl rfl, ⟨by have := h.1; simpa using this, fun i y u hy hu => h.2 (i + 1) y u (by simpa using hy) (by simpa using hu)⟩⟩
theorem RepL.append {Δ : WT} {xs ys : List V} {us vs : List Value} (h : RepL Δ xs us) (k : RepL Δ ys vs) : RepL Δ (xs ++ ys) (us ++ vs) := by
  refine ⟨by simp [h.1, k.1], fun i x v hx hv => ?_⟩
  by_cases hi : i < xs.length
  · rw [List.getElem?_append_left hi] at hx
    rw [List.getElem?_append_left (by rw [← h.1]; exact hi)] at hv
    exact h.2 i x v hx hv
  · rw [List.getElem?_append_right (by omega)] at hx
    rw [List.getElem?_append_right (by rw [← h.1]; omega), ← h.1] at hv
    exact k.2 _ x v hx hv

def Ob.live : Ob → Bool
  | .dead => false
  | .pad => false
  | _ => true
/-- The block belongs to an object of the heap. -/
def OB (Δ : WT) (h : H) (b : Nat) : Prop := ∃ id o p, h[id]? = some o ∧ o.live = true ∧ Δ.μ id = some (b, p)

/-- A block of cells that may be written. -/
def Block (w : World) (b S : Nat) : Prop := ∃ arr e fr, w.heap[b]? = some (.cells arr e fr) ∧ arr.size = S ∧ ∀ o, o < S → w.frozen? (at_ b o) = false
/-- .. of variables of a type. -/
def BlockT (w : World) (b : Nat) (t : TypeId) (S : Nat) : Prop := Block w b S ∧ ∃ arr fr, w.heap[b]? = some (.cells arr t fr)

/-- The entries of a map, in whatever order. -/
structure MapIs (Δ : WT) (es : List (Value × V)) (arr : Array MapEntry) (clock : Nat) : Prop where
  size : arr.size = es.length
  nd : (es.map (·.1)).Nodup
  st : MapKept.Stamped arr clock
  to : ∀ k x, (k, x) ∈ es → ∃ e ∈ arr.toList, e.key = k ∧ Rep Δ x e.val
  from_ : ∀ e ∈ arr.toList, ∃ x, (e.key, x) ∈ es
theorem MapIs.ext {Δ Δ' : WT} (e : Ext Δ Δ') {es : List (Value × V)} {arr : Array MapEntry} {clock : Nat} (h : MapIs Δ es arr clock) : MapIs Δ' es arr clock :=
  ⟨h.size, h.nd, h.st, fun k x hk => let ⟨en, h1, h2, h3⟩ := h.to k x hk; ⟨en, h1, h2, h3.ext e⟩, h.from_⟩
def ObOk (Δ : WT) (w : World) (id : Nat) : Ob → Prop
  | .dead => True
  | .pad => Δ.ν id = 0
  | .cells bt c => Δ.ν id = 1 ∧ ∃ b, Δ.μ id = some (b, 0) ∧ BlockT w b bt c.length ∧ (∀ o x, c[o]? = some x → ∃ v, w.cell? (at_ b o) = some v ∧ Rep Δ x v) ∧ ∀ o, Δ.ι b o = none
  | .tail bt n => Δ.ν id = n + 1 ∧ ∃ b p S, Δ.μ id = some (b, p) ∧ Δ.σ b = some S ∧ BlockT w b bt S ∧ ∀ o, p ≤ o → Δ.ι b o = none
  | .arr ver wm sz xs => Δ.ν id = ver + 1 ∧ ∃ b S, Δ.μ id = some (b, 0) ∧ Δ.σ b = some S ∧ Block w b S ∧ xs.length * sz ≤ S ∧ (∀ x ∈ xs, x.length = sz) ∧
      (∀ i k x y, xs[i]? = some x → x[k]? = some y → ∃ v, w.cell? (at_ b (i * sz + k)) = some v ∧ RD Δ.ι y v) ∧ ∀ o, wm * sz ≤ o → Δ.ι b o = none
  | .map es => Δ.ν id = 1 ∧ ∃ b arr clock, Δ.μ id = some (b, 0) ∧ w.heap[b]? = some (.map arr clock) ∧ MapIs Δ es arr clock
  | .loop st pend fid tmps params assign body => Δ.ν id = 1 ∧ ∃ l r, Δ.μ id = some (l, 0) ∧ w.heap[l]? = some (.loop r) ∧ r.state = st ∧ r.pending = pend ∧ (Δ.G fid assign ∧ Δ.G fid body ∧ ∀ c, pend = some c → ∀ f, Δ.G f c) ∧ RepL Δ tmps r.tmps.toList ∧ r.params.toList = params ∧ r.assign = assign ∧ r.body = body

structure Inv (Δ : WT) (h : H) (w : World) : Prop where
  ι : ∀ b o v, Δ.ι b o = some v → w.cell? (at_ b o) = some v
  σ : ∀ b S, Δ.σ b = some S → ∃ arr e fr, w.heap[b]? = some (.cells arr e fr) ∧ arr.size = S
  N : Δ.N = h.length
  ob : ∀ id o, h[id]? = some o → ObOk Δ w id o
  dis : ∀ id id' o o' b p p', h[id]? = some o → h[id']? = some o' → o.live = true → o'.live = true → Δ.μ id = some (b, p) → Δ.μ id' = some (b, p') → id = id'

/-- What an execution leaves as it was. -/
structure Step (Δ : WT) (h : H) (w : World) (Δ' : WT) (h' : H) (w' : World) : Prop where
  ext : Ext Δ Δ'
  os : w'.os = w.os
  tape : w'.tape = w.tape
  output : w'.output = w.output
  size : w.heap.size ≤ w'.heap.size
  block : ∀ b, b < w.heap.size → ¬ OB Δ h b → w'.heap[b]? = w.heap[b]?
  own : ∀ b, b < w.heap.size → OB Δ' h' b → OB Δ h b
  newι : ∀ b o, b < w.heap.size → ¬ OB Δ h b → Δ'.ι b o = Δ.ι b o
  loops : ∀ (l : Nat) (r : Loop), w.heap[l]? = some (Obj.loop r) → ∃ r', w'.heap[l]? = some (Obj.loop r')
theorem Step.refl (Δ : WT) (h : H) (w : World) : Step Δ h w Δ h w :=
  ⟨.refl _, rfl, rfl, rfl, Nat.le_refl _, fun _ _ _ => rfl, fun _ _ k => k, fun _ _ _ _ => rfl, fun _ r k => ⟨r, k⟩⟩
theorem Step.trans {Δ Δ1 Δ2 : WT} {h h1 h2 : H} {w w1 w2 : World} (a : Step Δ h w Δ1 h1 w1) (b : Step Δ1 h1 w1 Δ2 h2 w2) : Step Δ h w Δ2 h2 w2 where
  ext := a.ext.trans b.ext
  os := b.os.trans a.os
  tape := b.tape.trans a.tape
  output := b.output.trans a.output
  size := Nat.le_trans a.size b.size
  block := fun x hx hn => (b.block x (Nat.lt_of_lt_of_le hx a.size) (fun k => hn (a.own x hx k))).trans (a.block x hx hn)
  own := fun x hx k => a.own x hx (b.own x (Nat.lt_of_lt_of_le hx a.size) k)
  newι := fun x o hx hn => (b.newι x o (Nat.lt_of_lt_of_le hx a.size) (fun k => hn (a.own x hx k))).trans (a.newι x o hx hn)
  loops := fun l r k => let ⟨r', k'⟩ := a.loops l r k; b.loops l r' k'

/-! ### One object changes -/
structure Upd (Δ : WT) (h : H) (w : World) (id : Nat) (o' : Ob) (Δ' : WT) (w' : World) (T : Nat → Prop) : Prop where
  hid : id < h.length
  ext : Ext Δ Δ'
  N : Δ'.N = Δ.N
  μ : ∀ i, i ≠ id → Δ'.μ i = Δ.μ i
  ν : ∀ i, i ≠ id → Δ'.ν i = Δ.ν i
  own : ∀ b, T b → ∃ o p, h[id]? = some o ∧ o.live = true ∧ Δ.μ id = some (b, p)
  os : w'.os = w.os
  tape : w'.tape = w.tape
  output : w'.output = w.output
  size : w.heap.size ≤ w'.heap.size
  block : ∀ b, b < w.heap.size → ¬ T b → w'.heap[b]? = w.heap[b]?
  newι : ∀ b o, b < w.heap.size → ¬ T b → Δ'.ι b o = Δ.ι b o
  ι : ∀ b o v, Δ'.ι b o = some v → w'.cell? (at_ b o) = some v
  σ : ∀ b S, Δ'.σ b = some S → ∃ arr e fr, w'.heap[b]? = some (.cells arr e fr) ∧ arr.size = S
  ok : ObOk Δ' w' id o'
  dis : o'.live = true → ∀ b p, Δ'.μ id = some (b, p) → w.heap.size ≤ b ∨ T b
  loops : ∀ (l : Nat) (r : Loop), T l → w.heap[l]? = some (Obj.loop r) → ∃ r', w'.heap[l]? = some (Obj.loop r')

theorem ObOk.lt {Δ : WT} {w : World} {id : Nat} {o : Ob} (h : ObOk Δ w id o) (hl : o.live = true) {b p : Nat} (hm : Δ.μ id = some (b, p)) : b < w.heap.size := by
  have key : ∀ {S}, Block w b S → b < w.heap.size := fun h => by obtain ⟨arr, e, fr, hh, _⟩ := h; exact (Array.getElem?_eq_some_iff.1 hh).1
  cases o with
  | dead => simp [Ob.live] at hl
  | pad => simp [Ob.live] at hl
  | cells bt c => obtain ⟨_, b', h1, h2, _⟩ := h; rw [hm] at h1; cases h1; exact key h2.1
  | tail bt n => obtain ⟨_, b', p', S, h1, _, h2, _⟩ := h; rw [hm] at h1; cases h1; exact key h2.1
  | arr ver wm sz xs => obtain ⟨_, b', S, h1, _, h2, _⟩ := h; rw [hm] at h1; cases h1; exact key h2
  | map es => obtain ⟨_, b', arr, clock, h1, h2, _⟩ := h; rw [hm] at h1; cases h1; exact (Array.getElem?_eq_some_iff.1 h2).1
  | loop st pend fid tmps params assign body => obtain ⟨_, l, r, h1, h2, _⟩ := h; rw [hm] at h1; cases h1; exact (Array.getElem?_eq_some_iff.1 h2).1
theorem cell?_eq {w w' : World} {b o : Nat} (e : w'.heap[b]? = w.heap[b]?) : w'.cell? (at_ b o) = w.cell? (at_ b o) := by
  simp only [World.cell?, at_, e]
theorem Block.eq {w w' : World} {b S : Nat} (h : Block w b S) (e : w'.heap[b]? = w.heap[b]?) : Block w' b S := by
  obtain ⟨arr, t, fr, hh, hs, hf⟩ := h
  refine ⟨arr, t, fr, e.trans hh, hs, fun o ho => ?_⟩
  have := hf o ho
  simp only [World.frozen?, at_, e] at this ⊢; exact this
theorem ObOk.keep {Δ Δ' : WT} {w w' : World} {id : Nat} {o : Ob} (h : ObOk Δ w id o) (ext : Ext Δ Δ') (hm : Δ'.μ id = Δ.μ id) (hn : Δ'.ν id = Δ.ν id)
    (hk : ∀ b p, o.live = true → Δ.μ id = some (b, p) → w'.heap[b]? = w.heap[b]? ∧ ∀ j, Δ'.ι b j = Δ.ι b j) : ObOk Δ' w' id o := by
  cases o with
  | dead => trivial
  | pad => exact hn.trans h
  | cells bt c =>
    obtain ⟨hν, b, h1, h2, h3, h4⟩ := h
    obtain ⟨e1, e2⟩ := hk b 0 rfl h1
    exact ⟨hn.trans hν, b, hm.trans h1, ⟨h2.1.eq e1, let ⟨arr, fr, hh⟩ := h2.2; ⟨arr, fr, e1.trans hh⟩⟩, fun j x hx => let ⟨v, hv, hr⟩ := h3 j x hx; ⟨v, (cell?_eq e1).trans hv, hr.ext ext⟩, fun j => (e2 j).trans (h4 j)⟩
  | tail bt n =>
    obtain ⟨hν, b, p, S, h1, hs, h2, h4⟩ := h
    obtain ⟨e1, e2⟩ := hk b p rfl h1
    exact ⟨hn.trans hν, b, p, S, hm.trans h1, ext.σ _ _ hs, ⟨h2.1.eq e1, let ⟨arr, fr, hh⟩ := h2.2; ⟨arr, fr, e1.trans hh⟩⟩, fun j hj => (e2 j).trans (h4 j hj)⟩
  | arr ver wm sz xs =>
    obtain ⟨hν, b, S, h1, hs, h2, h3, h4, h5, h6⟩ := h
    obtain ⟨e1, e2⟩ := hk b 0 rfl h1
    exact ⟨hn.trans hν, b, S, hm.trans h1, ext.σ _ _ hs, h2.eq e1, h3, h4, fun i k x y hx hy => let ⟨v, hv, hr⟩ := h5 i k x y hx hy; ⟨v, (cell?_eq e1).trans hv, hr.mono ext.ι⟩, fun j hj => (e2 j).trans (h6 j hj)⟩
  | map es =>
    obtain ⟨hν, b, arr, clock, h1, h2, h3⟩ := h
    obtain ⟨e1, _⟩ := hk b 0 rfl h1
    exact ⟨hn.trans hν, b, arr, clock, hm.trans h1, e1.trans h2, h3.ext ext⟩
  | loop st pend fid tmps params assign body =>
    obtain ⟨hν, l, r, h1, h2, a1, a2, a3, a4, a5, a6, a7⟩ := h
    obtain ⟨e1, _⟩ := hk l 0 rfl h1
    exact ⟨hn.trans hν, l, r, hm.trans h1, e1.trans h2, a1, a2, by rw [ext.G]; exact a3, a4.ext ext, a5, a6, a7⟩

theorem Upd.inv {Δ Δ' : WT} {h : H} {w w' : World} {id : Nat} {o' : Ob} {T : Nat → Prop} (u : Upd Δ h w id o' Δ' w' T) (inv : Inv Δ h w) :
    Inv Δ' (h.set id o') w' ∧ Step Δ h w Δ' (h.set id o') w' := by
  have other : ∀ i o b p, i ≠ id → h[i]? = some o → o.live = true → Δ.μ i = some (b, p) → b < w.heap.size ∧ ¬ T b := by
    intro i o b p hi ho hl hm
    refine ⟨(inv.ob i o ho).lt hl hm, fun ht => ?_⟩
    obtain ⟨o2, p2, ho2, hl2, hm2⟩ := u.own b ht
    exact hi (inv.dis i id o o2 b p p2 ho ho2 hl hl2 hm hm2)
  have get : ∀ i o, (h.set id o')[i]? = some o → (i = id ∧ o = o') ∨ (i ≠ id ∧ h[i]? = some o) := by
    intro i o hi
    rw [List.getElem?_set] at hi
    by_cases e : id = i
    · rw [if_pos e, if_pos u.hid] at hi; exact .inl ⟨e.symm, (Option.some.inj hi).symm⟩
    · rw [if_neg e] at hi; exact .inr ⟨fun k => e k.symm, hi⟩
  constructor
  · refine ⟨u.ι, u.σ, ?_, ?_, ?_⟩
    · rw [u.N, inv.N]; simp
    · intro i o hi
      rcases get i o hi with ⟨rfl, rfl⟩ | ⟨hne, hi⟩
      · exact u.ok
      · exact (inv.ob i o hi).keep u.ext (u.μ i hne) (u.ν i hne) (fun b p hl hm => by
          obtain ⟨h1, h2⟩ := other i o b p hne hi hl hm
          exact ⟨u.block b h1 h2, fun j => u.newι b j h1 h2⟩)
    · intro i j o1 o2 b p p' hi hj l1 l2 m1 m2
      rcases get i o1 hi with ⟨ei, eo⟩ | ⟨hne, hi'⟩
      · rcases get j o2 hj with ⟨ej, eo'⟩ | ⟨hne', hj'⟩
        · exact ei.trans ej.symm
        · rw [u.μ j hne'] at m2
          obtain ⟨k1, k2⟩ := other j o2 b p' hne' hj' l2 m2
          rw [eo] at l1; rw [ei] at m1
          rcases u.dis l1 b p m1 with k | k
          · omega
          · exact absurd k k2
      · rcases get j o2 hj with ⟨ej, eo'⟩ | ⟨hne', hj'⟩
        · rw [u.μ i hne] at m1
          obtain ⟨k1, k2⟩ := other i o1 b p hne hi' l1 m1
          rw [eo'] at l2; rw [ej] at m2
          rcases u.dis l2 b p' m2 with k | k
          · omega
          · exact absurd k k2
        · rw [u.μ i hne] at m1; rw [u.μ j hne'] at m2
          exact inv.dis i j o1 o2 b p p' hi' hj' l1 l2 m1 m2
  · have notT : ∀ b, ¬ OB Δ h b → ¬ T b := fun b hn ht => by
      obtain ⟨o, p, h1, h2, h3⟩ := u.own b ht
      exact hn ⟨id, o, p, h1, h2, h3⟩
    refine ⟨u.ext, u.os, u.tape, u.output, u.size, fun b hb hn => u.block b hb (notT b hn), ?_, fun b o hb hn => u.newι b o hb (notT b hn), ?_⟩
    · rintro b hb ⟨i, o, p, hi, hl, hm⟩
      rcases get i o hi with ⟨rfl, rfl⟩ | ⟨hne, hi⟩
      · rcases u.dis hl b p hm with k | k
        · omega
        · obtain ⟨o, p, h1, h2, h3⟩ := u.own b k
          exact ⟨i, o, p, h1, h2, h3⟩
      · rw [u.μ i hne] at hm; exact ⟨i, o, p, hi, hl, hm⟩
    · intro l r hl
      by_cases ht : T l
      · exact u.loops l r ht hl
      · exact ⟨r, (u.block l (Array.getElem?_eq_some_iff.1 hl).1 ht).trans hl⟩
end Go.Pv
/-
  The model's small steps on cells, and what they do to a world.
-/
set_option linter.unusedSimpArgs false
set_option linter.unusedVariables false
namespace Go.Pv
open Go


/-! ### A block's cells -/
theorem cell?_at {w : World} {b o : Nat} {arr : Array Value} {e : TypeId} {fr : Nat × Nat} (h : w.heap[b]? = some (.cells arr e fr)) : w.cell? (at_ b o) = arr[o]? := by
  simp [World.cell?, at_, h]
theorem Block.some {w : World} {b S : Nat} (h : Block w b S) {o : Nat} (ho : o < S) : ∃ v, w.cell? (at_ b o) = Option.some v := by
  obtain ⟨arr, e, fr, hh, hs, _⟩ := h
  exact ⟨arr[o], by rw [cell?_at hh]; simp [hs, ho]⟩
theorem Block.lt {w : World} {b S o : Nat} {v : Value} (h : Block w b S) (hc : w.cell? (at_ b o) = Option.some v) : o < S := by
  obtain ⟨arr, e, fr, hh, hs, _⟩ := h
  rw [cell?_at hh] at hc
  have := (Array.getElem?_eq_some_iff.1 hc).1
  omega
theorem Block.size_lt {w : World} {b S : Nat} (h : Block w b S) : b < w.heap.size := by
  obtain ⟨arr, e, fr, hh, _⟩ := h
  exact (Array.getElem?_eq_some_iff.1 hh).1
theorem heap_setCell_other {w : World} {b o c : Nat} {v : Value} (h : c ≠ b) : (w.setCell (at_ b o) v).heap[c]? = w.heap[c]? := by
  simp only [World.setCell, Array.getElem?_modify]
  simp [at_, h.symm]
theorem heap_setCell_same {w : World} {b o : Nat} {v : Value} {arr : Array Value} {e : TypeId} {fr : Nat × Nat} (h : w.heap[b]? = some (.cells arr e fr)) :
    (w.setCell (at_ b o) v).heap[b]? = some (.cells (arr.setIfInBounds o v) e fr) := by
  simp only [World.setCell, Array.getElem?_modify, at_, if_true, h, Option.map_some, Option.isSome_none, Bool.false_eq_true, if_false]

def setCells (w : World) (b o : Nat) : List Value → World
  | [] => w
  | v :: vs => setCells (w.setCell (at_ b o) v) b (o + 1) vs
theorem setCells_other (w : World) (b o c : Nat) (vs : List Value) (h : c ≠ b) : (setCells w b o vs).heap[c]? = w.heap[c]? := by
  induction vs generalizing w o with
  | nil => rfl
  | cons v vs ih => rw [setCells, ih, heap_setCell_other h]
theorem setCells_size (w : World) (b o : Nat) (vs : List Value) : (setCells w b o vs).heap.size = w.heap.size := by
  induction vs generalizing w o with
  | nil => rfl
  | cons v vs ih => rw [setCells, ih]; simp
theorem setCells_os (w : World) (b o : Nat) (vs : List Value) : (setCells w b o vs).os = w.os ∧ (setCells w b o vs).tape = w.tape ∧ (setCells w b o vs).output = w.output := by
  induction vs generalizing w o with
  | nil => exact ⟨rfl, rfl, rfl⟩
  | cons v vs ih => rw [setCells]; exact ih _ _
theorem setCells_type (w : World) (b o : Nat) (vs : List Value) {t : TypeId} (h : ∃ arr fr, w.heap[b]? = some (.cells arr t fr)) : ∃ arr fr, (setCells w b o vs).heap[b]? = some (.cells arr t fr) := by
  induction vs generalizing w o with
  | nil => exact h
  | cons v vs ih =>
    obtain ⟨arr, fr, hh⟩ := h
    exact ih _ _ ⟨_, _, heap_setCell_same hh⟩
theorem setCells_block (w : World) (b o S : Nat) (vs : List Value) (h : Block w b S) : Block (setCells w b o vs) b S := by
  induction vs generalizing w o with
  | nil => exact h
  | cons v vs ih =>
    rw [setCells]
    refine ih _ _ ?_
    obtain ⟨arr, e, fr, hh, hs, hf⟩ := h
    refine ⟨_, e, fr, heap_setCell_same hh, by simp [hs], fun j hj => ?_⟩
    rw [World.frozen?_setCell]; exact hf j hj
theorem setCells_cell (w : World) (b o S : Nat) (vs : List Value) (h : Block w b S) (hl : o + vs.length ≤ S) (j : Nat) :
    (setCells w b o vs).cell? (at_ b j) = if o ≤ j ∧ j < o + vs.length then vs[j - o]? else w.cell? (at_ b j) := by
  induction vs generalizing w o with
  | nil => rw [setCells, if_neg (by simp only [List.length_nil]; omega)]
  | cons v vs ih =>
    simp only [List.length_cons] at hl
    have h1 : Block (w.setCell (at_ b o) v) b S := by have := setCells_block w b o S [v] h; simpa [setCells] using this
    rw [setCells, ih _ _ h1 (by omega)]
    obtain ⟨u, hu⟩ := h.some (o := o) (by omega)
    by_cases e : j = o
    · subst e
      rw [if_neg (by omega), if_pos (by simp), World.cell?_setCell_same _ _ _ hu]; simp
    · rw [World.cell?_setCell_other _ _ _ _ (by simp [at_]; omega)]
      by_cases h2 : o + 1 ≤ j ∧ j < o + 1 + vs.length
      · rw [if_pos h2, if_pos (by simp; omega)]
        obtain ⟨d, rfl⟩ : ∃ d, j = o + 1 + d := ⟨j - (o + 1), by omega⟩
        rw [show o + 1 + d - (o + 1) = d from by omega, show o + 1 + d - o = d + 1 from by omega, List.getElem?_cons_succ]
      · rw [if_neg h2, if_neg (by simp; omega)]
theorem run_storeCells (P : Program) (w : World) (b o S i : Nat) (vs : List Value) (h : Block w b S) (hl : o + i + vs.length ≤ S) (hv : ∀ v ∈ vs, v.oneCell' = true) :
    (storeCells (at_ b o) vs i).run P w = .ok () (setCells w b (o + i) vs) := by
  induction vs generalizing w i with
  | nil => rfl
  | cons v vs ih =>
    simp only [List.length_cons] at hl
    obtain ⟨u, hu⟩ := h.some (o := o + i) (by omega)
    have hf : w.frozen? (at_ b (o + i)) = false := by obtain ⟨arr, e, fr, hh, hs, hf⟩ := h; exact hf _ (by omega)
    have h1 : Block (w.setCell (at_ b (o + i)) v) b S := by have := setCells_block w b (o + i) S [v] h; simpa [setCells] using this
    rw [storeCells, Sem.run_bind, add_at, run_store P w _ v _ (hv v (by simp)), hu]
    simp only [hf, Bool.false_eq_true, if_false, Result.andThen_ok]
    rw [ih _ _ h1 (by omega) (fun u hu => hv u (by simp [hu])), setCells]; rfl
theorem run_loadCellsFrom (P : Program) (w : World) (b o i n : Nat) (acc : Array Value) (vs : List Value) (hn : vs.length = n)
    (h : ∀ j v, vs[j]? = some v → w.cell? (at_ b (o + i + j)) = some v) : (loadCellsFrom (at_ b o) i n acc).run P w = .ok (acc ++ vs.toArray) w := by
  induction n generalizing i acc vs with
  | zero => obtain rfl : vs = [] := List.eq_nil_of_length_eq_zero hn; simp [loadCellsFrom]
  | succ n ih =>
    cases vs with
    | nil => simp at hn
    | cons v vs =>
      rw [loadCellsFrom, Sem.run_bind, add_at, run_load]
      have h0 := h 0 v rfl
      simp only [Nat.add_zero] at h0
      simp only [h0, Result.andThen_ok]
      rw [ih (i + 1) (acc.push v) vs (by simpa using hn) (fun j u hu => by have := h (j + 1) u (by simpa using hu); rw [show o + (i + 1) + j = o + i + (j + 1) from by omega]; exact this)]
      simp
theorem run_loadCells (P : Program) (w : World) (b o n : Nat) (vs : List Value) (hn : vs.length = n)
    (h : ∀ j v, vs[j]? = some v → w.cell? (at_ b (o + j)) = some v) : (loadCells (at_ b o) n).run P w = .ok vs.toArray w := by
  rw [loadCells, run_loadCellsFrom P w b o 0 n #[] vs hn (by simpa using h)]; simp

/-! ### Types -/
theorem run_underlying {P : Program} {w : World} {t : TypeId} {d : TypeDesc} (h : P.underlying t = some d) : (underlying t).run P w = .ok d w := by
  simp [underlying, h]
theorem run_isAgg {P : Program} {w : World} {t : TypeId} (h : (P.underlying t).isSome = true) : (isAgg t).run P w = .ok (isAggT P t) w := by
  obtain ⟨d, hd⟩ := Option.isSome_iff_exists.1 h
  simp only [isAgg, Sem.run_bind, run_underlying hd, Result.andThen_ok, isAggT, hd]
  cases d <;> rfl
theorem run_typeInfo {P : Program} {w : World} {t : TypeId} {i : TypeInfo} (h : P.info? t = some i) : (typeInfo t).run P w = .ok i w := by
  simp [typeInfo, h]
theorem run_sizeOf {P : Program} {w : World} {t : TypeId} {i : TypeInfo} (h : P.info? t = some i) : (sizeOf t).run P w = .ok (P.cellsOf t) w := by
  simp [sizeOf, run_typeInfo h, Program.cellsOf, h]
theorem run_zeroValue {P : Program} {w : World} {t : TypeId} {i : TypeInfo} {v : Value} (h : P.info? t = some i) (hz : i.zero = some v) : (zeroValue t).run P w = .ok v w := by
  simp [zeroValue, run_typeInfo h, hz]
theorem info_of_underlying {P : Program} {t : TypeId} {d : TypeDesc} (h : P.underlying t = some d) : ∃ i, P.info? t = some i := by
  unfold Program.underlying at h
  split at h
  · exact ⟨_, by assumption⟩
  · exact ⟨_, by assumption⟩
  · simp at h
end Go.Pv
/-
  How the heap grows and changes.
-/
set_option linter.unusedSimpArgs false
set_option linter.unusedVariables false
namespace Go.Pv
open Go

theorem heap_alloc_same (w : World) (o : Obj) : (w.alloc o).heap[w.heap.size]? = some o := by
  show (w.heap.push o)[w.heap.size]? = some o
  simp
theorem cell?_alloc_same (w : World) (vs : Array Value) (e : TypeId) (fr : Nat × Nat) (o : Nat) : (w.alloc (.cells vs e fr)).cell? (at_ w.heap.size o) = vs[o]? := by
  rw [cell?_at (heap_alloc_same w _)]
theorem heap_alloc_lt (w : World) (o : Obj) {b : Nat} (h : b < w.heap.size) : (w.alloc o).heap[b]? = w.heap[b]? := by
  show (w.heap.push o)[b]? = w.heap[b]?
  rw [Array.getElem?_push_lt h]; simp [h]
theorem Inv.ι_lt {Δ : WT} {h : H} {w : World} (inv : Inv Δ h w) {b o : Nat} {v : Value} (e : Δ.ι b o = some v) : b < w.heap.size := World.block_lt_of_cell? w (at_ b o) (inv.ι b o v e)
theorem Inv.σ_lt {Δ : WT} {h : H} {w : World} (inv : Inv Δ h w) {b S : Nat} (e : Δ.σ b = some S) : b < w.heap.size := by
  obtain ⟨arr, t, fr, hh, _⟩ := inv.σ b S e; exact (Array.getElem?_eq_some_iff.1 hh).1
theorem Inv.ι_fresh {Δ : WT} {h : H} {w : World} (inv : Inv Δ h w) {b : Nat} (hb : w.heap.size ≤ b) (o : Nat) : Δ.ι b o = none := by
  cases e : Δ.ι b o with
  | none => rfl
  | some v => have := inv.ι_lt e; omega
def FrOk (fr : Nat × Nat) (n : Nat) : Prop := ∀ o, o < n → (decide (fr.1 ≤ o) && decide (o < fr.2)) = false
theorem FrOk.zero (n : Nat) : FrOk (0, 0) n := fun o _ => by simp
theorem block_alloc (w : World) (vs : Array Value) (e : TypeId) {fr : Nat × Nat} (hfr : FrOk fr vs.size) : Block (w.alloc (.cells vs e fr)) w.heap.size vs.size :=
  ⟨vs, e, fr, heap_alloc_same w _, rfl, fun o ho => by unfold World.frozen?; rw [show (at_ w.heap.size o).block = w.heap.size from rfl, heap_alloc_same]; exact hfr o ho⟩

/-- The typing with a new block, the first p cells of it never to be written. -/
def WT.grow (Δ : WT) (b p : Nat) (vs : Array Value) : WT :=
  { Δ with ι := fun b' o => if b' = b then (if o < p then vs[o]? else none) else Δ.ι b' o, σ := fun b' => if b' = b then some vs.size else Δ.σ b' }
def WT.put (Δ : WT) (id ver b p : Nat) : WT :=
  { Δ with μ := fun i => if i = id then some (b, p) else Δ.μ i, ν := fun i => if i = id then ver else Δ.ν i }
theorem grow_ι {Δ : WT} {h : H} {w : World} (inv : Inv Δ h w) (p : Nat) (vs : Array Value) : SubI Δ.ι (Δ.grow w.heap.size p vs).ι := by
  intro b o v e
  have := inv.ι_lt e
  simp only [WT.grow]; rw [if_neg (by omega)]; exact e
theorem grow_ext {Δ : WT} {h : H} {w : World} (inv : Inv Δ h w) (p : Nat) (vs : Array Value) : Ext Δ (Δ.grow w.heap.size p vs) :=
  ⟨grow_ι inv p vs, fun b S e => by have := inv.σ_lt e; simp only [WT.grow]; rw [if_neg (by omega)]; exact e, Nat.le_refl _, fun _ _ => Nat.le_refl _, fun _ _ _ => rfl, rfl⟩
theorem grow_agree {Δ : WT} {h : H} {w : World} (inv : Inv Δ h w) (p : Nat) (vs : Array Value) (t : TypeId) (fr : Nat × Nat) (b o : Nat) (v : Value) (e : (Δ.grow w.heap.size p vs).ι b o = some v) :
    (w.alloc (.cells vs t fr)).cell? (at_ b o) = some v := by
  simp only [WT.grow] at e
  split at e
  · rename_i hb; subst hb
    split at e
    · rw [cell?_alloc_same]; exact e
    · simp at e
  · have := inv.ι_lt e
    rw [cell?_eq (heap_alloc_lt w _ this)]; exact inv.ι b o v e
theorem grow_σ {Δ : WT} {h : H} {w : World} (inv : Inv Δ h w) (p : Nat) (vs : Array Value) (t : TypeId) (fr : Nat × Nat) (b S : Nat) (e : (Δ.grow w.heap.size p vs).σ b = some S) :
    ∃ arr t' fr', (w.alloc (.cells vs t fr)).heap[b]? = some (.cells arr t' fr') ∧ arr.size = S := by
  simp only [WT.grow] at e
  split at e
  · rename_i hb; subst hb
    exact ⟨vs, t, fr, heap_alloc_same w _, Option.some.inj e⟩
  · have := inv.σ_lt e
    rw [heap_alloc_lt w _ this]; exact inv.σ b S e

/-- (C) a block that nobody will write. -/
theorem alloc_only {Δ : WT} {h : H} {w : World} (inv : Inv Δ h w) (vs : Array Value) (t : TypeId) :
    Inv (Δ.grow w.heap.size vs.size vs) h (w.alloc (.cells vs t)) ∧ Step Δ h w (Δ.grow w.heap.size vs.size vs) h (w.alloc (.cells vs t)) := by
  have ext := grow_ext inv vs.size vs
  constructor
  · refine ⟨grow_agree inv _ vs t (0, 0), grow_σ inv _ vs t (0, 0), inv.N, fun id o ho => ?_, inv.dis⟩
    refine (inv.ob id o ho).keep ext rfl rfl (fun b p hl hm => ?_)
    have := (inv.ob id o ho).lt hl hm
    exact ⟨heap_alloc_lt w _ this, fun j => by simp only [WT.grow]; rw [if_neg (by omega)]⟩
  · refine ⟨ext, rfl, rfl, rfl, by simp, fun b hb _ => heap_alloc_lt w _ hb, fun b _ hb => hb, fun b o hb _ => ?_, fun l r hl => ⟨r, ?_⟩⟩
    · simp only [WT.grow]; rw [if_neg (by omega)]
    · rw [heap_alloc_lt w _ (Array.getElem?_eq_some_iff.1 hl).1]; exact hl

theorem put_ext {Δ : WT} {id ver b p : Nat} (hv : Δ.ν id < ver) : Ext Δ (Δ.put id ver b p) := by
  refine ⟨fun _ _ _ h => h, fun _ _ h => h, Nat.le_refl _, fun i _ => ?_, fun i _ e => ?_, rfl⟩
  · simp only [WT.put]; split
    · rename_i h; subst h; omega
    · exact Nat.le_refl _
  · simp only [WT.put] at e ⊢
    by_cases k : i = id
    · subst k; simp at e; omega
    · rw [if_neg k]
theorem place_put {Δ : WT} {id ver b p : Nat} (h : id < Δ.N) : Place (Δ.put id ver b p) id ver b p := by
  refine ⟨h, ?_, fun _ => ?_⟩ <;> simp [WT.put]

/-- An object moves to a new block. -/
theorem alloc_obj {Δ : WT} {h : H} {w : World} (inv : Inv Δ h w) {id : Nat} (hid : id < h.length) (vs : Array Value) (t : TypeId) (fr : Nat × Nat) (p : Nat) (o' : Ob) (ver pos : Nat) (hv : Δ.ν id < ver)
    (hok : ObOk ((Δ.grow w.heap.size p vs).put id ver w.heap.size pos) (w.alloc (.cells vs t fr)) id o') :
    Inv ((Δ.grow w.heap.size p vs).put id ver w.heap.size pos) (h.set id o') (w.alloc (.cells vs t fr)) ∧ Step Δ h w ((Δ.grow w.heap.size p vs).put id ver w.heap.size pos) (h.set id o') (w.alloc (.cells vs t fr)) := by
  refine Upd.inv (T := fun _ => False) ⟨hid, (grow_ext inv p vs).trans (put_ext hv), rfl, fun i hi => by simp [WT.put, WT.grow, hi], fun i hi => by simp [WT.put, WT.grow, hi], fun b h => h.elim, rfl, rfl, rfl, by simp,
    fun b hb _ => heap_alloc_lt w _ hb, fun b o hb _ => ?_, grow_agree inv p vs t fr, grow_σ inv p vs t fr, hok, fun _ b q hm => ?_, fun l r h => h.elim⟩ inv
  · simp only [WT.put, WT.grow]; rw [if_neg (by omega)]
  · simp [WT.put] at hm; omega

/-- (A) a variable. -/
theorem alloc_cells {Δ : WT} {h : H} {w : World} (inv : Inv Δ h w) {id : Nat} (hid : h[id]? = some .pad) (cs : List V) (vs : Array Value) (t : TypeId) (hr : RepL Δ cs vs.toList) :
    ∃ Δ', Inv Δ' (h.set id (.cells t cs)) (w.alloc (.cells vs t)) ∧ Step Δ h w Δ' (h.set id (.cells t cs)) (w.alloc (.cells vs t)) ∧ Rep Δ' (.ref id 0) (.pointer (some (at_ w.heap.size 0))) := by
  have hlt : id < h.length := (List.getElem?_eq_some_iff.1 hid).1
  have hν : Δ.ν id = 0 := inv.ob id _ hid
  have ext := (grow_ext inv 0 vs).trans (put_ext (Δ := Δ.grow w.heap.size 0 vs) (id := id) (ver := 1) (b := w.heap.size) (p := 0) (by show Δ.ν id < 1; omega))
  have hl : vs.size = cs.length := by have := hr.1; simpa using this.symm
  have hok : ObOk ((Δ.grow w.heap.size 0 vs).put id 1 w.heap.size 0) (w.alloc (.cells vs t)) id (.cells t cs) := by
    refine ⟨by simp [WT.put], w.heap.size, by simp [WT.put], ⟨hl ▸ block_alloc w vs t (FrOk.zero _), vs, (0, 0), heap_alloc_same w _⟩, ?_, fun o => by simp [WT.put, WT.grow]⟩
    intro o x hx
    have ho : o < cs.length := (List.getElem?_eq_some_iff.1 hx).1
    exact ⟨vs[o], by rw [cell?_alloc_same]; simp [hl, ho], (hr.2 o x _ hx (by simp [hl, ho])).ext ext⟩
  obtain ⟨i1, i2⟩ := alloc_obj inv hlt vs t (0, 0) 0 (.cells t cs) 1 0 (by omega) hok
  refine ⟨_, i1, i2, .ref id 0 _ (place_put ?_)⟩
  show id < Δ.N
  rw [inv.N]; exact hlt

/-- Rows of a block. -/
def RowsIn (ι : Nat → Nat → Option Value) (sz : Nat) (xs : List (List V)) (vs : Array Value) : Prop :=
  (∀ x ∈ xs, x.length = sz) ∧ ∀ i k x y, xs[i]? = some x → x[k]? = some y → ∃ v, vs[i * sz + k]? = some v ∧ RD ι y v
theorem row_lt {sz : Nat} {xs : List (List V)} (h : ∀ x ∈ xs, x.length = sz) {i k : Nat} {x : List V} {y : V} (hx : xs[i]? = some x) (hy : x[k]? = some y) : i < xs.length ∧ k < sz ∧ i * sz + k < xs.length * sz := by
  have h1 : i < xs.length := (List.getElem?_eq_some_iff.1 hx).1
  have h2 : x.length = sz := h x (List.mem_of_getElem? hx)
  have h3 : k < sz := by rw [← h2]; exact (List.getElem?_eq_some_iff.1 hy).1
  refine ⟨h1, h3, ?_⟩
  have : (i + 1) * sz ≤ xs.length * sz := Nat.mul_le_mul_right _ h1
  rw [Nat.add_mul] at this; omega
theorem rows_grow {Δ : WT} {h : H} {w : World} (inv : Inv Δ h w) {sz : Nat} {xs : List (List V)} {vs : Array Value} {p : Nat} (hr : RowsIn Δ.ι sz xs vs) (hp : xs.length * sz ≤ p) : Rows (Δ.grow w.heap.size p vs).ι sz xs w.heap.size 0 := by
  refine ⟨hr.1, fun i k x y hx hy => ?_⟩
  obtain ⟨v, hv, hd⟩ := hr.2 i k x y hx hy
  obtain ⟨_, _, hlt⟩ := row_lt hr.1 hx hy
  refine ⟨v, ?_, hd.mono (grow_ι inv p vs)⟩
  simp only [WT.grow, Nat.zero_add, if_true]; rw [if_pos (by omega)]; exact hv

/-- (C) a slice's block that nobody will write. -/
theorem alloc_rows {Δ : WT} {h : H} {w : World} (inv : Inv Δ h w) (sz : Nat) (xs : List (List V)) (vs : Array Value) (t : TypeId) (hr : RowsIn Δ.ι sz xs vs) (hs : vs.size = xs.length * sz) :
    ∃ Δ', Inv Δ' h (w.alloc (.cells vs t)) ∧ Step Δ h w Δ' h (w.alloc (.cells vs t)) ∧ Rep Δ' (.list sz xs .full) (.slice (some (at_ w.heap.size 0)) xs.length xs.length) := by
  obtain ⟨i1, i2⟩ := alloc_only inv vs t
  exact ⟨_, i1, i2, .list sz xs .full _ (RD.list' (rows_grow inv hr (by omega)) (fun _ => rfl) (Nat.le_refl _)) ⟨_, rfl⟩⟩

/-- (D) the same, with room behind it. -/
theorem alloc_tail {Δ : WT} {h : H} {w : World} (inv : Inv Δ h w) {id : Nat} (hid : id < h.length) (sz : Nat) (xs : List (List V)) (cap : Nat) (vs : Array Value) (t : TypeId) {fr : Nat × Nat} (hfr : FrOk fr vs.size) (hr : RowsIn Δ.ι sz xs vs)
    (hs : vs.size = cap * sz) (hc : xs.length ≤ cap) (hv : Δ.ν id < xs.length + 1) :
    ∃ Δ', Inv Δ' (h.set id (.tail t xs.length)) (w.alloc (.cells vs t fr)) ∧ Step Δ h w Δ' (h.set id (.tail t xs.length)) (w.alloc (.cells vs t fr)) ∧ Rep Δ' (.list sz xs (.tail id)) (.slice (some (at_ w.heap.size 0)) xs.length cap) := by
  have hN : id < Δ.N := by rw [inv.N]; exact hid
  obtain ⟨i1, i2⟩ := alloc_obj inv hid vs t fr (xs.length * sz) (.tail t xs.length) (xs.length + 1) (xs.length * sz) hv
    ⟨by simp [WT.put], w.heap.size, xs.length * sz, vs.size, by simp [WT.put], by simp [WT.put, WT.grow], ⟨block_alloc w vs t hfr, vs, fr, heap_alloc_same w _⟩, fun o ho => by simp only [WT.put, WT.grow, if_true]; rw [if_neg (by omega)]⟩
  refine ⟨_, i1, i2, .list sz xs (.tail id) _ (RD.list' (rows_grow inv hr (Nat.le_refl _)) (fun _ => rfl) hc) ⟨w.heap.size, 0, cap, vs.size, rfl, ?_, by simp [WT.put, WT.grow], by omega⟩⟩
  rw [Nat.zero_add]; exact place_put hN

/-- (B) a slice's block that is its owner's. -/
theorem alloc_arr {Δ : WT} {h : H} {w : World} (inv : Inv Δ h w) {id : Nat} (hid : id < h.length) (ver wm sz : Nat) (xs : List (List V)) (cap : Nat) (vs : Array Value) (t : TypeId) {fr : Nat × Nat} (hfr : FrOk fr vs.size) (hr : RowsIn Δ.ι sz xs vs)
    (hs : vs.size = cap * sz) (hc : xs.length ≤ cap) (hv : Δ.ν id < ver + 1) :
    ∃ Δ', Inv Δ' (h.set id (.arr ver wm sz xs)) (w.alloc (.cells vs t fr)) ∧ Step Δ h w Δ' (h.set id (.arr ver wm sz xs)) (w.alloc (.cells vs t fr)) ∧ Rep Δ' (.sl id ver sz 0 xs.length) (.slice (some (at_ w.heap.size 0)) xs.length cap) := by
  have hN : id < Δ.N := by rw [inv.N]; exact hid
  have hle : xs.length * sz ≤ vs.size := by rw [hs]; exact Nat.mul_le_mul_right _ hc
  obtain ⟨i1, i2⟩ := alloc_obj inv hid vs t fr 0 (.arr ver wm sz xs) (ver + 1) 0 hv
    ⟨by simp [WT.put], w.heap.size, vs.size, by simp [WT.put], by simp [WT.put, WT.grow], block_alloc w vs t hfr, hle, hr.1, fun i k x y hx hy => by
      obtain ⟨v, h1, h2⟩ := hr.2 i k x y hx hy
      exact ⟨v, by rw [cell?_alloc_same]; exact h1, h2.mono (grow_ι inv 0 vs)⟩, fun o _ => by simp [WT.put, WT.grow]⟩
  have hrep := Rep.sl (Δ := (Δ.grow w.heap.size 0 vs).put id (ver + 1) w.heap.size 0) id ver sz 0 xs.length w.heap.size cap vs.size (place_put hN) (by simp [WT.put, WT.grow]) (by rw [Nat.zero_add]; omega) hc
  rw [Nat.zero_mul] at hrep
  exact ⟨_, i1, i2, hrep⟩
end Go.Pv
/-
  What is written in place.
-/
set_option linter.unusedSimpArgs false
set_option linter.unusedVariables false
namespace Go.Pv
open Go

theorem Rep.toD {Δ : WT} {x : V} {v : Value} (hd : isD x = true) (h : Rep Δ x v) : RD Δ.ι x v := by
  cases h with
  | sc v => exact .sc v hd
  | list sz xs tk v h ht =>
    cases tk with
    | no => exact h
    | full => simp [isD] at hd
    | tail id => simp [isD] at hd
  | _ => simp [isD] at hd
theorem RD.toRep {Δ : WT} {x : V} {v : Value} (h : RD Δ.ι x v) : Rep Δ x v := by
  cases h with
  | sc v h => exact .sc v
  | list sz xs a cap b o val h1 h2 h3 h4 h5 => exact .list _ _ _ _ (.list sz xs a cap b o val h1 h2 h3 h4 h5) trivial
theorem isCell_one {Δ : WT} {x : V} {v : Value} (hc : isCell x = true) (h : Rep Δ x v) : v.oneCell' = true := by
  cases h with
  | sc v => exact hc
  | list sz xs tk v h ht => obtain ⟨a, cap, b, o, rfl, _⟩ := h.list_inv; rfl
  | unk v => simp [isCell] at hc
  | agg cs vs hn h => simp [isCell] at hc
  | tup cs vs hn h => simp [isCell] at hc
  | _ => rfl
theorem isD_cell {x : V} (h : isD x = true) : isCell x = true := by
  cases x with
  | sc v => exact h
  | list sz xs tk => rfl
  | _ => simp [isD] at h
theorem RepL.one {Δ : WT} {xs : List V} {vs : List Value} (h : RepL Δ xs vs) (hc : xs.all isCell = true) : ∀ v ∈ vs, v.oneCell' = true := by
  intro v hv
  obtain ⟨i, hi⟩ := List.mem_iff_getElem?.1 hv
  have hlt : i < xs.length := by rw [h.1]; exact (List.getElem?_eq_some_iff.1 hi).1
  exact isCell_one (List.all_eq_true.1 hc _ (List.getElem_mem hlt)) (h.2 i xs[i] v (by simp [hlt]) hi)

theorem takeAt_some {x : List V} {k n : Nat} {r : List V} (h : takeAt x k n = some r) : r.length = n ∧ ∀ j y, r[j]? = some y → x[k + j]? = some y := by
  simp only [takeAt] at h
  split at h
  · rename_i hl
    obtain rfl := Option.some.inj h
    refine ⟨hl, fun j y hy => ?_⟩
    rw [List.getElem?_take] at hy
    split at hy
    · rw [List.getElem?_drop] at hy; exact hy
    · simp at hy
  · simp at h
theorem putAt_some {x : List V} {k : Nat} {cs r : List V} (h : putAt x k cs = some r) : k + cs.length ≤ x.length ∧ r.length = x.length ∧
    ∀ j, r[j]? = if k ≤ j ∧ j < k + cs.length then cs[j - k]? else x[j]? := by
  simp only [putAt] at h
  split at h
  · rename_i hl
    obtain rfl := Option.some.inj h
    refine ⟨hl, by simp; omega, fun j => ?_⟩
    have h1 : (x.take k).length = k := by simp; omega
    by_cases c1 : j < k
    · rw [if_neg (by omega), List.append_assoc, List.getElem?_append_left (by omega), List.getElem?_take, if_pos c1]
    · by_cases c2 : j < k + cs.length
      · rw [if_pos ⟨by omega, c2⟩, List.append_assoc, List.getElem?_append_right (by omega), h1, List.getElem?_append_left (by omega)]
      · rw [if_neg (by omega), List.getElem?_append_right (by simp; omega), List.getElem?_drop]
        congr 1
        simp; omega
  · simp at h

theorem Place.μ {Δ : WT} {id ver b p : Nat} (h : Place Δ id ver b p) (hv : Δ.ν id = ver) : Δ.μ id = some (b, p) := h.2.2 hv.symm

theorem agree_setCells {Δ : WT} {h : H} {w : World} (inv : Inv Δ h w) {b o : Nat} {vs : List Value} (S : Nat) (hB : Block w b S) (hl : o + vs.length ≤ S) (hn : ∀ j, o ≤ j → Δ.ι b j = none) (c j : Nat) (v : Value)
    (e : Δ.ι c j = some v) : (setCells w b o vs).cell? (at_ c j) = some v := by
  have h0 := inv.ι c j v e
  by_cases hc : c = b
  · subst hc
    rw [setCells_cell w c o S vs hB hl]
    rw [if_neg]
    · exact h0
    · intro hk; rw [hn j hk.1] at e; simp at e
  · rw [cell?_eq (setCells_other w b o c vs hc)]; exact h0
theorem σ_setCells {Δ : WT} {h : H} {w : World} (inv : Inv Δ h w) {b o : Nat} {vs : List Value} {S0 : Nat} (hB : Block w b S0) (c S : Nat) (e : Δ.σ c = some S) :
    ∃ arr t fr, (setCells w b o vs).heap[c]? = some (.cells arr t fr) ∧ arr.size = S := by
  by_cases hc : c = b
  · subst hc
    obtain ⟨arr, t, fr, h1, h2⟩ := inv.σ c S e
    obtain ⟨arr', t', fr', h3, h4, _⟩ := hB
    rw [h1] at h3; cases h3
    obtain ⟨arr2, t2, fr2, h5, h6, _⟩ := setCells_block w c o S vs ⟨arr, t, fr, h1, h2, by
      intro j hj
      have := (show Block w c S from ⟨arr, t, fr, h1, h2, by rename_i hf; intro j hj; exact hf j (by omega)⟩)
      obtain ⟨_, _, _, _, _, hf⟩ := this
      exact hf j hj⟩
    exact ⟨arr2, t2, fr2, h5, h6⟩
  · rw [setCells_other w b o c vs hc]; exact inv.σ c S e

/-- (E) a variable is written. -/
theorem set_cells {Δ : WT} {h : H} {w : World} (inv : Inv Δ h w) {id b off : Nat} {bt : TypeId} {c c' cs : List V} {vs : List Value} (hid : h[id]? = some (.cells bt c)) (hp : Place Δ id 1 b 0) (hc : putAt c off cs = some c') (hr : RepL Δ cs vs) :
    Block w b c.length ∧ off + vs.length ≤ c.length ∧ Inv Δ (h.set id (.cells bt c')) (setCells w b off vs) ∧ Step Δ h w Δ (h.set id (.cells bt c')) (setCells w b off vs) := by
  obtain ⟨hν, b', hμ, ⟨hB, hT⟩, hcell, hι⟩ := inv.ob id _ hid
  have hb := hp.μ hν
  rw [hμ] at hb; cases hb
  obtain ⟨hle, hlen, hget⟩ := putAt_some hc
  have hle' : off + vs.length ≤ c.length := by rw [← hr.1]; exact hle
  obtain ⟨o1, o2, o3⟩ := setCells_os w b off vs
  refine ⟨hB, hle', Upd.inv (T := fun x => x = b) ⟨(List.getElem?_eq_some_iff.1 hid).1, .refl _, rfl, fun _ _ => rfl, fun _ _ => rfl, fun x hx => ⟨_, 0, hid, rfl, by rw [hx]; exact hμ⟩, o1, o2, o3, by rw [setCells_size]; exact Nat.le_refl _,
    fun x _ hx => setCells_other w b off x vs hx, fun _ _ _ _ => rfl, fun x j v e => agree_setCells inv c.length hB hle' (fun j _ => hι j) x j v e, fun x S e => σ_setCells inv hB x S e,
    ⟨hν, b, hμ, ⟨by rw [hlen]; exact setCells_block w b off _ vs hB, setCells_type w b off vs hT⟩, fun j x hx => ?_, hι⟩, fun _ x p hx => ?_, fun l r hl hk => ?_⟩ inv⟩
  · rw [setCells_cell w b off _ vs hB hle']
    rw [hget j] at hx
    by_cases hk : off ≤ j ∧ j < off + cs.length
    · rw [if_pos hk] at hx
      rw [if_pos (by rw [← hr.1]; exact hk)]
      have hlt : j - off < vs.length := by rw [← hr.1]; omega
      exact ⟨vs[j - off], by simp [hlt], hr.2 _ x _ hx (by simp [hlt])⟩
    · rw [if_neg hk] at hx
      rw [if_neg (by rw [← hr.1]; exact hk)]
      exact hcell j x hx
  · rw [hμ] at hx; cases hx; exact .inr rfl
  · obtain ⟨arr, t, fr, h1, _⟩ := hB
    subst hl; rw [h1] at hk; cases hk

theorem RowsIn.get {ι : Nat → Nat → Option Value} {sz : Nat} {ys : List (List V)} {vs : Array Value} (h : RowsIn ι sz ys vs) {i k : Nat} {x : List V} {y : V} (hx : ys[i]? = some x) (hy : x[k]? = some y) :
    ∃ v, vs.toList[i * sz + k]? = some v ∧ RD ι y v := by
  obtain ⟨v, hv, hr⟩ := h.2 i k x y hx hy
  exact ⟨v, by simpa using hv, hr⟩

/-- (F) an element of an owned slice is written. -/
theorem set_arr {Δ : WT} {h : H} {w : World} (inv : Inv Δ h w) {id b ver wm sz i k : Nat} {xs : List (List V)} {x x' cs : List V} {vs : List Value} (hid : h[id]? = some (.arr ver wm sz xs)) (hp : Place Δ id (ver + 1) b 0)
    (hx : xs[i]? = some x) (hw : wm ≤ i) (hc : putAt x k cs = some x') (hr : RepL Δ cs vs) (hd : cs.all isD = true) :
    ∃ S, Block w b S ∧ (i * sz + k) + vs.length ≤ S ∧ Inv Δ (h.set id (.arr ver wm sz (xs.set i x'))) (setCells w b (i * sz + k) vs) ∧ Step Δ h w Δ (h.set id (.arr ver wm sz (xs.set i x'))) (setCells w b (i * sz + k) vs) := by
  obtain ⟨hν, b', S, hμ, hσ, hB, hS, hrow, hcell, hι⟩ := inv.ob id _ hid
  have hb := hp.μ hν
  rw [hμ] at hb; cases hb
  obtain ⟨hle, hlen, hget⟩ := putAt_some hc
  have hxl : x.length = sz := hrow x (List.mem_of_getElem? hx)
  have hi : i < xs.length := (List.getElem?_eq_some_iff.1 hx).1
  have hmul : (i + 1) * sz ≤ xs.length * sz := Nat.mul_le_mul_right _ hi
  rw [Nat.add_mul] at hmul
  have hvl : vs.length = cs.length := hr.1.symm
  have hle' : i * sz + k + vs.length ≤ S := by omega
  obtain ⟨o1, o2, o3⟩ := setCells_os w b (i * sz + k) vs
  have hιi : ∀ j, i * sz + k ≤ j → Δ.ι b j = none := fun j hj => hι j (by have := Nat.mul_le_mul_right sz hw; omega)
  refine ⟨S, hB, hle', Upd.inv (T := fun x => x = b) ⟨(List.getElem?_eq_some_iff.1 hid).1, .refl _, rfl, fun _ _ => rfl, fun _ _ => rfl, fun x hx => ⟨_, 0, hid, rfl, by rw [hx]; exact hμ⟩, o1, o2, o3, by rw [setCells_size]; exact Nat.le_refl _,
    fun x _ hx => setCells_other w b _ x vs hx, fun _ _ _ _ => rfl, fun x j v e => agree_setCells inv S hB hle' hιi x j v e, fun x S e => σ_setCells inv hB x S e,
    ⟨hν, b, S, hμ, hσ, setCells_block w b _ _ vs hB, by simpa using hS, ?_, ?_, hι⟩, fun _ x p hx => ?_, fun l r hl hk => ?_⟩ inv⟩
  · intro z hz
    rcases List.mem_or_eq_of_mem_set hz with hz | rfl
    · exact hrow z hz
    · rw [hlen]; exact hxl
  · intro i' k' z y hz hy
    rw [setCells_cell w b _ _ vs hB hle']
    rw [List.getElem?_set] at hz
    by_cases e : i = i'
    · subst e
      rw [if_pos rfl, if_pos hi] at hz
      obtain rfl := Option.some.inj hz
      rw [hget k'] at hy
      by_cases hk : k ≤ k' ∧ k' < k + cs.length
      · rw [if_pos hk] at hy
        rw [if_pos (by omega)]
        have hlt : k' - k < vs.length := by omega
        refine ⟨vs[k' - k], ?_, ?_⟩
        · rw [show i * sz + k' - (i * sz + k) = k' - k from by omega]; simp [hlt]
        · have hm : y ∈ cs := List.mem_of_getElem? hy
          exact (hr.2 _ y _ hy (by simp [hlt])).toD (List.all_eq_true.1 hd _ hm)
      · rw [if_neg hk] at hy
        have hk' : k' < x.length := (List.getElem?_eq_some_iff.1 hy).1
        rw [if_neg (by omega)]
        exact hcell i k' x y hx hy
    · rw [if_neg e] at hz
      obtain ⟨g1, g2, g3⟩ := row_lt hrow hz hy
      have hne : ¬ (i * sz + k ≤ i' * sz + k' ∧ i' * sz + k' < i * sz + k + vs.length) := by
        intro hk
        rcases Nat.lt_or_gt_of_ne e with c | c
        · have := Nat.mul_le_mul_right sz (show i + 1 ≤ i' from c); rw [Nat.add_mul] at this; omega
        · have := Nat.mul_le_mul_right sz (show i' + 1 ≤ i from c); rw [Nat.add_mul] at this; omega
      rw [if_neg hne]
      exact hcell i' k' z y hz hy
  · rw [hμ] at hx; cases hx; exact .inr rfl
  · obtain ⟨arr, t, fr, h1, _⟩ := hB
    subst hl; rw [h1] at hk; cases hk
end Go.Pv
/-
  Slices that grow in place; slices that are handed on.
-/
set_option linter.unusedSimpArgs false
set_option linter.unusedVariables false
namespace Go.Pv
open Go

/-- The typing with cells of a block never to be written again. -/
def WT.freeze (Δ : WT) (b : Nat) (f : Nat → Option Value) : WT :=
  { Δ with ι := fun b' o => if b' = b then (match Δ.ι b o with | some v => some v | none => f o) else Δ.ι b' o }
theorem freeze_sub (Δ : WT) (b : Nat) (f : Nat → Option Value) : SubI Δ.ι (Δ.freeze b f).ι := by
  intro b' o v e
  simp only [WT.freeze]
  split
  · rename_i h; subst h; rw [e]
  · exact e
theorem freeze_ext (Δ : WT) (b : Nat) (f : Nat → Option Value) : Ext Δ (Δ.freeze b f) :=
  ⟨freeze_sub Δ b f, fun _ _ e => e, Nat.le_refl _, fun _ _ => Nat.le_refl _, fun _ _ _ => rfl, rfl⟩
theorem freeze_other (Δ : WT) (b c o : Nat) (f : Nat → Option Value) (h : c ≠ b) : (Δ.freeze b f).ι c o = Δ.ι c o := by simp only [WT.freeze]; rw [if_neg h]
theorem freeze_none (Δ : WT) (b o : Nat) (f : Nat → Option Value) (h : Δ.ι b o = none) : (Δ.freeze b f).ι b o = f o := by simp only [WT.freeze, if_true, h]

theorem rows_append {ι : Nat → Nat → Option Value} {sz : Nat} {xs ys : List (List V)} {b o : Nat} (h : Rows ι sz xs b o) (k : Rows ι sz ys b (o + xs.length * sz)) : Rows ι sz (xs ++ ys) b o := by
  refine ⟨fun x hx => (List.mem_append.1 hx).elim (h.1 x) (k.1 x), fun i j x y hx hy => ?_⟩
  by_cases hi : i < xs.length
  · rw [List.getElem?_append_left hi] at hx; exact h.2 i j x y hx hy
  · rw [List.getElem?_append_right (by omega)] at hx
    obtain ⟨v, hv, hr⟩ := k.2 _ j x y hx hy
    refine ⟨v, ?_, hr⟩
    rw [show o + i * sz + j = o + xs.length * sz + (i - xs.length) * sz + j from by
      obtain ⟨d, rfl⟩ : ∃ d, i = xs.length + d := ⟨i - xs.length, by omega⟩
      rw [Nat.add_sub_cancel_left, Nat.add_mul]; omega]
    exact hv

/-- (G) a slice grows into the room behind it. -/
theorem grow_tail {Δ : WT} {h : H} {w : World} (inv : Inv Δ h w) {id b o sz cap S : Nat} {bt : TypeId} {xs ys : List (List V)} {vs : Array Value} (hid : h[id]? = some (.tail bt xs.length)) (hp : Place Δ id (xs.length + 1) b (o + xs.length * sz))
    (hx : xs ≠ [] → Rows Δ.ι sz xs b o) (hxr : ∀ x ∈ xs, x.length = sz) (hr : RowsIn Δ.ι sz ys vs) (hs : vs.size = ys.length * sz) (hc : xs.length + ys.length ≤ cap) (hσ : Δ.σ b = some S) (hS : o + cap * sz ≤ S) (hy : ys ≠ []) :
    ∃ Δ', Block w b S ∧ (o + xs.length * sz) + vs.toList.length ≤ S ∧ Inv Δ' (h.set id (.tail bt (xs.length + ys.length))) (setCells w b (o + xs.length * sz) vs.toList) ∧
      Step Δ h w Δ' (h.set id (.tail bt (xs.length + ys.length))) (setCells w b (o + xs.length * sz) vs.toList) ∧ Rep Δ' (.list sz (xs ++ ys) (.tail id)) (.slice (some (at_ b o)) (xs.length + ys.length) cap) := by
  obtain ⟨hν, b', p', S', hμ, hσ', ⟨hB, hT⟩, hι⟩ := inv.ob id _ hid
  have hb := hp.μ hν
  rw [hμ] at hb; cases hb
  rw [hσ] at hσ'; cases hσ'
  obtain ⟨q, hq⟩ : ∃ q, q = o + xs.length * sz := ⟨_, rfl⟩
  rw [← hq] at hμ hι ⊢
  have hmul : (xs.length + ys.length) * sz ≤ cap * sz := Nat.mul_le_mul_right _ hc
  rw [Nat.add_mul] at hmul
  have hle : q + vs.toList.length ≤ S := by simp; omega
  have hlt : id < Δ.N := hp.1
  have hys : 0 < ys.length := List.length_pos_iff.2 hy
  obtain ⟨o1, o2, o3⟩ := setCells_os w b q vs.toList
  let f : Nat → Option Value := fun j => if q ≤ j ∧ j < q + vs.toList.length then vs.toList[j - q]? else none
  have ext : Ext Δ ((Δ.freeze b f).put id (xs.length + ys.length + 1) b (o + (xs.length + ys.length) * sz)) :=
    (freeze_ext Δ b f).trans (put_ext (by show Δ.ν id < _; omega))
  have hcell := setCells_cell w b q S vs.toList hB hle
  have agree : ∀ c j v, (Δ.freeze b f).ι c j = some v → (setCells w b q vs.toList).cell? (at_ c j) = some v := by
    intro c j v e
    by_cases hcb : c = b
    · subst hcb
      cases e0 : Δ.ι c j with
      | some u =>
        have : (Δ.freeze c f).ι c j = some u := freeze_sub Δ c f c j u e0
        rw [this] at e; cases e
        exact agree_setCells inv S hB hle hι c j _ e0
      | none =>
        rw [freeze_none Δ c j f e0] at e
        simp only [f] at e
        split at e
        · rename_i hk; rw [hcell, if_pos hk]; exact e
        · simp at e
    · rw [freeze_other Δ b c j f hcb] at e
      exact agree_setCells inv S hB hle hι c j v e
  have i := Upd.inv (T := fun x => x = b) (h := h) (w := w) (Δ := Δ) (id := id) (o' := .tail bt (xs.length + ys.length)) (Δ' := (Δ.freeze b f).put id (xs.length + ys.length + 1) b (o + (xs.length + ys.length) * sz)) (w' := setCells w b q vs.toList)
    ⟨(List.getElem?_eq_some_iff.1 hid).1, ext, rfl, fun i hi => by simp [WT.put, WT.freeze, hi], fun i hi => by simp [WT.put, WT.freeze, hi], fun x hx => ⟨_, q, hid, rfl, by rw [hx]; exact hμ⟩, o1, o2, o3, by rw [setCells_size]; exact Nat.le_refl _,
      fun x _ hx => setCells_other w b _ x _ hx, fun x j _ hx => freeze_other Δ b x j f hx, agree, fun x S e => σ_setCells inv hB x S e,
      ⟨by simp [WT.put], b, o + (xs.length + ys.length) * sz, S, by simp [WT.put], hσ, ⟨setCells_block w b _ _ _ hB, setCells_type w b _ _ hT⟩, fun j hj => by
        have hj' : q ≤ j := by rw [Nat.add_mul] at hj; omega
        show (Δ.freeze b f).ι b j = none
        rw [freeze_none Δ b j f (hι j hj')]; simp only [f]; rw [if_neg]; rw [Nat.add_mul] at hj; simp; omega⟩,
      fun _ x p hx => by simp [WT.put] at hx; exact .inr hx.1.symm, fun l r hl hk => by obtain ⟨arr, t, fr, h1, _⟩ := hB; subst hl; rw [h1] at hk; cases hk⟩ inv
  refine ⟨_, hB, hle, i.1, i.2, ?_⟩
  have rx : Rows (Δ.freeze b f).ι sz xs b o := by
    by_cases hn : xs = []
    · subst hn; exact ⟨fun x hx => by simp at hx, fun i j x y hx => by simp at hx⟩
    · exact (hx hn).mono (freeze_sub Δ b f)
  have ry : Rows (Δ.freeze b f).ι sz ys b (o + xs.length * sz) := by
    refine ⟨hr.1, fun i k x y hx hy => ?_⟩
    obtain ⟨v, hv, hd⟩ := hr.get hx hy
    obtain ⟨g1, g2, g3⟩ := row_lt hr.1 hx hy
    refine ⟨v, ?_, hd.mono (freeze_sub Δ b f)⟩
    rw [← hq, freeze_none Δ b _ f (hι _ (by omega))]
    simp only [f]
    rw [if_pos (by simp; omega), show q + i * sz + k - q = i * sz + k from by omega]; exact hv
  have hrep := RD.list' (cap := cap) (rows_append rx ry) (fun _ => rfl) (by simpa using hc)
  rw [List.length_append] at hrep
  refine .list sz (xs ++ ys) (.tail id) _ hrep ⟨b, o, cap, S, by rw [List.length_append], ?_, hσ, hS⟩
  rw [List.length_append]
  exact place_put hlt

/-- (I) the first elements of an owned slice are not written any more. -/
theorem freeze_arr {Δ : WT} {h : H} {w : World} (inv : Inv Δ h w) {id b ver wm sz n : Nat} {xs : List (List V)} (hid : h[id]? = some (.arr ver wm sz xs)) (hp : Place Δ id (ver + 1) b 0) (hn : n ≤ xs.length) :
    ∃ Δ', Inv Δ' (h.set id (.arr ver (max wm n) sz xs)) w ∧ Step Δ h w Δ' (h.set id (.arr ver (max wm n) sz xs)) w ∧
      ∀ i k x y, i < n → xs[i]? = some x → x[k]? = some y → ∃ v, Δ'.ι b (i * sz + k) = some v ∧ RD Δ'.ι y v := by
  obtain ⟨hν, b', S, hμ, hσ, hB, hS, hrow, hcell, hι⟩ := inv.ob id _ hid
  have hb := hp.μ hν
  rw [hμ] at hb; cases hb
  let f : Nat → Option Value := fun j => if j < n * sz then w.cell? (at_ b j) else none
  have agree : ∀ c j v, (Δ.freeze b f).ι c j = some v → w.cell? (at_ c j) = some v := by
    intro c j v e
    by_cases hcb : c = b
    · subst hcb
      cases e0 : Δ.ι c j with
      | some u =>
        have : (Δ.freeze c f).ι c j = some u := freeze_sub Δ c f c j u e0
        rw [this] at e; cases e
        exact inv.ι c j _ e0
      | none =>
        rw [freeze_none Δ c j f e0] at e
        simp only [f] at e
        split at e
        · exact e
        · simp at e
    · rw [freeze_other Δ b c j f hcb] at e; exact inv.ι c j v e
  have i := Upd.inv (T := fun x => x = b) (h := h) (w := w) (Δ := Δ) (id := id) (o' := .arr ver (max wm n) sz xs) (Δ' := Δ.freeze b f) (w' := w)
    ⟨(List.getElem?_eq_some_iff.1 hid).1, freeze_ext Δ b f, rfl, fun _ _ => rfl, fun _ _ => rfl, fun x hx => ⟨_, 0, hid, rfl, by rw [hx]; exact hμ⟩, rfl, rfl, rfl, Nat.le_refl _, fun _ _ _ => rfl, fun x j _ hx => freeze_other Δ b x j f hx, agree, inv.σ,
      ⟨hν, b, S, hμ, hσ, hB, hS, hrow, fun i k x y hx hy => let ⟨v, hv, hr⟩ := hcell i k x y hx hy; ⟨v, hv, hr.mono (freeze_sub Δ b f)⟩, fun j hj => by
        have h1 : wm * sz ≤ max wm n * sz := Nat.mul_le_mul_right _ (Nat.le_max_left _ _)
        have h2 : n * sz ≤ max wm n * sz := Nat.mul_le_mul_right _ (Nat.le_max_right _ _)
        rw [freeze_none Δ b j f (hι j (by omega))]; simp only [f]; rw [if_neg (by omega)]⟩,
      fun _ x p hx => .inr (by have : Δ.μ id = some (x, p) := hx; rw [hμ] at this; cases this; rfl), fun l r hl hk => ⟨r, hk⟩⟩ inv
  refine ⟨_, i.1, i.2, fun i k x y hin hx hy => ?_⟩
  obtain ⟨v, hv, hr⟩ := hcell i k x y hx hy
  obtain ⟨g1, g2, g3⟩ := row_lt hrow hx hy
  refine ⟨v, ?_, hr.mono (freeze_sub Δ b f)⟩
  cases e0 : Δ.ι b (i * sz + k) with
  | some u =>
    have h2 := inv.ι b _ u e0
    rw [hv] at h2; cases h2
    exact freeze_sub Δ b f b _ v e0
  | none =>
    rw [freeze_none Δ b _ f e0]; simp only [f]
    have : (i + 1) * sz ≤ n * sz := Nat.mul_le_mul_right _ hin
    rw [Nat.add_mul] at this
    rw [if_pos (by omega)]; exact hv

/-- (J) an owned slice grows in place, or is cut and grows. -/
theorem grow_arr {Δ : WT} {h : H} {w : World} (inv : Inv Δ h w) {id b ver wm sz cap S len : Nat} {xs ys : List (List V)} {vs : Array Value} (hid : h[id]? = some (.arr ver wm sz xs)) (hp : Place Δ id (ver + 1) b 0)
    (hl : len ≤ xs.length) (hw : wm ≤ len) (hr : RowsIn Δ.ι sz ys vs) (hs : vs.size = ys.length * sz) (hc : len + ys.length ≤ cap) (hσ : Δ.σ b = some S) (hS : cap * sz ≤ S) :
    ∃ Δ', Block w b S ∧ (len * sz) + vs.toList.length ≤ S ∧ Inv Δ' (h.set id (.arr (ver + 1) wm sz (xs.take len ++ ys))) (setCells w b (len * sz) vs.toList) ∧
      Step Δ h w Δ' (h.set id (.arr (ver + 1) wm sz (xs.take len ++ ys))) (setCells w b (len * sz) vs.toList) ∧ Rep Δ' (.sl id (ver + 1) sz 0 (len + ys.length)) (.slice (some (at_ b 0)) (len + ys.length) cap) := by
  obtain ⟨hν, b', S', hμ, hσ', hB, hS', hrow, hcell, hι⟩ := inv.ob id _ hid
  have hb := hp.μ hν
  rw [hμ] at hb; cases hb
  rw [hσ] at hσ'; cases hσ'
  have hmul : (len + ys.length) * sz ≤ cap * sz := Nat.mul_le_mul_right _ hc
  rw [Nat.add_mul] at hmul
  have hle : len * sz + vs.toList.length ≤ S := by simp; omega
  have hlt : id < Δ.N := hp.1
  have hwm : wm * sz ≤ len * sz := Nat.mul_le_mul_right _ hw
  obtain ⟨o1, o2, o3⟩ := setCells_os w b (len * sz) vs.toList
  have ext : Ext Δ (Δ.put id (ver + 1 + 1) b 0) := put_ext (by omega)
  have hcell' := setCells_cell w b (len * sz) S vs.toList hB hle
  have htl : (xs.take len).length = len := by simp; omega
  have i := Upd.inv (T := fun x => x = b) (h := h) (w := w) (Δ := Δ) (id := id) (o' := .arr (ver + 1) wm sz (xs.take len ++ ys)) (Δ' := Δ.put id (ver + 1 + 1) b 0) (w' := setCells w b (len * sz) vs.toList)
    ⟨(List.getElem?_eq_some_iff.1 hid).1, ext, rfl, fun i hi => by simp [WT.put, hi], fun i hi => by simp [WT.put, hi], fun x hx => ⟨_, 0, hid, rfl, by rw [hx]; exact hμ⟩, o1, o2, o3, by rw [setCells_size]; exact Nat.le_refl _,
      fun x _ hx => setCells_other w b _ x _ hx, fun _ _ _ _ => rfl, fun c j v e => agree_setCells inv S hB hle (fun j hj => hι j (by omega)) c j v e, fun x S e => σ_setCells inv hB x S e,
      ⟨by simp [WT.put], b, S, by simp [WT.put], hσ, setCells_block w b _ _ _ hB, by rw [List.length_append, htl, Nat.add_mul]; omega, fun x hx => (List.mem_append.1 hx).elim (fun h => hrow x (List.mem_of_mem_take h)) (hr.1 x), fun i k x y hx hy => by
        rw [hcell']
        by_cases hi : i < len
        · rw [List.getElem?_append_left (by omega), List.getElem?_take, if_pos hi] at hx
          obtain ⟨g1, g2, g3⟩ := row_lt hrow hx hy
          have : (i + 1) * sz ≤ len * sz := Nat.mul_le_mul_right _ hi
          rw [Nat.add_mul] at this
          rw [if_neg (by omega)]
          exact hcell i k x y hx hy
        · rw [List.getElem?_append_right (by omega), htl] at hx
          obtain ⟨v, hv, hd⟩ := hr.get hx hy
          obtain ⟨g1, g2, g3⟩ := row_lt hr.1 hx hy
          have e : i * sz + k = len * sz + ((i - len) * sz + k) := by
            obtain ⟨d, rfl⟩ : ∃ d, i = len + d := ⟨i - len, by omega⟩
            rw [Nat.add_sub_cancel_left, Nat.add_mul]; omega
          rw [e, if_pos (by simp; omega), Nat.add_sub_cancel_left]
          exact ⟨v, hv, hd⟩, fun j hj => hι j hj⟩,
      fun _ x p hx => by simp [WT.put] at hx; exact .inr hx.1.symm, fun l r hl hk => by obtain ⟨arr, t, fr, h1, _⟩ := hB; subst hl; rw [h1] at hk; cases hk⟩ inv
  refine ⟨_, hB, hle, i.1, i.2, ?_⟩
  have hrep := Rep.sl (Δ := Δ.put id (ver + 1 + 1) b 0) id (ver + 1) sz 0 (len + ys.length) b cap S (place_put hlt) hσ (by rw [Nat.zero_add]; exact hS) hc
  rw [Nat.zero_mul] at hrep
  exact hrep
end Go.Pv
/-
  The heap's programs: what they come to in a world.
-/
set_option linter.unusedSimpArgs false
set_option linter.unusedVariables false
namespace Go.Pv
open Go

theorem csOf_rep {Δ : WT} {x : V} {v : Value} {cs : List V} (h : Rep Δ x v) (hc : csOf x = some cs) : RepL Δ cs v.cells.toList := by
  have one : ∀ {x : V} {v : Value}, Rep Δ x v → v.cells = #[v] → RepL Δ [x] v.cells.toList := fun h e => by
    rw [e]; exact RepL.cons h (.nil _)
  cases h with
  | unk v => simp [csOf] at hc
  | tup cs' vs hn h => simp [csOf] at hc
  | agg cs' vs hn h =>
    simp only [csOf, Option.some.injEq] at hc; subst hc
    exact ⟨by simp [Value.cells, hn], fun i y u hy hu => h i y u hy (by simpa [Value.cells] using hu)⟩
  | sc v =>
    cases v with
    | agg c => simp [csOf] at hc
    | _ => simp only [csOf, Option.some.injEq] at hc; subst hc; exact one (.sc _) rfl
  | list sz xs tk v h ht =>
    obtain ⟨a, cap, b, o, rfl, _⟩ := h.list_inv
    simp only [csOf, Option.some.injEq] at hc; subst hc; exact one (.list _ _ _ _ h ht) rfl
  | pptr sz xs i k b o h => simp only [csOf, Option.some.injEq] at hc; subst hc; exact one (.pptr _ _ _ _ _ _ h) rfl
  | ref id off b h => simp only [csOf, Option.some.injEq] at hc; subst hc; exact one (.ref _ _ _ h) rfl
  | sl id ver sz off len b cap S h hs hcc hl => simp only [csOf, Option.some.injEq] at hc; subst hc; exact one (.sl _ _ _ _ _ _ _ _ h hs hcc hl) rfl
  | eref id ver sz i k b h => simp only [csOf, Option.some.injEq] at hc; subst hc; exact one (.eref _ _ _ _ _ _ h) rfl
  | csl id off len b cap h hl => simp only [csOf, Option.some.injEq] at hc; subst hc; exact one (.csl _ _ _ _ _ h hl) rfl
  | fn f first caps us vs hu hv h1 h2 => simp only [csOf, Option.some.injEq] at hc; subst hc; exact one (.fn _ _ _ _ _ hu hv h1 h2) rfl
  | yld id l h => simp only [csOf, Option.some.injEq] at hc; subst hc; exact one (.yld _ _ h) rfl
  | mp id b h => simp only [csOf, Option.some.injEq] at hc; subst hc; exact one (.mp _ _ h) rfl

theorem ofVal_rep (Δ : WT) (v : Value) : Rep Δ (ofVal v) v := by
  cases v with
  | agg c => exact .agg _ _ (by simp) (fun i x u hx hu => by
      rw [List.getElem?_map] at hx
      have hu' : c.toList[i]? = some u := by simpa using hu
      rw [hu'] at hx; simp at hx; subst hx; exact .sc u)
  | _ => exact .sc _
theorem mapM_scal {Δ : WT} : ∀ (cs : List V) (us vs : List Value), cs.mapM scal = some us → RepL Δ cs vs → vs = us
  | [], us, vs, h, hr => by
    simp at h; subst h
    exact List.eq_nil_of_length_eq_zero (by have := hr.1; simpa using this.symm)
  | c :: cs, us, vs, h, hr => by
    obtain ⟨v, vs', rfl, h1, h2⟩ := hr.cons_inv
    simp only [List.mapM_cons] at h
    cases hc : scal c with
    | none => rw [hc] at h; simp at h
    | some u =>
      rw [hc] at h
      cases hm : cs.mapM scal with
      | none => rw [hm] at h; simp at h
      | some us' =>
        rw [hm] at h; simp at h; subst h
        have : v = u := by
          cases c with
          | sc w => cases h1; simpa [scal] using hc
          | _ => simp [scal] at hc
        rw [this, mapM_scal cs us' vs' hm h2]
theorem toVal_rep {Δ : WT} {x : V} {v u : Value} (h : Rep Δ x v) (hu : x.toVal = some u) : v = u := by
  cases h with
  | sc v => simpa [V.toVal] using hu
  | agg cs vs hn h =>
    simp only [V.toVal] at hu
    cases hm : cs.mapM scal with
    | none => rw [hm] at hu; simp at hu
    | some us =>
      rw [hm] at hu; simp at hu; subst hu
      have := mapM_scal (Δ := Δ) cs us vs.toList hm ⟨by simp [hn], fun i y w hy hw => h i y w hy (by simpa using hw)⟩
      rw [← this]
  | _ => simp [V.toVal] at hu

/-! ### What is handed on -/
theorem Rows.sub {ι : Nat → Nat → Option Value} {sz : Nat} {xs : List (List V)} {b o : Nat} (h : Rows ι sz xs b o) (l n : Nat) : Rows ι sz ((xs.drop l).take n) b (o + l * sz) := by
  refine ⟨fun x hx => h.1 x (List.mem_of_mem_drop (List.mem_of_mem_take hx)), fun i k x y hx hy => ?_⟩
  rw [List.getElem?_take] at hx
  split at hx
  · rw [List.getElem?_drop] at hx
    obtain ⟨v, hv, hr⟩ := h.2 _ k x y hx hy
    refine ⟨v, ?_, hr⟩
    rw [← hv]; congr 1; rw [Nat.add_mul]; omega
  · simp at hx
theorem Rows.nil (ι : Nat → Nat → Option Value) (sz b o : Nat) : Rows ι sz [] b o := ⟨fun x hx => by simp at hx, fun i k x y hx => by simp at hx⟩

theorem normCell_sound {ty : Option Nat} {v v' : V} {is is' : List Nat} {h h' : H} (e : (normCell ty v).runAt is h = some (v', is', h')) {Δ : WT} {w : World} (inv : Inv Δ h w) {val : Value} (hr : Rep Δ v val) :
    is' = is ∧ ∃ Δ', Inv Δ' h' w ∧ Step Δ h w Δ' h' w ∧ Rep Δ' v' val := by
  have same : ∀ (u : V), (HP.ret u : HP V).runAt is h = some (v', is', h') → Rep Δ u val → is' = is ∧ ∃ Δ', Inv Δ' h' w ∧ Step Δ h w Δ' h' w ∧ Rep Δ' v' val := by
    intro u e hu
    simp only [HP.runAt, Option.some.injEq, Prod.mk.injEq] at e
    obtain ⟨rfl, rfl, rfl⟩ := e
    exact ⟨rfl, Δ, inv, .refl _ _ _, hu⟩
  unfold normCell at e
  split at e
  · rename_i sz xs tk
    refine same _ e ?_
    cases hr with
    | list _ _ _ _ h ht =>
      obtain ⟨a, cap, b, o, rfl, h1, h2, h3⟩ := h.list_inv
      exact .list _ _ _ _ (RD.list' h1 h2 h3) trivial
  · cases ty with
    | none => exact same _ e hr
    | some sz =>
      refine same _ e ?_
      cases hr
      exact .list sz [] .no _ (RD.list' (xs := []) (Rows.nil _ sz 0 0) (fun h => absurd rfl h) (Nat.le_refl _)) trivial
  · rename_i id ver sz off len
    simp only [HP.runAt] at e
    split at e
    · rename_i o ho
      split at e
      · rename_i ver' wm sz' xs
        split at e
        · rename_i hk
          obtain ⟨rfl, rfl, hle⟩ := hk
          simp only [HP.runAt] at e
          split at e
          · simp only [Option.some.injEq, Prod.mk.injEq] at e
            obtain ⟨rfl, rfl, rfl⟩ := e
            cases hr with
            | sl _ _ _ _ _ b cap S hp hs hc hl =>
              obtain ⟨Δ', i1, i2, hf⟩ := freeze_arr inv ho hp hle
              refine ⟨rfl, Δ', i1, i2, .list _ _ _ _ ?_ trivial⟩
              obtain ⟨_, _, _, _, _, _, _, hrow, _⟩ := inv.ob id _ ho
              have hlen : ((xs.drop off).take len).length = len := by simp; omega
              have hR : Rows Δ'.ι sz ((xs.drop off).take len) b (off * sz) := by
                refine ⟨fun x hx => hrow x (List.mem_of_mem_drop (List.mem_of_mem_take hx)), fun i k x y hx hy => ?_⟩
                have hi : i < len := by have := (List.getElem?_eq_some_iff.1 hx).1; omega
                rw [List.getElem?_take, if_pos hi, List.getElem?_drop] at hx
                obtain ⟨v, hv, hr⟩ := hf _ k x y (by omega) hx hy
                refine ⟨v, ?_, hr⟩
                rw [← hv]; congr 1; rw [Nat.add_mul]
              have := RD.list' (cap := cap) hR (fun _ => rfl) (by omega)
              rw [hlen] at this; exact this
          · simp at e
        · simp [HP.runAt] at e
      · simp [HP.runAt] at e
    · simp at e
  · exact same _ e hr

theorem normCells_sound : ∀ (ts : List (Option Nat)) (cs cs' : List V) {is is' : List Nat} {h h' : H} (e : (normCells ts cs).runAt is h = some (cs', is', h')) {Δ : WT} {w : World} (inv : Inv Δ h w) {vs : List Value} (hr : RepL Δ cs vs),
    is' = is ∧ ∃ Δ', Inv Δ' h' w ∧ Step Δ h w Δ' h' w ∧ RepL Δ' cs' vs
  | [], cs, cs', is, is', h, h', e, Δ, w, inv, vs, hr => by
    simp only [normCells, HP.runAt, Option.some.injEq, Prod.mk.injEq] at e
    obtain ⟨rfl, rfl, rfl⟩ := e
    exact ⟨rfl, Δ, inv, .refl _ _ _, hr⟩
  | t :: ts, [], cs', is, is', h, h', e, Δ, w, inv, vs, hr => by
    simp only [normCells, HP.runAt, Option.some.injEq, Prod.mk.injEq] at e
    obtain ⟨rfl, rfl, rfl⟩ := e
    exact ⟨rfl, Δ, inv, .refl _ _ _, hr⟩
  | t :: ts, c :: cs, cs', is, is', h, h', e, Δ, w, inv, vs, hr => by
    obtain ⟨v, vs', rfl, h1, h2⟩ := hr.cons_inv
    simp only [normCells, HP.runAt_bind] at e
    cases e1 : (normCell t c).runAt is h with
    | none => rw [e1] at e; simp at e
    | some r1 =>
      obtain ⟨c1, is1, hh1⟩ := r1
      rw [e1] at e; simp only [Option.bind_some] at e
      obtain ⟨rfl, Δ1, inv1, st1, hc1⟩ := normCell_sound e1 inv h1
      cases e2 : (normCells ts cs).runAt is1 hh1 with
      | none => rw [e2] at e; simp at e
      | some r2 =>
        obtain ⟨cs2, is2, hh2⟩ := r2
        rw [e2] at e; simp only [Option.bind_some, HP.runAt, Option.some.injEq, Prod.mk.injEq] at e
        obtain ⟨rfl, rfl, rfl⟩ := e
        obtain ⟨rfl, Δ2, inv2, st2, hcs2⟩ := normCells_sound ts cs cs2 e2 inv1 (h2.ext st1.ext)
        exact ⟨rfl, Δ2, inv2, st1.trans st2, RepL.cons (hc1.ext st2.ext) hcs2⟩

theorem normV_sound {P : Program} {t : TypeId} {v v' : V} {is is' : List Nat} {h h' : H} (e : (normV P t v).runAt is h = some (v', is', h')) {Δ : WT} {w : World} (inv : Inv Δ h w) {val : Value} (hr : Rep Δ v val) :
    is' = is ∧ ∃ Δ', Inv Δ' h' w ∧ Step Δ h w Δ' h' w ∧ Rep Δ' v' val := by
  unfold normV at e
  split at e
  · rename_i cs
    simp only [HP.runAt_bind] at e
    cases e1 : (normCells (cellTys P tyD t) cs).runAt is h with
    | none => rw [e1] at e; simp at e
    | some r1 =>
      obtain ⟨c1, is1, hh1⟩ := r1
      rw [e1] at e; simp only [Option.bind_some, HP.runAt, Option.some.injEq, Prod.mk.injEq] at e
      obtain ⟨rfl, rfl, rfl⟩ := e
      cases hr with
      | agg _ vs hn hh =>
        obtain ⟨rfl, Δ1, inv1, st1, hc1⟩ := normCells_sound _ _ _ e1 inv (vs := vs.toList) ⟨by simp [hn], fun i y w hy hw => hh i y w hy (by simpa using hw)⟩
        exact ⟨rfl, Δ1, inv1, st1, .agg _ _ (by have := hc1.1; simpa using this.symm) (fun i y w hy hw => hc1.2 i y w hy (by simpa using hw))⟩
  · exact normCell_sound e inv hr

theorem normVs_sound (P : Program) : ∀ (ts : List TypeId) (cs cs' : List V) {is is' : List Nat} {h h' : H} (e : (normVs P ts cs).runAt is h = some (cs', is', h')) {Δ : WT} {w : World} (inv : Inv Δ h w) {vs : List Value} (hr : RepL Δ cs vs),
    is' = is ∧ ∃ Δ', Inv Δ' h' w ∧ Step Δ h w Δ' h' w ∧ RepL Δ' cs' vs
  | [], cs, cs', is, is', h, h', e, Δ, w, inv, vs, hr => by
    simp only [normVs, HP.runAt, Option.some.injEq, Prod.mk.injEq] at e
    obtain ⟨rfl, rfl, rfl⟩ := e
    exact ⟨rfl, Δ, inv, .refl _ _ _, hr⟩
  | t :: ts, [], cs', is, is', h, h', e, Δ, w, inv, vs, hr => by
    simp only [normVs, HP.runAt, Option.some.injEq, Prod.mk.injEq] at e
    obtain ⟨rfl, rfl, rfl⟩ := e
    exact ⟨rfl, Δ, inv, .refl _ _ _, hr⟩
  | t :: ts, c :: cs, cs', is, is', h, h', e, Δ, w, inv, vs, hr => by
    obtain ⟨v, vs', rfl, h1, h2⟩ := hr.cons_inv
    simp only [normVs, HP.runAt_bind] at e
    cases e1 : (normV P t c).runAt is h with
    | none => rw [e1] at e; simp at e
    | some r1 =>
      obtain ⟨c1, is1, hh1⟩ := r1
      rw [e1] at e; simp only [Option.bind_some] at e
      obtain ⟨rfl, Δ1, inv1, st1, hc1⟩ := normV_sound e1 inv h1
      cases e2 : (normVs P ts cs).runAt is1 hh1 with
      | none => rw [e2] at e; simp at e
      | some r2 =>
        obtain ⟨cs2, is2, hh2⟩ := r2
        rw [e2] at e; simp only [Option.bind_some, HP.runAt, Option.some.injEq, Prod.mk.injEq] at e
        obtain ⟨rfl, rfl, rfl⟩ := e
        obtain ⟨rfl, Δ2, inv2, st2, hcs2⟩ := normVs_sound P ts cs cs2 e2 inv1 (h2.ext st1.ext)
        exact ⟨rfl, Δ2, inv2, st1.trans st2, RepL.cons (hc1.ext st2.ext) hcs2⟩

/-! ### Reading -/
theorem readAt_sound {p : V} {n : Nat} {cs : List V} {is is' : List Nat} {h h' : H} (e : (readAt p n).runAt is h = some (cs, is', h')) {Δ : WT} {w : World} (inv : Inv Δ h w) {pv : Value} (hr : Rep Δ p pv) :
    is' = is ∧ h' = h ∧ ∃ b o vs, pv = .pointer (some (at_ b o)) ∧ vs.length = n ∧ (∀ j v, vs[j]? = some v → w.cell? (at_ b (o + j)) = some v) ∧ RepL Δ cs vs := by
  -- out of a fact for each cell
  have fin : ∀ b o, cs.length = n → (∀ j x, cs[j]? = some x → ∃ v, w.cell? (at_ b (o + j)) = some v ∧ Rep Δ x v) → ∃ vs : List Value, vs.length = n ∧ (∀ j v, vs[j]? = some v → w.cell? (at_ b (o + j)) = some v) ∧ RepL Δ cs vs := by
    intro b o hl hc
    have key : ∀ (n : Nat) (o : Nat) (cs : List V), cs.length = n → (∀ j x, cs[j]? = some x → ∃ v, w.cell? (at_ b (o + j)) = some v ∧ Rep Δ x v) →
        ∃ vs : List Value, vs.length = n ∧ (∀ j v, vs[j]? = some v → w.cell? (at_ b (o + j)) = some v) ∧ RepL Δ cs vs := by
      intro n
      induction n with
      | zero => intro o cs hl hc; obtain rfl := List.eq_nil_of_length_eq_zero hl; exact ⟨[], rfl, fun j v hv => by simp at hv, .nil _⟩
      | succ n ih =>
        intro o cs hl hc
        cases cs with
        | nil => simp at hl
        | cons c cs =>
          obtain ⟨v, hv, hrv⟩ := hc 0 c rfl
          obtain ⟨vs, h1, h2, h3⟩ := ih (o + 1) cs (by simpa using hl) (fun j x hx => by have := hc (j + 1) x (by simpa using hx); rwa [show o + (j + 1) = o + 1 + j from by omega] at this)
          refine ⟨v :: vs, by simp [h1], fun j u hu => ?_, RepL.cons hrv h3⟩
          cases j with
          | zero => simp at hu; subst hu; exact hv
          | succ j => have := h2 j u (by simpa using hu); rwa [show o + 1 + j = o + (j + 1) from by omega] at this
    exact key n o cs hl hc
  unfold readAt at e
  split at e
  · rename_i id off
    simp only [HP.runAt] at e
    split at e
    · rename_i ob ho
      split at e
      · rename_i c
        rw [HP.runAt_ofOption] at e
        cases et : takeAt c off n with
        | none => rw [et] at e; simp at e
        | some r =>
          rw [et] at e; simp only [Option.map_some, Option.some.injEq, Prod.mk.injEq] at e
          obtain ⟨rfl, rfl, rfl⟩ := e
          obtain ⟨hl, hg⟩ := takeAt_some et
          cases hr with
          | ref _ _ b hp =>
            obtain ⟨hν, b', hμ, hB, hcell, _⟩ := inv.ob id _ ho
            have hb := hp.μ hν
            rw [hμ] at hb; cases hb
            obtain ⟨vs, h1, h2, h3⟩ := fin b off hl (fun j x hx => hcell _ x (hg j x hx))
            exact ⟨rfl, rfl, b, off, vs, rfl, h1, h2, h3⟩
      · simp [HP.runAt] at e
    · simp at e
  · rename_i id ver sz i k
    simp only [HP.runAt] at e
    split at e
    · rename_i ob ho
      split at e
      · rename_i ver' wm sz' xs
        split at e
        · rename_i hk
          obtain ⟨rfl, rfl⟩ := hk
          rw [HP.runAt_ofOption] at e
          cases hx : xs[i]? with
          | none => rw [hx] at e; simp at e
          | some x =>
            rw [hx] at e; simp only [Option.bind_some] at e
            cases et : takeAt x k n with
            | none => rw [et] at e; simp at e
            | some r =>
              rw [et] at e; simp only [Option.map_some, Option.some.injEq, Prod.mk.injEq] at e
              obtain ⟨rfl, rfl, rfl⟩ := e
              obtain ⟨hl, hg⟩ := takeAt_some et
              cases hr with
              | eref _ _ _ _ _ b hp =>
                obtain ⟨hν, b', S, hμ, hσ, hB, hS, hrow, hcell, _⟩ := inv.ob id _ ho
                have hb := hp.μ hν
                rw [hμ] at hb; cases hb
                obtain ⟨vs, h1, h2, h3⟩ := fin b (i * sz + k) hl (fun j y hy => by
                  obtain ⟨v, hv, hd⟩ := hcell i _ x y hx (hg j y hy)
                  refine ⟨v, by rw [show i * sz + k + j = i * sz + (k + j) from by omega]; exact hv, hd.toRep⟩)
                exact ⟨rfl, rfl, b, i * sz + k, vs, rfl, h1, h2, h3⟩
        · simp [HP.runAt] at e
      · simp [HP.runAt] at e
    · simp at e
  · rename_i sz xs i k
    rw [HP.runAt_ofOption] at e
    cases hx : xs[i]? with
    | none => rw [hx] at e; simp at e
    | some x =>
      rw [hx] at e; simp only [Option.bind_some] at e
      cases et : takeAt x k n with
      | none => rw [et] at e; simp at e
      | some r =>
        rw [et] at e; simp only [Option.map_some, Option.some.injEq, Prod.mk.injEq] at e
        obtain ⟨rfl, rfl, rfl⟩ := e
        obtain ⟨hl, hg⟩ := takeAt_some et
        cases hr with
        | pptr _ _ _ _ b o hR =>
          obtain ⟨vs, h1, h2, h3⟩ := fin b (o + i * sz + k) hl (fun j y hy => by
            obtain ⟨v, hv, hd⟩ := hR.2 i _ x y hx (hg j y hy)
            refine ⟨v, by rw [show o + i * sz + k + j = o + i * sz + (k + j) from by omega]; exact inv.ι _ _ _ hv, hd.toRep⟩)
          exact ⟨rfl, rfl, b, o + i * sz + k, vs, rfl, h1, h2, h3⟩
  · simp [HP.runAt] at e
end Go.Pv
/-
  Operations, one by one.
-/
set_option linter.unusedSimpArgs false
set_option linter.unusedVariables false
namespace Go.Pv
open Go

def SemOk (P : Program) (s : Sem Value) (Δ : WT) (h : H) (w : World) (v : V) (h' : H) : Prop :=
  ∃ val w' Δ', s.run P w = .ok val w' ∧ Inv Δ' h' w' ∧ Step Δ h w Δ' h' w' ∧ Rep Δ' v val

theorem SemOk.pure {P : Program} {s : Sem Value} {Δ : WT} {h : H} {w : World} {v : V} {val : Value} (inv : Inv Δ h w) (hs : s.run P w = .ok val w) (hr : Rep Δ v val) : SemOk P s Δ h w v h :=
  ⟨val, w, Δ, hs, inv, .refl _ _ _, hr⟩

/-! ### Operands -/
def GOk (C : Cx) (Δ : WT) : Prop := ∀ g cs, C.gl g = some cs → ∀ (k : Nat) (y : V), cs[k]? = some y → ∃ v, Δ.ι g k = some v ∧ RD Δ.ι y v
theorem GOk.ext {C : Cx} {Δ Δ' : WT} (e : Ext Δ Δ') (h : GOk C Δ) : GOk C Δ' := fun g cs hg k y hy => let ⟨v, hv, hr⟩ := h g cs hg k y hy; ⟨v, e.ι _ _ _ hv, hr.mono e.ι⟩
theorem RepL.getD {Δ : WT} {xs : List V} {vs : List Value} (h : RepL Δ xs vs) (i : Nat) : Rep Δ (xs.getD i .unk) (vs.getD i undef) := by
  rw [List.getD_eq_getElem?_getD, List.getD_eq_getElem?_getD]
  by_cases hi : i < xs.length
  · have hi' : i < vs.length := by rw [← h.1]; exact hi
    simp only [List.getElem?_eq_getElem hi, List.getElem?_eq_getElem hi', Option.getD_some]
    exact h.2 i _ _ (List.getElem?_eq_getElem hi) (List.getElem?_eq_getElem hi')
  · rw [List.getElem?_eq_none (by omega)]; exact .unk _
theorem ev_rep {C : Cx} {Δ : WT} (hg : GOk C Δ) {env : List V} {a : Act} (hr : RepL Δ env a.tmps.toList) (x : Operand) : Rep Δ (ev C env x) (a.eval x) := by
  cases x with
  | tmp t =>
    have := hr.getD t
    simp only [ev, Act.eval]
    rw [show a.tmps.getD t undef = a.tmps.toList.getD t undef from by simp [Array.getD_eq_getD_getElem?, List.getD_eq_getElem?_getD]]
    exact this
  | const v => exact ofVal_rep Δ v
  | global g =>
    simp only [ev, Act.eval]
    cases e : C.gl g with
    | none => exact .unk _
    | some cs =>
      have h1 : Rows Δ.ι cs.length [cs] g 0 := by
        refine ⟨fun x hx => by simp at hx; rw [hx], fun i k x y hx hy => ?_⟩
        cases i with
        | zero =>
          simp at hx; subst hx
          obtain ⟨v, hv, hr⟩ := hg g cs e k y hy
          exact ⟨v, by simpa using hv, hr⟩
        | succ i => simp at hx
      have := Rep.pptr (Δ := Δ) cs.length [cs] 0 0 g 0 h1
      simpa [at_] using this
  | func f => exact .sc _
theorem evs_rep {C : Cx} {Δ : WT} (hg : GOk C Δ) {env : List V} {a : Act} (hr : RepL Δ env a.tmps.toList) (xs : List Operand) : RepL Δ (xs.map (ev C env)) (xs.map a.eval) :=
  ⟨by simp, fun i x v hx hv => by
    rw [List.getElem?_map] at hx hv
    cases e : xs[i]? with
    | none => rw [e] at hx; simp at hx
    | some o => rw [e] at hx hv; simp at hx hv; subst hx hv; exact ev_rep hg hr o⟩

theorem pureV_sound {P : Program} {s : Sem Value} {v : V} {is is' : List Nat} {h h' : H} (e : (pureV P s).runAt is h = some (v, is', h')) : is' = is ∧ h' = h ∧ ∃ val, v = ofVal val ∧ ∀ w, s.run P w = .ok val w := by
  unfold pureV at e
  split at e
  · rename_i r hr
    simp only [HP.runAt, Option.some.injEq, Prod.mk.injEq] at e
    obtain ⟨rfl, rfl, rfl⟩ := e
    exact ⟨rfl, rfl, r, rfl, fun w => pureRun_sound hr w⟩
  · simp [HP.runAt] at e
theorem pureV_ok {P : Program} {s : Sem Value} {v : V} {is is' : List Nat} {h h' : H} (e : (pureV P s).runAt is h = some (v, is', h')) {Δ : WT} {w : World} (inv : Inv Δ h w) : is' = is ∧ SemOk P s Δ h w v h' := by
  obtain ⟨rfl, rfl, val, rfl, hs⟩ := pureV_sound e
  exact ⟨rfl, .pure inv (hs w) (ofVal_rep Δ val)⟩

theorem runAt_ret {α : Type} {a b : α} {is is' : List Nat} {h h' : H} (e : (HP.ret a).runAt is h = some (b, is', h')) : b = a ∧ is' = is ∧ h' = h := by
  simp only [HP.runAt, Option.some.injEq, Prod.mk.injEq] at e
  exact ⟨e.1.symm, e.2.1.symm, e.2.2.symm⟩
theorem runAt_opt {α : Type} {x : Option α} {b : α} {is is' : List Nat} {h h' : H} (e : (HP.ofOption x).runAt is h = some (b, is', h')) : x = some b ∧ is' = is ∧ h' = h := by
  rw [HP.runAt_ofOption] at e
  cases x with
  | none => simp at e
  | some a => simp only [Option.map_some, Option.some.injEq, Prod.mk.injEq] at e; exact ⟨by rw [e.1], e.2.1.symm, e.2.2.symm⟩
theorem runAt_bind_inv {α β : Type} {p : HP α} {f : α → HP β} {b : β} {is is' : List Nat} {h h' : H} (e : (p.bind f).runAt is h = some (b, is', h')) :
    ∃ a is1 h1, p.runAt is h = some (a, is1, h1) ∧ (f a).runAt is1 h1 = some (b, is', h') := by
  rw [HP.runAt_bind] at e
  cases ep : p.runAt is h with
  | none => rw [ep] at e; simp at e
  | some r => obtain ⟨a, is1, h1⟩ := r; rw [ep] at e; exact ⟨a, is1, h1, rfl, e⟩
theorem runAt_get {α : Type} {id : Nat} {k : Ob → HP α} {b : α} {is is' : List Nat} {h h' : H} (e : (HP.get id k).runAt is h = some (b, is', h')) : ∃ o, h[id]? = some o ∧ (k o).runAt is h = some (b, is', h') := by
  simp only [HP.runAt] at e
  split at e
  · rename_i o ho; exact ⟨o, ho, e⟩
  · simp at e
theorem runAt_put {α : Type} {id : Nat} {o : Ob} {k : HP α} {b : α} {is is' : List Nat} {h h' : H} (e : (HP.put id o k).runAt is h = some (b, is', h')) : k.runAt is (h.set id o) = some (b, is', h') := by
  simp only [HP.runAt] at e
  split at e
  · exact e
  · simp at e
theorem runAt_new {α : Type} {o : Ob} {k : Nat → HP α} {b : α} {is is' : List Nat} {h h' : H} (e : (HP.new o k).runAt is h = some (b, is', h')) : ∃ i is1, is = i :: is1 ∧ h[i]? = some .pad ∧ (k i).runAt is1 (h.set i o) = some (b, is', h') := by
  cases is with
  | nil => simp [HP.runAt] at e
  | cons i is1 =>
    simp only [HP.runAt] at e
    split at e
    · rename_i hp; exact ⟨i, is1, rfl, hp, e⟩
    · simp at e
theorem runAt_fail {α : Type} {b : α} {is is' : List Nat} {h h' : H} (e : (HP.fail : HP α).runAt is h = some (b, is', h')) : False := by simp [HP.runAt] at e

theorem Inv.ν_pad {Δ : WT} {h : H} {w : World} (inv : Inv Δ h w) {id : Nat} (hp : h[id]? = some .pad) : Δ.ν id = 0 := inv.ob id _ hp
theorem lt_of_get {h : H} {id : Nat} {o : Ob} (e : h[id]? = some o) : id < h.length := (List.getElem?_eq_some_iff.1 e).1

/-! ### Variables -/
theorem run_newVar (P : Program) (w : World) (t : TypeId) (v : Value) : (newVar t v).run P w = .ok (at_ w.heap.size 0) (w.alloc (.cells v.cells t)) := by
  simp only [newVar, newRow, Sem.run_bind, run_newObj, Result.andThen_ok]; rfl
theorem zeroV_some {P : Program} {t : TypeId} {cs : List V} (h : zeroV P t = some cs) : ∃ i v, P.info? t = some i ∧ i.zero = some v ∧ cs = v.cells.toList.map .sc := by
  unfold zeroV at h
  split at h
  · rename_i i hi
    cases hz : i.zero with
    | none => rw [hz] at h; simp at h
    | some v => rw [hz] at h; simp at h; exact ⟨i, v, hi, hz, h.symm⟩
  · simp at h
theorem RepL.scs (Δ : WT) (vs : List Value) : RepL Δ (vs.map .sc) vs := ⟨by simp, fun i x v hx hv => by rw [List.getElem?_map, hv] at hx; simp at hx; subst hx; exact .sc v⟩
theorem alloc_ok {P : Program} {t : TypeId} {cs : List V} (hz : zeroV P t = some cs) {v : V} {is is' : List Nat} {h h' : H} (e : (HP.new (.cells t cs) fun id => .ret (.ref id 0)).runAt is h = some (v, is', h')) {Δ : WT} {w : World} (inv : Inv Δ h w) :
    SemOk P (Instr.alloc t true (.tuple #[])) Δ h w v h' := by
  obtain ⟨i, is1, rfl, hp, e⟩ := runAt_new e
  obtain ⟨rfl, rfl, rfl⟩ := runAt_ret e
  obtain ⟨inf, z, hi, hz', rfl⟩ := zeroV_some hz
  obtain ⟨Δ', i1, i2, i3⟩ := alloc_cells inv hp (z.cells.toList.map .sc) z.cells t (RepL.scs _ _)
  refine ⟨_, _, Δ', ?_, i1, i2, i3⟩
  simp only [Instr.alloc, Sem.run_bind, run_zeroValue hi hz', Result.andThen_ok, run_newVar, Sem.run_pure]
theorem box_ok {P : Program} {t : TypeId} {x : V} {cs : List V} (hc : csOf x = some cs) {v : V} {is is' : List Nat} {h h' : H} (e : (HP.new (.cells t cs) fun id => .ret (.ref id 0)).runAt is h = some (v, is', h')) {Δ : WT} {w : World} (inv : Inv Δ h w) {val : Value} (hr : Rep Δ x val) :
    SemOk P (Instr.box t val) Δ h w v h' := by
  obtain ⟨i, is1, rfl, hp, e⟩ := runAt_new e
  obtain ⟨rfl, rfl, rfl⟩ := runAt_ret e
  obtain ⟨Δ', i1, i2, i3⟩ := alloc_cells inv hp cs val.cells t (csOf_rep hr hc)
  refine ⟨_, _, Δ', ?_, i1, i2, i3⟩
  simp only [Instr.box, Sem.run_bind, Result.andThen_ok, run_newVar, Sem.run_pure]

theorem pack_load {P : Program} {t : TypeId} {cs : List V} {v : V} (hp : pack P t cs = some v) {Δ : WT} {w : World} {b o : Nat} {vs : List Value} (hn : vs.length = P.cellsOf t)
    (hc : ∀ j u, vs[j]? = some u → w.cell? (at_ b (o + j)) = some u) (hr : RepL Δ cs vs) (hu : (P.underlying t).isSome = true) : ∃ val, (loadVar t (at_ b o)).run P w = .ok val w ∧ Rep Δ v val := by
  obtain ⟨d, hd⟩ := Option.isSome_iff_exists.1 hu
  obtain ⟨i, hi⟩ := info_of_underlying hd
  simp only [pack] at hp
  simp only [loadVar, Sem.run_bind, run_isAgg hu, Result.andThen_ok]
  split at hp
  · rename_i ha
    rw [ha]
    simp only [if_true, Sem.run_bind, run_sizeOf hi, Result.andThen_ok]
    rw [run_loadCells P w b o (P.cellsOf t) vs hn hc]
    obtain rfl := Option.some.inj hp
    exact ⟨_, rfl, .agg _ _ (by simp [hr.1]) (fun j x u hx hu => hr.2 j x u hx (by simpa using hu))⟩
  · rename_i ha
    split at hp
    · rename_i x
      obtain rfl := Option.some.inj hp
      obtain ⟨u, vs', rfl, h1, h2⟩ := hr.cons_inv
      have hc0 := hc 0 u rfl
      rw [Nat.add_zero] at hc0
      simp only [Bool.not_eq_true] at ha
      rw [ha]
      simp only [Bool.false_eq_true, if_false, run_load, hc0]
      exact ⟨u, rfl, h1⟩
    · simp at hp
theorem load_ok {P : Program} {t : TypeId} {p v : V} {is is' : List Nat} {h h' : H} (e : ((readAt p (P.cellsOf t)).bind fun cs => .ofOption (pack P t cs)).runAt is h = some (v, is', h')) {Δ : WT} {w : World} (inv : Inv Δ h w) {pv : Value} (hr : Rep Δ p pv)
    (hu : (P.underlying t).isSome = true) : is' = is ∧ SemOk P (Instr.loadAt t pv) Δ h w v h' := by
  obtain ⟨cs, is1, h1, e1, e2⟩ := runAt_bind_inv e
  obtain ⟨hp, rfl, rfl⟩ := runAt_opt e2
  obtain ⟨rfl, rfl, b, o, vs, rfl, hn, hc, hrl⟩ := readAt_sound e1 inv hr
  obtain ⟨val, hs, hrep⟩ := pack_load hp hn hc hrl hu
  refine ⟨rfl, .pure inv ?_ hrep⟩
  simp only [Instr.loadAt, Sem.run_bind, Instr.sureAddr, Sem.run_pure, Result.andThen_ok, hs]

theorem writeAt_sound {P : Program} {p : V} {cs : List V} {is is' : List Nat} {h h' : H} (e : (writeAt p cs).runAt is h = some ((), is', h')) {Δ : WT} {w : World} (inv : Inv Δ h w) {pv : Value} (hr : Rep Δ p pv) {vs : List Value} (hrl : RepL Δ cs vs)
    (hcell : cs.all isCell = true) (hd : (∃ id ver sz i k, p = .eref id ver sz i k) → cs.all isD = true) :
    is' = is ∧ ∃ b o w', pv = .pointer (some (at_ b o)) ∧ (storeCells (at_ b o) vs).run P w = .ok () w' ∧ Inv Δ h' w' ∧ Step Δ h w Δ h' w' := by
  have hone := hrl.one hcell
  unfold writeAt at e
  split at e
  · rename_i id off
    obtain ⟨ob, ho, e⟩ := runAt_get e
    split at e
    · rename_i c
      split at e
      · rename_i c' hc
        have e := runAt_put e
        obtain ⟨_, rfl, rfl⟩ := runAt_ret e
        cases hr with
        | ref _ _ b hp =>
          obtain ⟨hB, hle, i1, i2⟩ := set_cells inv ho hp hc hrl
          refine ⟨rfl, b, off, _, rfl, ?_, i1, i2⟩
          exact run_storeCells P w b off _ 0 vs hB (by simpa using hle) hone
      · exact (runAt_fail e).elim
    · exact (runAt_fail e).elim
  · rename_i id ver sz i k
    obtain ⟨ob, ho, e⟩ := runAt_get e
    split at e
    · rename_i ver' wm sz' xs
      split at e
      · rename_i hk
        obtain ⟨rfl, rfl, hw⟩ := hk
        split at e
        · rename_i x' hx'
          have e := runAt_put e
          obtain ⟨_, rfl, rfl⟩ := runAt_ret e
          cases hx : xs[i]? with
          | none => rw [hx] at hx'; simp at hx'
          | some x =>
            rw [hx] at hx'; simp only [Option.bind_some] at hx'
            cases hr with
            | eref _ _ _ _ _ b hp =>
              obtain ⟨S, hB, hle, i1, i2⟩ := set_arr inv ho hp hx hw hx' hrl (hd ⟨_, _, _, _, _, rfl⟩)
              refine ⟨rfl, b, _, _, rfl, ?_, i1, i2⟩
              exact run_storeCells P w b _ S 0 vs hB (by simpa using hle) hone
        · exact (runAt_fail e).elim
      · exact (runAt_fail e).elim
    · exact (runAt_fail e).elim
  · exact (runAt_fail e).elim
end Go.Pv
set_option linter.unusedSimpArgs false
set_option linter.unusedVariables false
namespace Go.Pv
open Go

theorem store_sem {P : Program} {w w' : World} {t : TypeId} {b o : Nat} {val : Value} {n : Nat} (hn : P.cellsOf t = n) (h0 : 0 < n) (hs : val.cells.toList.length = n) (hr : (storeCells (at_ b o) val.cells.toList).run P w = .ok () w') :
    (Instr.storeAt t (.pointer (some (at_ b o))) val).run P w = .ok () w' := by
  have hi : ∃ i, P.info? t = some i := by
    cases e : P.info? t with
    | none => simp [Program.cellsOf, e] at hn; omega
    | some i => exact ⟨i, rfl⟩
  obtain ⟨i, hi⟩ := hi
  have hsz : ¬ (val.cells.size ≠ P.cellsOf t) := by rw [hn]; simpa using hs
  simp only [Instr.storeAt, Instr.sureAddr, Sem.run_bind, Sem.run_pure, Result.andThen_ok, storeVar, run_sizeOf hi]
  rw [if_neg hsz]
  exact hr

/-- A store. -/
theorem store_ok {P : Program} {t : TypeId} {x y : V} {v : V} {is is' : List Nat} {h h' : H}
    (e : (storeV P t x y).runAt is h = some (v, is', h')) {Δ : WT} {w : World} (inv : Inv Δ h w) {xv yv : Value} (hx : Rep Δ x xv) (hy : Rep Δ y yv) :
    is' = is ∧ ∃ w' Δ', (Instr.storeAt t xv yv).run P w = .ok () w' ∧ Inv Δ' h' w' ∧ Step Δ h w Δ' h' w' ∧ v = .unk := by
  unfold storeV at e
  split at e
  · rename_i cs hcs
    split at e
    · rename_i hk
      obtain ⟨hlen, hcell, hne⟩ := hk
      have hrl := csOf_rep hy hcs
      have h0 : 0 < cs.length := List.length_pos_iff.2 hne
      split at e
      · rename_i id ver sz i k
        obtain ⟨cs1, is1, h1, e1, e3⟩ := runAt_bind_inv e
        clear e
        have e := e3
        clear e3
        obtain ⟨rfl, Δ1, inv1, st1, hr1⟩ := normCells_sound _ _ _ e1 inv hrl
        split at e
        · rename_i hd
          obtain ⟨⟨⟩, is2, h2, e2, e⟩ := runAt_bind_inv e
          obtain ⟨rfl, rfl, rfl⟩ := runAt_ret e
          have hc1 : cs1.all isCell = true := List.all_eq_true.2 fun z hz => isD_cell (List.all_eq_true.1 hd z hz)
          obtain ⟨rfl, b, o', w', hpv, hs, i1, i2⟩ := writeAt_sound (P := P) e2 inv1 (hx.ext st1.ext) hr1 hc1 (fun _ => hd)
          refine ⟨rfl, w', Δ1, ?_, i1, st1.trans i2, rfl⟩
          rw [hpv]
          exact store_sem hlen.symm h0 (by rw [← hrl.1]) hs
        · exact (runAt_fail e).elim
      · rename_i hne2
        obtain ⟨⟨⟩, is2, h2, e2, e⟩ := runAt_bind_inv e
        obtain ⟨rfl, rfl, rfl⟩ := runAt_ret e
        obtain ⟨rfl, b, o', w', hpv, hs, i1, i2⟩ := writeAt_sound (P := P) e2 inv hx hrl hcell (fun ⟨id, ver, sz, i, k, hp⟩ => absurd hp (hne2 id ver sz i k))
        refine ⟨rfl, w', Δ, ?_, i1, i2, rfl⟩
        rw [hpv]
        exact store_sem hlen.symm h0 (by rw [← hrl.1]) hs
    · exact (runAt_fail e).elim
  · exact (runAt_fail e).elim

/-! ### Places -/
theorem ptrAdd_ok {Δ : WT} {p q : V} {n : Nat} {pv : Value} (h : ptrAdd p n = some q) (hr : Rep Δ p pv) : ∃ b o, pv = .pointer (some (at_ b o)) ∧ Rep Δ q (.pointer (some (at_ b (o + n)))) := by
  cases hr with
  | ref id off b hp =>
    simp only [ptrAdd, Option.some.injEq] at h; subst h
    exact ⟨b, _, rfl, .ref _ _ b hp⟩
  | eref id ver sz i k b hp =>
    simp only [ptrAdd, Option.some.injEq] at h; subst h
    refine ⟨b, _, rfl, ?_⟩
    have := Rep.eref id ver sz i (k + n) b hp
    rwa [← Nat.add_assoc] at this
  | pptr sz xs i k b o hp =>
    simp only [ptrAdd, Option.some.injEq] at h; subst h
    refine ⟨b, _, rfl, ?_⟩
    have := Rep.pptr sz xs i (k + n) b o hp
    rwa [← Nat.add_assoc] at this
  | _ => simp [ptrAdd] at h

theorem fieldPlaces_some {P : Program} {t : TypeId} {pl : Array (Nat × Nat)} (h : fieldPlaces P t = some pl) : ∃ fs, P.underlying t = some (.struct fs) ∧ pl = fs.map (fun f => (f.offset, P.cellsOf f.type)) ∧ ∀ f ∈ fs.toList, (P.info? f.type).isSome = true := by
  unfold fieldPlaces at h
  split at h
  · rename_i fs hu
    split at h
    · rename_i ha; exact ⟨fs, hu, (Option.some.inj h).symm, List.all_eq_true.1 ha⟩
    · simp at h
  · simp at h
theorem cellsOf_pos_info {P : Program} {t : TypeId} (h : P.cellsOf t ≠ 0) : ∃ i, P.info? t = some i := by
  cases e : P.info? t with
  | none => simp [Program.cellsOf, e] at h
  | some i => exact ⟨i, rfl⟩
theorem fieldAddr_ok {P : Program} {t : TypeId} {f off size : Nat} (hf : (fieldPlaces P t).bind (·[f]?) = some (off, size)) (h0 : ¬ size = 0) {p q : V} (hq : ptrAdd p off = some q) {Δ : WT} {h : H} {w : World} (inv : Inv Δ h w) {pv : Value} (hr : Rep Δ p pv) :
    SemOk P (Instr.fieldAt t pv f) Δ h w q h := by
  obtain ⟨b, o, rfl, hrq⟩ := ptrAdd_ok hq hr
  cases hp : fieldPlaces P t with
  | none => rw [hp] at hf; simp at hf
  | some pl =>
    obtain ⟨fs, hu, rfl, _⟩ := fieldPlaces_some hp
    rw [hp] at hf
    simp only [Option.bind_some, Array.getElem?_map] at hf
    cases hfd : fs[f]? with
    | none => rw [hfd] at hf; simp at hf
    | some fd =>
      rw [hfd] at hf
      simp only [Option.map_some, Option.some.injEq, Prod.mk.injEq] at hf
      obtain ⟨rfl, rfl⟩ := hf
      obtain ⟨i, hi⟩ := cellsOf_pos_info h0
      refine .pure inv (val := .pointer (some (at_ b (o + fd.offset)))) ?_ hrq
      simp only [Instr.fieldAt, Sem.run_bind, run_underlying hu, Result.andThen_ok, hfd, Instr.sureAddr, Sem.run_pure, fieldPlace, run_sizeOf hi]
      rw [if_neg h0]
      simp only [Sem.run_pure, Result.andThen_ok, add_at]

theorem intOf_rep {Δ : WT} {x : V} {v : Value} {k : IntKind} {n : Int} (h : intOf x = some (k, n)) (hr : Rep Δ x v) : v = .int k n := by
  unfold intOf at h
  split at h
  · simp only [Option.some.injEq, Prod.mk.injEq] at h; obtain ⟨rfl, rfl⟩ := h; cases hr; rfl
  · simp at h

theorem elOk_inf {P : Program} {e : TypeId} (h : elOk P e = true) : ∃ i, P.info? e = some i := by
  simp only [elOk, Bool.and_eq_true, decide_eq_true_eq] at h
  obtain ⟨_, h2⟩ := h
  split at h2
  · rename_i z hz
    obtain ⟨i, v, hi, _, _⟩ := zeroV_some hz
    exact ⟨i, hi⟩
  · simp at h2
theorem indexAddr_ok {P : Program} {t : TypeId} {x i q : V} (hq : indexAddrV P t x i = some q) {Δ : WT} {h : H} {w : World} (inv : Inv Δ h w) {xv iv : Value} (hx : Rep Δ x xv) (hi : Rep Δ i iv) :
    SemOk P (Instr.indexAt t xv iv) Δ h w q h := by
  unfold indexAddrV at hq
  split at hq
  · rename_i len el k n hu hn
    have := intOf_rep hn hi; subst this
    split at hq
    · rename_i hk
      obtain ⟨b, o, rfl, hrq⟩ := ptrAdd_ok hq hx
      obtain ⟨hk1, hk2, hel⟩ := hk
      have hk : 0 ≤ n ∧ n < len := ⟨hk1, hk2⟩
      obtain ⟨inf, hinf⟩ := elOk_inf hel
      refine .pure inv (val := .pointer (some (at_ b (o + n.toNat * P.cellsOf el)))) ?_ hrq
      simp only [Instr.indexAt, asIntOf, Sem.run_bind, Sem.run_pure, Result.andThen_ok, run_underlying hu, Instr.sureAddr]
      rw [if_pos hk]
      simp only [Sem.run_bind, run_sizeOf hinf, Result.andThen_ok, Sem.run_pure, add_at]
    · simp at hq
  · rename_i el k n hu hn
    have := intOf_rep hn hi; subst this
    split at hq
    case isFalse => simp at hq
    rename_i hel
    obtain ⟨inf, hinf⟩ := elOk_inf hel
    have fin : ∀ (b o len cap : Nat), xv = .slice (some (at_ b o)) len cap → 0 ≤ n ∧ n < len → Rep Δ q (.pointer (some (at_ b (o + n.toNat * P.cellsOf el)))) → SemOk P (Instr.indexAt t xv (.int k n)) Δ h w q h := by
      intro b o len cap hxv hk hrq
      subst hxv
      refine .pure inv (val := .pointer (some (at_ b (o + n.toNat * P.cellsOf el)))) ?_ hrq
      simp only [Instr.indexAt, asIntOf, Sem.run_bind, Sem.run_pure, Result.andThen_ok, run_underlying hu]
      rw [if_pos hk]
      simp only [Sem.run_bind, run_sizeOf hinf, Result.andThen_ok, Sem.run_pure, add_at]
    split at hq
    · rename_i sz xs tk
      split at hq
      · rename_i hk
        obtain ⟨h1, h2, rfl⟩ := hk
        obtain rfl := Option.some.inj hq
        cases hx with
        | list _ _ _ _ hd ht =>
          obtain ⟨a, cap, b, o, rfl, hR, hb, hc⟩ := hd.list_inv
          have hne : xs ≠ [] := by intro e; subst e; simp at h2; omega
          refine fin b o xs.length cap (by rw [hb hne]) ⟨h1, h2⟩ ?_
          have := Rep.pptr (Δ := Δ) (P.cellsOf el) xs n.toNat 0 b o hR
          simpa using this
      · simp at hq
    · rename_i id ver sz off len
      split at hq
      · rename_i hk
        obtain ⟨h1, h2, rfl⟩ := hk
        obtain rfl := Option.some.inj hq
        cases hx with
        | sl _ _ _ _ _ b cap S hp hs hc hl =>
          refine fin b _ len cap rfl ⟨h1, h2⟩ ?_
          have := Rep.eref (Δ := Δ) id ver (P.cellsOf el) (off + n.toNat) 0 b hp
          rw [Nat.add_mul, Nat.add_zero] at this; exact this
      · simp at hq
    · rename_i id off len
      split at hq
      · rename_i hk
        obtain ⟨h1, h2, h3⟩ := hk
        obtain rfl := Option.some.inj hq
        cases hx with
        | csl _ _ _ b cap hp hl =>
          refine fin b _ len cap rfl ⟨h1, h2⟩ ?_
          rw [← h3, Nat.mul_one]
          exact .ref id (off + n.toNat) b hp
      · simp at hq
    · simp at hq
  · simp at hq
end Go.Pv
set_option linter.unusedSimpArgs false
set_option linter.unusedVariables false
namespace Go.Pv
open Go

theorem elOk_info {P : Program} {e : TypeId} (h : elOk P e = true) : ∃ i z, P.info? e = some i ∧ i.zero = some z ∧ z.cells.size = P.cellsOf e ∧ P.bytesOf e ≤ 4096 := by
  simp only [elOk, Bool.and_eq_true, decide_eq_true_eq] at h
  obtain ⟨h1, h2⟩ := h
  split at h2
  · rename_i z hz
    obtain ⟨i, v, hi, hv, rfl⟩ := zeroV_some hz
    exact ⟨i, v, hi, hv, by simpa using h2, h1⟩
  · simp at h2

/-! ### Bounds -/
theorem boundOf_run {P : Program} {w : World} {Δ : WT} {v : Option V} {u : Option Value} {d top : Nat} {n : Nat} (h : boundOf v d top = some n) (hr : ∀ x, v = some x → ∃ y, u = some y ∧ Rep Δ x y) (hn : v = none → u = none) :
    (v = none ∧ u = none ∧ n = d) ∨ (∃ y, u = some y ∧ n ≤ top ∧ ∀ top' code, top ≤ top' → (Instr.sliceBound y top' code).run P w = .ok n w) := by
  cases v with
  | none => left; exact ⟨rfl, hn rfl, by simp only [boundOf, Option.some.injEq] at h; exact h.symm⟩
  | some x =>
    right
    obtain ⟨y, rfl, hxy⟩ := hr x rfl
    unfold boundOf at h
    split at h
    · rename_i he; simp at he
    · rename_i k i he
      simp only [Option.some.injEq] at he; subst he
      split at h
      · rename_i hk
        obtain rfl := Option.some.inj h
        cases hxy
        refine ⟨_, rfl, by omega, fun top' code ht => ?_⟩
        simp only [Instr.sliceBound, asIntOf, Sem.run_bind, Sem.run_pure, Result.andThen_ok]
        rw [if_pos ⟨hk.1, by omega⟩]; rfl
      · simp at h
    · simp at h
theorem sliceBounds_run {P : Program} {w : World} {Δ : WT} {lo hi : Option V} {ul uh : Option Value} {isS : Bool} {len cap l h : Nat} (hh : boundOf hi len len = some h) (hl : boundOf lo 0 h = some l) (hc : len ≤ cap)
    (rl : ∀ x, lo = some x → ∃ y, ul = some y ∧ Rep Δ x y) (nl : lo = none → ul = none) (rh : ∀ x, hi = some x → ∃ y, uh = some y ∧ Rep Δ x y) (nh : hi = none → uh = none) :
    (Instr.sliceBounds isS len cap ul uh none).run P w = .ok (l, h, cap) w ∧ l ≤ h ∧ h ≤ len := by
  rcases boundOf_run (P := P) (w := w) hh rh nh with ⟨_, rfl, rfl⟩ | ⟨y, rfl, hle, hy⟩
  · rcases boundOf_run (P := P) (w := w) hl rl nl with ⟨_, rfl, rfl⟩ | ⟨y', rfl, hle', hy'⟩
    · exact ⟨by simp [Instr.sliceBounds], by omega, by omega⟩
    · exact ⟨by simp [Instr.sliceBounds, hy' h _ (Nat.le_refl _)], by omega, by omega⟩
  · rcases boundOf_run (P := P) (w := w) hl rl nl with ⟨_, rfl, rfl⟩ | ⟨y', rfl, hle', hy'⟩
    · exact ⟨by simp [Instr.sliceBounds, hy cap _ hc], by omega, by omega⟩
    · exact ⟨by simp [Instr.sliceBounds, hy cap _ hc, hy' h _ (Nat.le_refl _)], by omega, by omega⟩

theorem slice3V_ok {P : Program} {t : TypeId} {x lo hi mx q : V} (hq : slice3V P t x lo hi mx = some q) {Δ : WT} {h : H} {w : World} (inv : Inv Δ h w) {xv ul uh um : Value} (hx : Rep Δ x xv) (rl : Rep Δ lo ul) (rh : Rep Δ hi uh) (rm : Rep Δ mx um) :
    SemOk P (Instr.sliceAt t xv (some ul) (some uh) (some um)) Δ h w q h := by
  unfold slice3V at hq
  split at hq
  · rename_i e sz xs tk k1 l k2 hh k3 m hu h1 h2 h3
    split at hq
    · rename_i hk
      obtain ⟨b1, b2, b3, b4, rfl, hel⟩ := hk
      obtain rfl := Option.some.inj hq
      obtain ⟨i, z, hi, _, _, _⟩ := elOk_info hel
      obtain rfl := intOf_rep h1 rl
      obtain rfl := intOf_rep h2 rh
      obtain rfl := intOf_rep h3 rm
      cases hx with
      | list _ _ _ _ hd ht =>
        obtain ⟨a, cap, b, o, rfl, hR, hb, hc⟩ := hd.list_inv
        have hs : (Instr.sliceBounds true xs.length cap (some (.int k1 l)) (some (.int k2 hh)) (some (.int k3 m))).run P w = .ok (l.toNat, hh.toNat, m.toNat) w := by
          have c1 : (0 ≤ m ∧ m ≤ (cap : Int)) := by omega
          have c2 : (0 ≤ hh ∧ hh ≤ (m.toNat : Int)) := by omega
          have c3 : (0 ≤ l ∧ l ≤ (hh.toNat : Int)) := by omega
          have g1 : (0 ≤ m ∧ m ≤ (cap : Int)) = True := eq_true c1
          have g2 : (0 ≤ hh ∧ hh ≤ (m.toNat : Int)) = True := eq_true c2
          have g3 : (0 ≤ l ∧ l ≤ (hh.toNat : Int)) = True := eq_true c3
          simp only [Instr.sliceBounds, Instr.sliceBound, asIntOf, Sem.run_bind, Sem.run_pure, Result.andThen_ok, g1, g2, g3, if_true]
        refine .pure inv (val := .slice (if m.toNat = l.toNat then a else a.map (·.add (l.toNat * P.cellsOf e))) (hh.toNat - l.toNat) (m.toNat - l.toNat)) ?_ ?_
        · simp only [Instr.sliceAt, Instr.slice, Sem.run_bind, run_underlying hu, Result.andThen_ok, hs, run_sizeOf hi, Sem.run_pure]
        · have hlen : ((xs.take hh.toNat).drop l.toNat).length = hh.toNat - l.toNat := by simp; omega
          have hsub := hR.sub l.toNat (hh.toNat - l.toNat)
          rw [← List.drop_take] at hsub
          have := RD.list' (a := if m.toNat = l.toNat then a else a.map (·.add (l.toNat * P.cellsOf e))) (cap := m.toNat - l.toNat) hsub (fun hne => by
            have hpos : 0 < ((xs.take hh.toNat).drop l.toNat).length := List.length_pos_iff.2 hne
            have hxs : xs ≠ [] := by intro k; subst k; simp at hpos
            rw [if_neg (by omega), hb hxs]; simp [add_at]) (by omega)
          rw [hlen] at this
          exact .list _ _ _ _ this trivial
    · simp at hq
  · simp at hq
theorem sliceV_ok {P : Program} {t : TypeId} {x q : V} {lo hi : Option V} (hq : sliceV P t x lo hi = some q) {Δ : WT} {h : H} {w : World} (inv : Inv Δ h w) {xv : Value} {ul uh : Option Value} (hx : Rep Δ x xv)
    (rl : ∀ x, lo = some x → ∃ y, ul = some y ∧ Rep Δ x y) (nl : lo = none → ul = none) (rh : ∀ x, hi = some x → ∃ y, uh = some y ∧ Rep Δ x y) (nh : hi = none → uh = none) :
    SemOk P (Instr.sliceAt t xv ul uh none) Δ h w q h := by
  have bind2 : ∀ {f : Nat → Nat → Option V} {len : Nat}, ((boundOf hi len len).bind fun h => (boundOf lo 0 h).bind fun l => f h l) = some q → ∃ h' l', boundOf hi len len = some h' ∧ boundOf lo 0 h' = some l' ∧ f h' l' = some q := by
    intro f len e
    cases e1 : boundOf hi len len with
    | none => rw [e1] at e; simp at e
    | some h' =>
      rw [e1] at e; simp only [Option.bind_some] at e
      cases e2 : boundOf lo 0 h' with
      | none => rw [e2] at e; simp at e
      | some l' => rw [e2] at e; simp only [Option.bind_some] at e; exact ⟨h', l', rfl, e2, e⟩
  unfold sliceV at hq
  split at hq
  · rename_i e sz xs tk hu
    obtain ⟨h', l', e1, e2, hq⟩ := bind2 hq
    split at hq
    · rename_i hk
      obtain ⟨rfl, hel⟩ := hk
      obtain rfl := Option.some.inj hq
      obtain ⟨i, z, hi, _, _, _⟩ := elOk_info hel
      cases hx with
      | list _ _ _ _ hd ht =>
        obtain ⟨a, cap, b, o, rfl, hR, hb, hc⟩ := hd.list_inv
        obtain ⟨hs, hle1, hle2⟩ := sliceBounds_run (P := P) (w := w) (isS := true) e1 e2 hc rl nl rh nh
        refine .pure inv (val := .slice (if cap = l' then a else a.map (·.add (l' * P.cellsOf e))) (h' - l') (cap - l')) ?_ ?_
        · simp only [Instr.sliceAt, Instr.slice, Sem.run_bind, run_underlying hu, Result.andThen_ok, hs, run_sizeOf hi, Sem.run_pure]
        · have hlen : ((xs.take h').drop l').length = h' - l' := by simp; omega
          have hsub := hR.sub l' (h' - l')
          rw [← List.drop_take] at hsub
          have := RD.list' (a := if cap = l' then a else a.map (·.add (l' * P.cellsOf e))) (cap := cap - l') hsub (fun hne => by
            have hpos : 0 < ((xs.take h').drop l').length := List.length_pos_iff.2 hne
            have hxs : xs ≠ [] := by intro k; subst k; simp at hpos
            rw [if_neg (by omega), hb hxs]; simp [add_at]) (by omega)
          rw [hlen] at this
          exact .list _ _ _ _ this trivial
    · simp at hq
  · rename_i e id ver sz off len hu
    obtain ⟨h', l', e1, e2, hq⟩ := bind2 hq
    split at hq
    · rename_i hk
      obtain ⟨rfl, hel⟩ := hk
      obtain ⟨i, z, hi, _, _, _⟩ := elOk_info hel
      cases hx with
      | sl _ _ _ _ _ b cap S hp hσ hcS hc =>
        obtain ⟨hs, hle1, hle2⟩ := sliceBounds_run (P := P) (w := w) (isS := true) e1 e2 hc rl nl rh nh
        refine .pure inv (val := .slice (if cap = l' then some (at_ b (off * P.cellsOf e)) else (some (at_ b (off * P.cellsOf e))).map (·.add (l' * P.cellsOf e))) (h' - l') (cap - l')) ?_ ?_
        · simp only [Instr.sliceAt, Instr.slice, Sem.run_bind, run_underlying hu, Result.andThen_ok, hs, run_sizeOf hi, Sem.run_pure]
        · split at hq
          · rename_i hcase
            obtain rfl := Option.some.inj hq
            have hb : (if cap = l' then some (at_ b (off * P.cellsOf e)) else (some (at_ b (off * P.cellsOf e))).map (·.add (l' * P.cellsOf e))) = some (at_ b ((off + l') * P.cellsOf e)) := by
              rcases hcase with rfl | hlt
              · split <;> simp [add_at]
              · rw [if_neg (by omega)]; simp [add_at, Nat.add_mul]
            rw [hb]
            exact .sl _ _ _ _ _ b _ S hp hσ (by rw [show off + l' + (cap - l') = off + cap from by omega]; exact hcS) (by omega)
          · rename_i hcase
            obtain rfl := Option.some.inj hq
            have h0 : h' - l' = 0 := by omega
            rw [h0]
            exact .list _ [] _ _ (RD.list' (xs := []) (Rows.nil _ _ 0 0) (fun k => absurd rfl k) (Nat.zero_le _)) trivial
    · simp at hq
  · rename_i e id off len hu
    obtain ⟨h', l', e1, e2, hq⟩ := bind2 hq
    split at hq
    · rename_i hk
      obtain ⟨h1, hel, hcase⟩ := hk
      obtain rfl := Option.some.inj hq
      obtain ⟨i, z, hi, _, _, _⟩ := elOk_info hel
      cases hx with
      | csl _ _ _ b cap hp hc =>
        obtain ⟨hs, hle1, hle2⟩ := sliceBounds_run (P := P) (w := w) (isS := true) e1 e2 hc rl nl rh nh
        refine .pure inv (val := .slice (if cap = l' then some (at_ b off) else (some (at_ b off)).map (·.add (l' * P.cellsOf e))) (h' - l') (cap - l')) ?_ ?_
        · simp only [Instr.sliceAt, Instr.slice, Sem.run_bind, run_underlying hu, Result.andThen_ok, hs, run_sizeOf hi, Sem.run_pure]
        · have hb : (if cap = l' then some (at_ b off) else (some (at_ b off)).map (·.add (l' * P.cellsOf e))) = some (at_ b (off + l')) := by
            rw [← h1, Nat.mul_one]
            rcases hcase with rfl | hlt
            · split <;> simp [add_at]
            · rw [if_neg (by omega)]; simp [add_at]
          rw [hb]
          exact .csl _ _ _ b _ hp (by omega)
    · simp at hq
  · rename_i n e id off hu
    obtain ⟨h', l', e1, e2, hq⟩ := bind2 hq
    split at hq
    · rename_i hk
      obtain ⟨h1, hel, hcase⟩ := hk
      obtain rfl := Option.some.inj hq
      obtain ⟨i, z, hi, _, _, _⟩ := elOk_info hel
      cases hx with
      | ref _ _ b hp =>
        obtain ⟨hs, hle1, hle2⟩ := sliceBounds_run (P := P) (w := w) (isS := false) e1 e2 (Nat.le_refl _) rl nl rh nh
        refine .pure inv (val := .slice (some (if n = l' then at_ b off else (at_ b off).add (l' * P.cellsOf e))) (h' - l') (n - l')) ?_ ?_
        · simp only [Instr.sliceAt, Sem.run_bind, run_underlying hu, Result.andThen_ok, Instr.sureAddr, hs, run_sizeOf hi, Sem.run_pure]
        · have hb : (if n = l' then at_ b off else (at_ b off).add (l' * P.cellsOf e)) = at_ b (off + l') := by
            rw [← h1, Nat.mul_one]
            rcases hcase with rfl | hlt
            · split <;> simp [add_at]
            · rw [if_neg (by omega)]; simp [add_at]
          rw [hb]
          exact .csl _ _ _ b _ hp (by omega)
    · simp at hq
  · simp at hq
end Go.Pv
/-
  append
-/
set_option linter.unusedSimpArgs false
set_option linter.unusedVariables false
namespace Go.Pv
open Go

/-- The cells of a slice's (or a string's) elements, in every world that has this heap. -/
def Elems (P : Program) (Δ : WT) (w : World) (x : Value) (sz : Nat) (ys : List (List V)) : Prop :=
  (∀ w2, (Builtin.lenOf x).run P w2 = .ok ys.length w2) ∧ ∃ arr : Array Value, arr.size = ys.length * sz ∧ RowsIn Δ.ι sz ys arr ∧ (∀ v ∈ arr.toList, v.oneCell' = true) ∧
    ∀ w2 : World, w2.heap = w.heap → (Builtin.firstCells sz ys.length x).run P w2 = .ok arr w2

theorem cell_heap {w w2 : World} (e : w2.heap = w.heap) (a : Addr) : w2.cell? a = w.cell? a := by simp only [World.cell?, e]

/-- Rows that lie in cells, as one array. -/
theorem rows_array {ι : Nat → Nat → Option Value} {sz : Nat} {ys : List (List V)} (hrow : ∀ x ∈ ys, x.length = sz) (f : Nat → Option Value)
    (hf : ∀ i k x y, ys[i]? = some x → x[k]? = some y → ∃ v, f (i * sz + k) = some v ∧ RD ι y v ∧ v.oneCell' = true) :
    ∃ arr : Array Value, arr.size = ys.length * sz ∧ RowsIn ι sz ys arr ∧ (∀ v ∈ arr.toList, v.oneCell' = true) ∧ ∀ j v, arr.toList[j]? = some v → f j = some v := by
  have hall : ∀ j, j < ys.length * sz → ∃ v, f j = some v ∧ v.oneCell' = true ∧ ∀ i k x y, ys[i]? = some x → x[k]? = some y → i * sz + k = j → RD ι y v := by
    intro j hj
    have hs : 0 < sz := by rcases Nat.eq_zero_or_pos sz with h | h; (subst h; simp at hj); exact h
    have hd : j / sz < ys.length := Nat.div_lt_of_lt_mul (by rw [Nat.mul_comm]; exact hj)
    have hm : j % sz < sz := Nat.mod_lt _ hs
    have hrl : ys[j / sz].length = sz := hrow _ (List.getElem_mem hd)
    have hx : ys[j / sz]? = some ys[j / sz] := List.getElem?_eq_getElem hd
    have hy : (ys[j / sz])[j % sz]? = some ((ys[j / sz])[j % sz]'(by omega)) := List.getElem?_eq_getElem (by omega)
    have ej : j / sz * sz + j % sz = j := by have := Nat.div_add_mod j sz; rw [Nat.mul_comm] at this; exact this
    obtain ⟨v, h1, h2, h3⟩ := hf _ _ _ _ hx hy
    rw [ej] at h1
    refine ⟨v, h1, h3, fun i k x y hx' hy' e => ?_⟩
    obtain ⟨v', g1, g2, _⟩ := hf i k x y hx' hy'
    rw [e, h1] at g1; cases g1; exact g2
  classical
  let g : Nat → Value := fun j => if h : ∃ v, f j = some v then h.choose else undef
  have hg : ∀ j v, f j = some v → g j = v := fun j v e => by
    have hex : ∃ v, f j = some v := ⟨v, e⟩
    simp only [g, dif_pos hex]; exact Option.some.inj (hex.choose_spec.symm.trans e)
  refine ⟨((List.range (ys.length * sz)).map g).toArray, by simp, ⟨hrow, fun i k x y hx hy => ?_⟩, ?_, ?_⟩
  · obtain ⟨_, _, hlt⟩ := row_lt hrow hx hy
    obtain ⟨v, h1, h2, _⟩ := hf i k x y hx hy
    exact ⟨v, by simp [hlt, hg _ v h1], h2⟩
  · intro v hv
    simp only [List.mem_map, List.mem_range] at hv
    obtain ⟨j, hj, rfl⟩ := hv
    obtain ⟨u, h1, h2, _⟩ := hall j hj
    rw [hg j u h1]; exact h2
  · intro j v hv
    simp only [List.getElem?_map] at hv
    by_cases hj : j < ys.length * sz
    · rw [List.getElem?_range hj] at hv
      simp only [Option.map_some, Option.some.injEq] at hv
      obtain ⟨u, h1, _, _⟩ := hall j hj
      rw [hg j u h1] at hv; subst hv; exact h1
    · rw [List.getElem?_eq_none (by simp; omega)] at hv; simp at hv

theorem RD.one {ι : Nat → Nat → Option Value} {x : V} {v : Value} (h : RD ι x v) : v.oneCell' = true := by
  cases h with
  | sc v h => exact h
  | list sz xs a cap b o val h1 h2 h3 h4 h5 => rfl

theorem elems_at {P : Program} {Δ : WT} {w : World} {b o sz : Nat} {ys : List (List V)} {cap : Nat} {a : Option Addr} (hrow : ∀ x ∈ ys, x.length = sz) (ha : ys ≠ [] → a = some (at_ b o))
    (hc : ∀ i k x y, ys[i]? = some x → x[k]? = some y → ∃ v, w.cell? (at_ b (o + (i * sz + k))) = some v ∧ RD Δ.ι y v) : Elems P Δ w (.slice a ys.length cap) sz ys := by
  refine ⟨fun w2 => rfl, ?_⟩
  obtain ⟨arr, h1, h2, h3, h4⟩ := rows_array (ι := Δ.ι) hrow (fun j => w.cell? (at_ b (o + j))) (fun i k x y hx hy => by
    obtain ⟨v, g1, g2⟩ := hc i k x y hx hy
    exact ⟨v, g1, g2, g2.one⟩)
  refine ⟨arr, h1, h2, h3, fun w2 hw => ?_⟩
  by_cases hn : ys = []
  · subst hn
    have : arr = #[] := by simpa using h1
    subst this
    cases a with
    | none => rfl
    | some a => simp [Builtin.firstCells, loadCells, loadCellsFrom]
  · rw [ha hn]
    simp only [Builtin.firstCells]
    rw [run_loadCells P w2 b o (ys.length * sz) arr.toList (by simpa using h1) (fun j v hv => by rw [cell_heap hw]; exact h4 j v hv)]

/-- The elements of what is appended. -/
theorem rowsOf_sound {P : Program} {x : V} {ys : List (List V)} {is is' : List Nat} {h h' : H} (e : (rowsOf x).runAt is h = some (ys, is', h')) {Δ : WT} {w : World} (inv : Inv Δ h w) {xv : Value} (hx : Rep Δ x xv) {sz : Nat} (hrow : ∀ y ∈ ys, y.length = sz) : is' = is ∧ h' = h ∧ Elems P Δ w xv sz ys := by
  unfold rowsOf at e
  split at e
  · rename_i sz' xs tk
    obtain ⟨rfl, rfl, rfl⟩ := runAt_ret e
    refine ⟨rfl, rfl, ?_⟩
    cases hx with
    | list _ _ _ _ hd ht =>
      obtain ⟨a, cap, b, o, rfl, hR, hb, hc⟩ := hd.list_inv
      refine elems_at hrow hb (fun i k x y hx hy => ?_)
      obtain ⟨v, hv, hr⟩ := hR.2 i k x y hx hy
      have hs : sz' = sz := (hR.1 x (List.mem_of_getElem? hx)).symm.trans (hrow x (List.mem_of_getElem? hx))
      rw [← hs, ← Nat.add_assoc]
      exact ⟨v, inv.ι _ _ _ hv, hr⟩
  · obtain ⟨rfl, rfl, rfl⟩ := runAt_ret e
    refine ⟨rfl, rfl, ?_⟩
    cases hx
    exact elems_at (b := 0) (o := 0) hrow (fun k => absurd rfl k) (fun i k x y hx => by simp at hx)
  · rename_i id ver sz' off len
    obtain ⟨ob, ho, e⟩ := runAt_get e
    split at e
    · rename_i ver' wm sz'' xs
      split at e
      · rename_i hk
        obtain ⟨rfl, rfl, hle⟩ := hk
        obtain ⟨rfl, rfl, rfl⟩ := runAt_ret e
        refine ⟨rfl, rfl, ?_⟩
        cases hx with
        | sl _ _ _ _ _ b cap S hp hσ hcS hc =>
          obtain ⟨hν, b', S', hμ, hσ', hB, hS, hrw, hcell, _⟩ := inv.ob id _ ho
          have hb := hp.μ hν
          rw [hμ] at hb; cases hb
          have hlen : ((xs.drop off).take len).length = len := by simp; omega
          have := elems_at (P := P) (Δ := Δ) (w := w) (b := b) (o := off * sz') (cap := cap) hrow (fun _ => rfl) (fun i k x y hx hy => by
            have hi : i < len := by have := (List.getElem?_eq_some_iff.1 hx).1; omega
            rw [List.getElem?_take, if_pos hi, List.getElem?_drop] at hx
            obtain ⟨v, hv, hr⟩ := hcell _ k x y hx hy
            have hs : sz' = sz := (hrw x (List.mem_of_getElem? hx)).symm.trans (hrow x (by
              apply List.mem_of_getElem? (i := i); rw [List.getElem?_take, if_pos hi, List.getElem?_drop]; exact hx))
            refine ⟨v, ?_, hr⟩
            rw [← hv, ← hs]; congr 2; rw [Nat.add_mul]; omega)
          rw [hlen] at this; exact this
      · exact (runAt_fail e).elim
    · exact (runAt_fail e).elim
  · rename_i s
    obtain ⟨rfl, rfl, rfl⟩ := runAt_ret e
    refine ⟨rfl, rfl, ?_⟩
    cases hx
    have hsz : s.size = s.data.size := rfl
    have hl : (s.data.toList.map fun b => [V.sc (.int .u8 b.toNat)]).length = s.size := by rw [hsz]; simp
    refine ⟨fun w2 => by rw [hl]; rfl, (s.data.map fun b => Value.int .u8 b.toNat), ?_, ⟨hrow, fun i k x y hx hy => ?_⟩, ?_, fun w2 hw => ?_⟩
    · rw [hl]
      by_cases h0 : s.size = 0
      · rw [h0, Nat.zero_mul]; rw [hsz] at h0; simpa using h0
      · have hpos : 0 < (s.data.toList.map fun b => [V.sc (.int .u8 b.toNat)]).length := by omega
        have := hrow _ (List.getElem_mem hpos)
        simp at this
        subst this; rw [hsz]; simp
    · have hs := hrow x (List.mem_of_getElem? hx)
      rw [List.getElem?_map] at hx
      cases hb : s.data.toList[i]? with
      | none => rw [hb] at hx; simp at hx
      | some c =>
        rw [hb] at hx; simp only [Option.map_some, Option.some.injEq] at hx; subst hx
        simp at hs; subst hs
        have hk : k = 0 := by have := (List.getElem?_eq_some_iff.1 hy).1; simpa using this
        subst hk; simp at hy; subst hy
        refine ⟨.int .u8 c.toNat, ?_, .sc _ rfl⟩
        have : s.data[i]? = some c := by simpa using hb
        simp [this]
    · intro v hv
      simp only [Array.toList_map, List.mem_map] at hv
      obtain ⟨c, _, rfl⟩ := hv; rfl
    · rw [hl]
      simp only [Builtin.firstCells, Sem.run_pure]
      congr 1
      have : s.extract 0 s.size = s := by simp
      rw [this]
  · exact (runAt_fail e).elim
end Go.Pv
/-
  append, continued
-/
set_option linter.unusedSimpArgs false
set_option linter.unusedVariables false
namespace Go.Pv
open Go

theorem Inv.drew {Δ : WT} {h : H} {w : World} (inv : Inv Δ h w) : Inv Δ h w.drew :=
  ⟨inv.ι, inv.σ, inv.N, fun id o ho => (inv.ob id o ho).keep (.refl _) rfl rfl (fun _ _ _ _ => ⟨rfl, fun _ => rfl⟩), inv.dis⟩
theorem Step.drew (Δ : WT) (h : H) (w : World) : Step Δ h w Δ h w.drew :=
  ⟨.refl _, rfl, rfl, rfl, Nat.le_refl _, fun _ _ _ => rfl, fun _ _ k => k, fun _ _ _ _ => rfl, fun _ r k => ⟨r, k⟩⟩

theorem growBy_le (n : Nat) : ∀ (r c : Nat), Builtin.growBy n r c ≤ max c (n + (n + 768) / 4)
  | 0, c => by simp [Builtin.growBy]; omega
  | r + 1, c => by
    rw [Builtin.growBy]
    split
    · omega
    · have := growBy_le n r (c + (c + 768) / 4); omega
theorem nextcap_le (n c : Nat) (h : c < n) : Builtin.nextslicecap n c ≤ 2 * n + 1000 := by
  unfold Builtin.nextslicecap
  split
  · omega
  · split
    · omega
    · have := growBy_le n 4 c; omega

theorem append_place {P : Program} {w : World} {argTypes : Array TypeId} {ty t0 t1 el : TypeId} {ty2 : TypeDesc} (h0 : argTypes[0]? = some t0) (hu : P.underlying t0 = some (.slice el)) (h1 : argTypes[1]? = some t1) (hu1 : P.underlying t1 = some ty2)
    (hni : ∀ k, ty2 ≠ .int k) (hel : elOk P el = true) {base : Option Addr} {len cap : Nat} {xv : Value} {ys : List (List V)} {arr : Array Value} (hlen : ∀ w2, (Builtin.lenOf xv).run P w2 = .ok ys.length w2)
    (harr : (Builtin.firstCells (P.cellsOf el) ys.length xv).run P w = .ok arr w) (hle : len + ys.length ≤ cap) {w' : World} (hst : ∀ a, base = some a → (storeCells (a.add (len * P.cellsOf el)) arr.toList).run P w = .ok () w') (hn : base = none → w' = w) :
    (Builtin.append_ argTypes ty #[.slice base len cap, xv]).run P w = .ok (.slice base (len + ys.length) cap) w' := by
  obtain ⟨i, z, hi, hz, hzs, hb⟩ := elOk_info hel
  have hm : (match ty2 with | .int _ => true | _ => false) = false := by cases ty2 <;> first | rfl | (exact absurd rfl (hni _))
  unfold Builtin.append_
  simp only [h0, h1, List.getElem?_toArray, List.getElem?_cons_zero, List.getElem?_cons_succ, Sem.run_bind, run_underlying hu, run_underlying hu1, Result.andThen_ok, run_sizeOf hi, Sem.run_pure, hm, Bool.false_eq_true, if_false, hlen, hle, if_true, Bool.not_false, harr]
  cases base with
  | none => rw [hn rfl]; simp
  | some a => simp only [Sem.run_bind, hst a rfl, Result.andThen_ok, Sem.run_pure]

theorem zeroCells_size (z : Array Value) (n : Nat) : (Builtin.zeroCells z n).size = n * z.size := by simp [Builtin.zeroCells]

theorem append_new {P : Program} {w : World} {argTypes : Array TypeId} {ty t0 t1 el : TypeId} {ty2 : TypeDesc} (h0 : argTypes[0]? = some t0) (hu : P.underlying t0 = some (.slice el)) (h1 : argTypes[1]? = some t1) (hu1 : P.underlying t1 = some ty2)
    (hni : ∀ k, ty2 ≠ .int k) (hel : elOk P el = true) {base : Option Addr} {len cap : Nat} {xv : Value} {ys : List (List V)} {arr old : Array Value} (hlen : ∀ w2, (Builtin.lenOf xv).run P w2 = .ok ys.length w2)
    (harr : (Builtin.firstCells (P.cellsOf el) ys.length xv).run P w.drew = .ok arr w.drew) (hold : (Builtin.firstCells (P.cellsOf el) len (.slice base len cap)).run P w.drew = .ok old w.drew)
    (hgt : ¬ len + ys.length ≤ cap) (hlim : len + ys.length < lim) :
    ∃ newCap rest, len + ys.length ≤ newCap ∧ rest.size = (newCap - (len + ys.length)) * P.cellsOf el ∧
    (Builtin.append_ argTypes ty #[.slice base len cap, xv]).run P w = .ok (.slice (some (at_ w.heap.size 0)) (len + ys.length) newCap) (w.drew.alloc (.cells (old ++ arr ++ rest) el)) := by
  obtain ⟨i, z, hi, hz, hzs, hb⟩ := elOk_info hel
  have hm : (match ty2 with | .int _ => true | _ => false) = false := by cases ty2 <;> first | rfl | (exact absurd rfl (hni _))
  unfold lim at hlim
  have hbytes : i.bytes ≤ 4096 := by simpa [Program.bytesOf, hi] using hb
  have hnext : ¬ Builtin.nextslicecap (len + ys.length) cap * i.bytes > 2 ^ 48 := by
    have h1 := nextcap_le (len + ys.length) cap (by omega)
    have h2 : Builtin.nextslicecap (len + ys.length) cap * i.bytes ≤ (2 * (len + ys.length) + 1000) * 4096 := Nat.mul_le_mul h1 hbytes
    have h3 : (2 * (len + ys.length) + 1000) * 4096 ≤ 2 ^ 48 := by omega
    omega
  have hbig : ¬ (((len + ys.length : Nat) : Int) > IntKind.i64.max ∧ (False ∨ i.bytes = 0)) := by
    have : IntKind.i64.max = 9223372036854775807 := by decide
    rw [this]; omega
  let q : Question := .appendCap (len + ys.length) cap el
  refine ⟨q.cut (w.tape w.drawn q), Builtin.zeroCells z.cells (q.cut (w.tape w.drawn q) - (len + ys.length)), by simp [q, Question.cut], by rw [zeroCells_size, hzs], ?_⟩
  unfold Builtin.append_
  simp only [h0, h1, List.getElem?_toArray, List.getElem?_cons_zero, List.getElem?_cons_succ, Sem.run_bind, run_underlying hu, run_underlying hu1, Result.andThen_ok, run_sizeOf hi, Sem.run_pure, hm, Bool.false_eq_true, if_false, hlen, hgt, run_typeInfo hi]
  rw [if_neg hbig]
  simp only [Sem.run_pure, Result.andThen_ok, Sem.run_bind, run_typeInfo hi]
  rw [if_neg hnext]
  simp only [Sem.run_pure, Result.andThen_ok, Sem.run_bind, run_choose, Question.forced, Bool.false_eq_true, if_false, run_typeInfo hi, run_askRoom]
  rw [show ({ w with drawn := w.drawn + 1 } : World) = w.drew from rfl]
  simp only [hold, Result.andThen_ok, Bool.not_false, if_true, harr, run_zeroValue hi hz, newRow, Sem.run_bind, run_newObj, Sem.run_pure]
  rfl
end Go.Pv
/-
  append, whole
-/
set_option linter.unusedSimpArgs false
set_option linter.unusedVariables false
namespace Go.Pv
open Go

theorem rowsIn_append {ι : Nat → Nat → Option Value} {sz : Nat} {xs ys : List (List V)} {old arr rest : Array Value} (h : RowsIn ι sz xs old) (k : RowsIn ι sz ys arr) (ho : old.size = xs.length * sz) (ha : arr.size = ys.length * sz) : RowsIn ι sz (xs ++ ys) (old ++ arr ++ rest) := by
  refine ⟨fun x hx => (List.mem_append.1 hx).elim (h.1 x) (k.1 x), fun i j x y hx hy => ?_⟩
  by_cases hi : i < xs.length
  · rw [List.getElem?_append_left hi] at hx
    obtain ⟨v, hv, hr⟩ := h.2 i j x y hx hy
    obtain ⟨_, _, hlt⟩ := row_lt h.1 hx hy
    refine ⟨v, ?_, hr⟩
    rw [Array.append_assoc, Array.getElem?_append_left (by omega)]; exact hv
  · rw [List.getElem?_append_right (by omega)] at hx
    obtain ⟨v, hv, hr⟩ := k.2 _ j x y hx hy
    obtain ⟨_, _, hlt⟩ := row_lt k.1 hx hy
    refine ⟨v, ?_, hr⟩
    have e : i * sz + j = xs.length * sz + ((i - xs.length) * sz + j) := by
      obtain ⟨d, rfl⟩ : ∃ d, i = xs.length + d := ⟨i - xs.length, by omega⟩
      rw [Nat.add_sub_cancel_left, Nat.add_mul]; omega
    rw [e, Array.append_assoc, Array.getElem?_append_right (by omega), ho, Nat.add_sub_cancel_left, Array.getElem?_append_left (by omega)]
    exact hv

theorem sizeOk_inv {P : Program} {e : TypeId} {n : Nat} (h : sizeOk P e n = true) : elOk P e = true ∧ n < lim := by simpa [sizeOk] using h
theorem set_same {h : H} {id : Nat} {o : Ob} (e : h[id]? = some o) : h.set id o = h := by
  apply List.ext_getElem?
  intro j
  rw [List.getElem?_set]
  split
  · rename_i k; subst k
    split
    · exact e.symm
    · rename_i hk; rw [List.getElem?_eq_none (by omega)]
  · rfl

structure AppArgs (P : Program) (argTypes : Array TypeId) (el : TypeId) : Prop where
  ok : ∃ t0 t1 ty2, argTypes[0]? = some t0 ∧ P.underlying t0 = some (.slice el) ∧ argTypes[1]? = some t1 ∧ P.underlying t1 = some ty2 ∧ ∀ k, ty2 ≠ .int k

/-- A slice that moves to a new block. -/
theorem app_fresh {P : Program} {argTypes : Array TypeId} {ty el : TypeId} (A : AppArgs P argTypes el) {Δ : WT} {h : H} {w : World} (inv : Inv Δ h w) {base : Option Addr} {cap : Nat} {xv : Value} {xs ys : List (List V)}
    (ES : Elems P Δ w (.slice base xs.length cap) (P.cellsOf el) xs) (E : Elems P Δ w xv (P.cellsOf el) ys) (hgt : ¬ xs.length + ys.length ≤ cap) (hel : elOk P el = true) (hlim : xs.length + ys.length < lim) :
    ∃ (vs : Array Value) (newCap : Nat), xs.length + ys.length ≤ newCap ∧ vs.size = newCap * P.cellsOf el ∧ RowsIn Δ.ι (P.cellsOf el) (xs ++ ys) vs ∧
      (Builtin.append_ argTypes ty #[.slice base xs.length cap, xv]).run P w = .ok (.slice (some (at_ w.heap.size 0)) (xs.length + ys.length) newCap) (w.drew.alloc (.cells vs el)) := by
  obtain ⟨t0, t1, ty2, h0, hu, h1, hu1, hni⟩ := A.ok
  obtain ⟨_, old, ho, hro, _, hfo⟩ := ES
  obtain ⟨hl, arr, ha, hra, _, hfa⟩ := E
  obtain ⟨newCap, rest, hc, hr, hrun⟩ := append_new (ty := ty) h0 hu h1 hu1 hni hel hl (hfa w.drew rfl) (hfo w.drew rfl) hgt hlim
  refine ⟨old ++ arr ++ rest, newCap, hc, ?_, rowsIn_append hro hra ho ha, hrun⟩
  simp only [Array.size_append, ho, ha, hr]
  obtain ⟨d, rfl⟩ : ∃ d, newCap = xs.length + ys.length + d := ⟨newCap - (xs.length + ys.length), by omega⟩
  rw [Nat.add_sub_cancel_left, ← Nat.add_mul, ← Nat.add_mul]

theorem app_empty {P : Program} {argTypes : Array TypeId} {ty el : TypeId} (A : AppArgs P argTypes el) (hel : elOk P el = true) {Δ : WT} {w : World} {base : Option Addr} {len cap : Nat} {xv : Value}
    (E : Elems P Δ w xv (P.cellsOf el) []) (hle : len ≤ cap) : (Builtin.append_ argTypes ty #[.slice base len cap, xv]).run P w = .ok (.slice base len cap) w := by
  obtain ⟨t0, t1, ty2, h0, hu, h1, hu1, hni⟩ := A.ok
  obtain ⟨hl, arr, ha, hra, _, hfa⟩ := E
  have : arr = #[] := by simpa using ha
  subst this
  have := append_place (ty := ty) h0 hu h1 hu1 hni hel (base := base) (len := len) (cap := cap) (ys := []) hl (hfa w rfl) (by simpa using hle) (w' := w) (fun a _ => rfl) (fun _ => rfl)
  simpa using this

/-- What an own or a lent slice of new elements is. -/
theorem app_fresh_ok {P : Program} {argTypes : Array TypeId} {ty el : TypeId} (A : AppArgs P argTypes el) {own : Bool} {Δ : WT} {h h' : H} {w : World} (inv : Inv Δ h w) {base : Option Addr} {cap : Nat} {xv : Value} {xs ys : List (List V)} {v : V} {is is' : List Nat}
    (e : (if sizeOk P el (xs.length + ys.length) = true then
      if own = true then HP.new (.arr 0 0 (P.cellsOf el) (xs ++ ys)) fun id => .ret (.sl id 0 (P.cellsOf el) 0 (xs.length + ys.length))
      else HP.new (.tail el (xs.length + ys.length)) fun id => .ret (.list (P.cellsOf el) (xs ++ ys) (.tail id)) else HP.fail).runAt is h = some (v, is', h'))
    (ES : Elems P Δ w (.slice base xs.length cap) (P.cellsOf el) xs) (E : Elems P Δ w xv (P.cellsOf el) ys) (hgt : ¬ xs.length + ys.length ≤ cap) :
    SemOk P (Builtin.append_ argTypes ty #[.slice base xs.length cap, xv]) Δ h w v h' := by
  split at e
  · rename_i hs
    obtain ⟨hel, hlim⟩ := sizeOk_inv hs
    obtain ⟨vs, newCap, hc, hsz, hR, hrun⟩ := app_fresh (ty := ty) A inv ES E hgt hel hlim
    split at e
    · obtain ⟨i, is1, rfl, hp, e⟩ := runAt_new e
      obtain ⟨rfl, rfl, rfl⟩ := runAt_ret e
      have hν := inv.ν_pad hp
      obtain ⟨Δ', i1, i2, i3⟩ := alloc_arr inv.drew (lt_of_get hp) 0 0 (P.cellsOf el) (xs ++ ys) newCap vs el (FrOk.zero _) hR hsz (by simpa using hc) (by omega)
      rw [List.length_append] at i3
      exact ⟨_, _, Δ', hrun, i1, (Step.drew Δ h w).trans i2, i3⟩
    · obtain ⟨i, is1, rfl, hp, e⟩ := runAt_new e
      obtain ⟨rfl, rfl, rfl⟩ := runAt_ret e
      have hν := inv.ν_pad hp
      obtain ⟨Δ', i1, i2, i3⟩ := alloc_tail inv.drew (lt_of_get hp) (P.cellsOf el) (xs ++ ys) newCap vs el (FrOk.zero _) hR hsz (by simpa using hc) (by omega)
      rw [List.length_append] at i1 i2 i3
      exact ⟨_, _, Δ', hrun, i1, (Step.drew Δ h w).trans i2, i3⟩
  · exact (runAt_fail e).elim

theorem appendV_ok {P : Program} {argTypes : Array TypeId} {ty el : TypeId} (A : AppArgs P argTypes el) {own : Bool} {s v : V} {ys : List (List V)} {is is' : List Nat} {h h' : H} (e : (appendV P own el s ys).runAt is h = some (v, is', h'))
    {Δ : WT} {w : World} (inv : Inv Δ h w) {sv xv : Value} (hs : Rep Δ s sv) (E : Elems P Δ w xv (P.cellsOf el) ys) (hel : elOk P el = true) : SemOk P (Builtin.append_ argTypes ty #[sv, xv]) Δ h w v h' := by
  unfold appendV at e
  simp only at e
  split at e
  · cases hs
    split at e
    · rename_i hy
      obtain rfl : ys = [] := by simpa using hy
      obtain ⟨rfl, rfl, rfl⟩ := runAt_ret e
      exact .pure inv (app_empty A hel E (Nat.le_refl _)) (.sc _)
    · rename_i hy
      have hy' : 0 < ys.length := List.length_pos_iff.2 (by simpa using hy)
      exact app_fresh_ok (xs := []) A inv e (elems_at (b := 0) (o := 0) (fun x hx => by simp at hx) (fun k => absurd rfl k) (fun i k x y hx => by simp at hx)) E (by show ¬ (0 + ys.length ≤ 0); omega)
  · rename_i sz' xs
    cases hs with
    | list _ _ _ _ hd ht =>
      obtain ⟨a, cap, b, o, rfl, hR, hb, hc⟩ := hd.list_inv
      obtain ⟨a', hcap⟩ := ht
      simp only [Value.slice.injEq] at hcap
      obtain ⟨_, _, rfl⟩ := hcap
      split at e
      · rename_i hy
        obtain rfl : ys = [] := by simpa using hy
        obtain ⟨rfl, rfl, rfl⟩ := runAt_ret e
        exact .pure inv (app_empty A hel E (Nat.le_refl _)) (.list _ _ _ _ hd ⟨_, rfl⟩)
      · rename_i hy
        have hy' : 0 < ys.length := List.length_pos_iff.2 (by simpa using hy)
        split at e
        · rename_i hsz; subst hsz
          exact app_fresh_ok A inv e (elems_at hR.1 hb (fun i k x y hx hy => by
            obtain ⟨v, hv, hr⟩ := hR.2 i k x y hx hy
            rw [← Nat.add_assoc]; exact ⟨v, inv.ι _ _ _ hv, hr⟩)) E (by omega)
        · exact (runAt_fail e).elim
  · rename_i sz' xs id
    obtain ⟨ob, ho, e1⟩ := runAt_get e
    clear e
    have e := e1
    clear e1
    split at e
    · rename_i bt n
      split at e
      · rename_i hk
        obtain ⟨hbt, rfl, rfl, hsok⟩ := hk
        have hbt' := hbt.symm
        subst hbt'
        obtain ⟨_, hlim⟩ := sizeOk_inv hsok
        have e := runAt_put e
        obtain ⟨rfl, rfl, rfl⟩ := runAt_ret e
        cases hs with
        | list _ _ _ _ hd ht =>
          obtain ⟨a, cap, b, o, rfl, hR, hb, hc⟩ := hd.list_inv
          obtain ⟨b2, o2, cap2, S, hcap, hp, hσ, hS⟩ := ht
          simp only [Value.slice.injEq] at hcap
          obtain ⟨rfl, _, rfl⟩ := hcap
          have hbo : xs ≠ [] → b2 = b ∧ o2 = o := fun k => by have := hb k; simpa [at_] using this
          have ES : Elems P Δ w (.slice (some (at_ b2 o2)) xs.length cap) (P.cellsOf el) xs := elems_at hR.1 hb (fun i k x y hx hy => by
            obtain ⟨v, hv, hr⟩ := hR.2 i k x y hx hy
            rw [← Nat.add_assoc]; exact ⟨v, inv.ι _ _ _ hv, hr⟩)
          by_cases hyn : ys = []
          · subst hyn
            refine ⟨_, w, Δ, app_empty A hel E hc, ?_, ?_, ?_⟩
            · simp only [List.length_nil, Nat.add_zero]; rw [set_same ho]; exact inv
            · simp only [List.length_nil, Nat.add_zero]; rw [set_same ho]; exact .refl _ _ _
            · simp only [List.append_nil]
              exact .list _ _ _ _ hd ⟨b2, o2, cap, S, rfl, hp, hσ, hS⟩
          · have hy' : 0 < ys.length := List.length_pos_iff.2 hyn
            by_cases hle : xs.length + ys.length ≤ cap
            · obtain ⟨t0, t1, ty2, h0, hu, h1, hu1, hni⟩ := A.ok
              obtain ⟨hl, arr, ha, hra, hone, hfa⟩ := E
              obtain ⟨Δ', hB, hlen, i1, i2, i3⟩ := grow_tail inv ho hp (fun k => by obtain ⟨rfl, rfl⟩ := hbo k; exact hR) hR.1 hra ha hle hσ hS hyn
              refine ⟨_, _, Δ', append_place (ty := ty) h0 hu h1 hu1 hni hel hl (hfa w rfl) hle (fun a' ha' => ?_) (fun k => by simp at k), i1, i2, i3⟩
              obtain rfl := Option.some.inj ha'
              rw [add_at]
              exact run_storeCells P w b2 _ S 0 arr.toList hB (by simpa using hlen) hone
            · obtain ⟨vs, newCap, hc', hsz, hR', hrun⟩ := app_fresh (ty := ty) A inv ES E hle hel hlim
              obtain ⟨hν, _⟩ := inv.ob id _ ho
              obtain ⟨Δ', i1, i2, i3⟩ := alloc_tail inv.drew (lt_of_get ho) (P.cellsOf el) (xs ++ ys) newCap vs el (FrOk.zero _) hR' hsz (by simpa using hc') (by rw [hν, List.length_append]; omega)
              rw [List.length_append] at i1 i2 i3
              exact ⟨_, _, Δ', hrun, i1, (Step.drew Δ h w).trans i2, i3⟩
      · exact (runAt_fail e).elim
    · exact (runAt_fail e).elim
  · rename_i id ver sz' off len
    obtain ⟨ob, ho, e1⟩ := runAt_get e
    clear e
    have e := e1
    clear e1
    split at e
    · rename_i ver' wm sz'' xs
      split at e
      · rename_i hk
        obtain ⟨rfl, rfl, rfl, rfl, hle, hwm, hsok⟩ := hk
        obtain ⟨_, hlim⟩ := sizeOk_inv hsok
        have e := runAt_put e
        obtain ⟨rfl, rfl, rfl⟩ := runAt_ret e
        cases hs with
        | sl _ _ _ _ _ b cap S hp hσ hcS hc =>
          obtain ⟨hν, b', S', hμ, hσ', hB', hS', hrow, hcell, _⟩ := inv.ob id _ ho
          have hbe := hp.μ hν
          rw [hμ] at hbe; cases hbe
          have htl : (xs.take len).length = len := by simp; omega
          have ES : Elems P Δ w (.slice (some (at_ b (0 * P.cellsOf el))) len cap) (P.cellsOf el) (xs.take len) := by
            have := elems_at (P := P) (Δ := Δ) (w := w) (b := b) (o := 0 * P.cellsOf el) (cap := cap) (ys := xs.take len) (sz := P.cellsOf el) (fun x hx => hrow x (List.mem_of_mem_take hx)) (fun _ => rfl) (fun i k x y hx hy => by
              rw [List.getElem?_take] at hx
              split at hx
              · obtain ⟨v, hv, hr⟩ := hcell i k x y hx hy
                rw [Nat.zero_mul, Nat.zero_add]; exact ⟨v, hv, hr⟩
              · simp at hx)
            rw [htl] at this; exact this
          by_cases hle2 : len + ys.length ≤ cap
          · obtain ⟨t0, t1, ty2, h0, hu, h1, hu1, hni⟩ := A.ok
            obtain ⟨hl, arr, ha, hra, hone, hfa⟩ := E
            obtain ⟨Δ', hB, hlen, i1, i2, i3⟩ := grow_arr inv ho hp hle hwm hra ha hle2 hσ (by rw [Nat.zero_add] at hcS; exact hcS)
            refine ⟨_, _, Δ', append_place (ty := ty) h0 hu h1 hu1 hni hel hl (hfa w rfl) hle2 (fun a' ha' => ?_) (fun k => by simp at k), i1, i2, by rw [Nat.zero_mul]; exact i3⟩
            obtain rfl := Option.some.inj ha'
            rw [add_at, Nat.zero_mul, Nat.zero_add]
            exact run_storeCells P w b _ S 0 arr.toList hB (by simpa using hlen) hone
          · have ES' : Elems P Δ w (.slice (some (at_ b (0 * P.cellsOf el))) (xs.take len).length cap) (P.cellsOf el) (xs.take len) := by rw [htl]; exact ES
            obtain ⟨vs, newCap, hc', hsz, hR', hrun⟩ := app_fresh (ty := ty) A inv ES' E (by rw [htl]; exact hle2) hel (by rw [htl]; exact hlim)
            rw [htl] at hrun hc'
            obtain ⟨Δ', i1, i2, i3⟩ := alloc_arr inv.drew (lt_of_get ho) (ver + 1) wm (P.cellsOf el) (xs.take len ++ ys) newCap vs el (FrOk.zero _) hR' hsz (by rw [List.length_append, htl]; exact hc') (by omega)
            rw [List.length_append, htl] at i3
            refine ⟨_, _, Δ', hrun, i1, (Step.drew Δ h w).trans i2, i3⟩
      · exact (runAt_fail e).elim
    · exact (runAt_fail e).elim
  · exact (runAt_fail e).elim
end Go.Pv
/-
  The other operations.
-/
set_option linter.unusedSimpArgs false
set_option linter.unusedVariables false
namespace Go.Pv
open Go

/-! ### Parts -/
theorem foldl_set (off : Nat) : ∀ (vs : List Value) (k : Nat) (cells : Array Value), off + k + vs.length ≤ cells.size →
    let r := (vs.zipIdx k).foldl (fun cs p => cs.setIfInBounds (off + p.2) p.1) cells
    r.size = cells.size ∧ ∀ j, r[j]? = if off + k ≤ j ∧ j < off + k + vs.length then vs[j - (off + k)]? else cells[j]?
  | [], k, cells, h => by
    refine ⟨rfl, fun j => ?_⟩
    rw [if_neg (by simp only [List.length_nil]; omega)]; rfl
  | v :: vs, k, cells, h => by
    simp only [List.length_cons] at h
    have ih := foldl_set off vs (k + 1) (cells.setIfInBounds (off + k) v) (by simp; omega)
    simp only [List.zipIdx_cons, List.foldl_cons]
    refine ⟨by rw [ih.1]; simp, fun j => ?_⟩
    rw [ih.2 j]
    by_cases e : j = off + k
    · subst e
      rw [if_neg (by omega), if_pos (by simp)]
      rw [Array.getElem?_setIfInBounds_self_of_lt (by omega)]; simp
    · rw [Array.getElem?_setIfInBounds_ne (by omega)]
      by_cases h2 : off + (k + 1) ≤ j ∧ j < off + (k + 1) + vs.length
      · rw [if_pos h2, if_pos (by simp; omega)]
        obtain ⟨d, rfl⟩ : ∃ d, j = off + (k + 1) + d := ⟨j - (off + (k + 1)), by omega⟩
        rw [show off + (k + 1) + d - (off + (k + 1)) = d from by omega, show off + (k + 1) + d - (off + k) = d + 1 from by omega, List.getElem?_cons_succ]
      · rw [if_neg h2, if_neg (by simp; omega)]

def PartsRep (Δ : WT) : List (Nat × V) → List (Nat × Value) → Prop
  | [], [] => True
  | (i, x) :: r, (j, v) :: s => i = j ∧ Rep Δ x v ∧ PartsRep Δ r s
  | _, _ => False
theorem parts_rep {C : Cx} {Δ : WT} (hg : GOk C Δ) {env : List V} {a : Act} (hr : RepL Δ env a.tmps.toList) : ∀ (ps : List (Nat × Operand)), PartsRep Δ (ps.map fun p => (p.1, ev C env p.2)) (ps.map fun p => (p.1, a.eval p.2))
  | [] => trivial
  | p :: ps => ⟨rfl, ev_rep hg hr p.2, parts_rep hg hr ps⟩
theorem fill_sound {Δ : WT} {place : Nat → Option (Nat × Nat)} : ∀ (ps : List (Nat × V)) (qs : List (Nat × Value)) (cells : List V) (arr : Array Value) (r : List V), fillV place cells ps = some r → PartsRep Δ ps qs → RepL Δ cells arr.toList →
    ∃ arr', Instr.fill place arr qs = some arr' ∧ RepL Δ r arr'.toList
  | [], [], cells, arr, r, e, _, hr => by simp only [fillV, Option.some.injEq] at e; subst e; exact ⟨arr, rfl, hr⟩
  | [], q :: qs, cells, arr, r, e, hp, hr => hp.elim
  | p :: ps, [], cells, arr, r, e, hp, hr => hp.elim
  | (i, x) :: ps, (j, v) :: qs, cells, arr, r, e, hp, hr => by
    obtain ⟨rfl, hx, hps⟩ := hp
    simp only [fillV] at e
    split at e
    · rename_i off size cs hpl hcs
      split at e
      · rename_i hlen
        cases ep : putAt cells off cs with
        | none => rw [ep] at e; simp at e
        | some c =>
          rw [ep] at e; simp only [Option.bind_some] at e
          obtain ⟨h1, h2, h3⟩ := putAt_some ep
          have hrc := csOf_rep hx hcs
          have hvs : v.cells.size = cs.length := by have := hrc.1; simpa using this.symm
          have hcl : arr.size = cells.length := by have := hr.1; simpa using this.symm
          obtain ⟨g1, g2⟩ := foldl_set off v.cells.toList 0 arr (by simp; omega)
          have hfold : v.cells.zipIdx.foldl (fun cs p => cs.setIfInBounds (off + p.2) p.1) arr = (v.cells.toList.zipIdx 0).foldl (fun cs p => cs.setIfInBounds (off + p.2) p.1) arr := by
            rw [← Array.foldl_toList]; simp
          have hnew : RepL Δ c ((v.cells.toList.zipIdx 0).foldl (fun cs p => cs.setIfInBounds (off + p.2) p.1) arr).toList := by
            refine ⟨(h2.trans hcl.symm).trans (g1.symm.trans Array.length_toList.symm), fun k y u hy hu => ?_⟩
            have hu' : ((v.cells.toList.zipIdx 0).foldl (fun cs p => cs.setIfInBounds (off + p.2) p.1) arr)[k]? = some u := by simpa using hu
            rw [g2 k] at hu'
            rw [h3 k] at hy
            simp only [Nat.add_zero, Array.length_toList] at hu'
            by_cases hk : off ≤ k ∧ k < off + cs.length
            · rw [if_pos hk] at hy
              rw [if_pos (by omega)] at hu'
              exact hrc.2 _ y u hy hu'
            · rw [if_neg hk] at hy
              rw [if_neg (by omega)] at hu'
              exact hr.2 _ y u hy (by simpa using hu')
          obtain ⟨arr', k1, k2⟩ := fill_sound ps qs c _ r e hps hnew
          refine ⟨arr', ?_, k2⟩
          rw [Instr.fill, hpl]
          simp only
          rw [if_neg (by simp; omega)]
          rw [← hfold] at k1
          exact k1
      · simp at e
    · simp at e

theorem run_mapM_sizeOf {P : Program} {w : World} (fs : Array Field) (hfs : ∀ f ∈ fs.toList, (P.info? f.type).isSome = true) :
    (fs.mapM fun (f : Field) => (do pure (f.offset, ← sizeOf f.type) : Sem (Nat × Nat))).run P w = .ok (fs.map fun f => (f.offset, P.cellsOf f.type)) w := by
  have key : ∀ (l : List Field), (∀ f ∈ l, (P.info? f.type).isSome = true) → (l.mapM fun (f : Field) => (do pure (f.offset, ← sizeOf f.type) : Sem (Nat × Nat))).run P w = .ok (l.map fun f => (f.offset, P.cellsOf f.type)) w := by
    intro l
    induction l with
    | nil => intro _; rfl
    | cons f l ih =>
      intro h
      obtain ⟨i, hi⟩ := Option.isSome_iff_exists.1 (h f (by simp))
      simp only [List.mapM_cons, Sem.run_bind, run_sizeOf hi, Result.andThen_ok, Sem.run_pure, ih (fun g hg => h g (by simp [hg])), List.map_cons]
  have h1 := key fs.toList hfs
  have h2 := Array.mapM_eq_mapM_toList (m := Sem) (f := fun (f : Field) => (do pure (f.offset, ← sizeOf f.type) : Sem (Nat × Nat))) (xs := fs)
  rw [h2, map_eq_pure_bind, Sem.run_bind, h1]
  simp only [Result.andThen_ok, Sem.run_pure]
  congr 1
  apply Array.ext'
  simp

theorem zero_rep {P : Program} {t : TypeId} {z : List V} (hz : zeroV P t = some z) (Δ : WT) : ∃ v, (∀ w, (zeroValue t).run P w = .ok v w) ∧ RepL Δ z v.cells.toList ∧ z = v.cells.toList.map .sc := by
  obtain ⟨i, v, hi, hv, rfl⟩ := zeroV_some hz
  exact ⟨v, fun w => run_zeroValue hi hv, RepL.scs _ _, rfl⟩
theorem RepL.toAgg {Δ : WT} {cs : List V} {vs : Array Value} (h : RepL Δ cs vs.toList) : Rep Δ (.agg cs) (.agg vs) :=
  .agg _ _ (by have := h.1; simpa using this.symm) (fun i x v hx hv => h.2 i x v hx (by simpa using hv))

theorem build_struct_ok {P : Program} {t : TypeId} {z r : List V} {pl : Array (Nat × Nat)} (hz : zeroV P t = some z) (hpl : fieldPlaces P t = some pl) {ps : List (Nat × V)} {qs : Array (Nat × Value)} (hf : fillV (pl[·]?) z ps = some r) {Δ : WT} {h : H} {w : World} (inv : Inv Δ h w)
    (hp : PartsRep Δ ps qs.toList) : SemOk P (Instr.build t qs) Δ h w (.agg r) h := by
  obtain ⟨fs, hu, rfl, hfs⟩ := fieldPlaces_some hpl
  obtain ⟨v, hv, hrz, _⟩ := zero_rep hz Δ
  obtain ⟨arr, h1, h2⟩ := fill_sound ps qs.toList z v.cells r hf hp hrz
  refine .pure inv (val := .agg arr) ?_ h2.toAgg
  simp only [Instr.build, Sem.run_bind, hv w, Result.andThen_ok, run_underlying hu, run_mapM_sizeOf fs hfs, h1, Sem.run_pure]
theorem build_array_ok {P : Program} {t el : TypeId} {n : Nat} {z r : List V} (hz : zeroV P t = some z) (hu : P.underlying t = some (.array n el)) {i : TypeInfo} (hi : P.info? el = some i) {ps : List (Nat × V)} {qs : Array (Nat × Value)}
    (hf : fillV (fun i => some (i * P.cellsOf el, P.cellsOf el)) z ps = some r) {Δ : WT} {h : H} {w : World} (inv : Inv Δ h w) (hp : PartsRep Δ ps qs.toList) : SemOk P (Instr.build t qs) Δ h w (.agg r) h := by
  obtain ⟨v, hv, hrz, _⟩ := zero_rep hz Δ
  obtain ⟨arr, h1, h2⟩ := fill_sound ps qs.toList z v.cells r hf hp hrz
  refine .pure inv (val := .agg arr) ?_ h2.toAgg
  simp only [Instr.build, Sem.run_bind, hv w, Result.andThen_ok, run_underlying hu, run_sizeOf hi, h1, Sem.run_pure]

/-! ### Slices of given elements -/
theorem rowsBy_get (sz : Nat) : ∀ (n : Nat) (cs : List V), cs.length = n * sz → (∀ x ∈ rowsBy sz n cs, x.length = sz) ∧ (rowsBy sz n cs).length = n ∧ ∀ i k x y, (rowsBy sz n cs)[i]? = some x → x[k]? = some y → cs[i * sz + k]? = some y
  | 0, cs, h => ⟨fun x hx => by simp [rowsBy] at hx, rfl, fun i k x y hx => by simp [rowsBy] at hx⟩
  | n + 1, cs, h => by
    rw [Nat.add_mul] at h
    obtain ⟨h1, h2, h3⟩ := rowsBy_get sz n (cs.drop sz) (by simp; omega)
    refine ⟨fun x hx => ?_, by simp [rowsBy, h2], fun i k x y hx hy => ?_⟩
    · simp only [rowsBy, List.mem_cons] at hx
      rcases hx with rfl | hx
      · simp; omega
      · exact h1 x hx
    · cases i with
      | zero =>
        simp only [rowsBy, List.getElem?_cons_zero, Option.some.injEq] at hx; subst hx
        rw [List.getElem?_take] at hy
        split at hy
        · simpa using hy
        · simp at hy
      | succ i =>
        simp only [rowsBy, List.getElem?_cons_succ] at hx
        have := h3 i k x y hx hy
        rw [List.getElem?_drop] at this
        rw [Nat.add_mul, show i * sz + 1 * sz + k = sz + (i * sz + k) from by omega]; exact this
theorem rowsIn_by {Δ : WT} {sz n : Nat} {cs : List V} {arr : Array Value} (hl : cs.length = n * sz) (hr : RepL Δ cs arr.toList) (hd : cs.all isD = true) : RowsIn Δ.ι sz (rowsBy sz n cs) arr := by
  obtain ⟨h1, h2, h3⟩ := rowsBy_get sz n cs hl
  refine ⟨h1, fun i k x y hx hy => ?_⟩
  have hc := h3 i k x y hx hy
  have hlt : i * sz + k < cs.length := (List.getElem?_eq_some_iff.1 hc).1
  have hlt' : i * sz + k < arr.toList.length := by rw [← hr.1]; exact hlt
  refine ⟨arr.toList[i * sz + k], by rw [← Array.getElem?_toList]; exact List.getElem?_eq_getElem hlt', ?_⟩
  exact (hr.2 _ y _ hc (List.getElem?_eq_getElem hlt')).toD (List.all_eq_true.1 hd y (List.mem_of_getElem? hc))
theorem flatten_replicate (z : List V) (zs : Array Value) (hz : z = zs.toList.map .sc) (n : Nat) (i : Nat) : (List.replicate n z).flatten[i]? = ((Array.range (n * zs.size)).map (zs[· % zs.size]!))[i]?.map .sc := by
  have hlen : z.length = zs.size := by simp [hz]
  induction n generalizing i with
  | zero => simp
  | succ n ih =>
    rw [List.replicate_succ, List.flatten_cons]
    by_cases hi : i < z.length
    · rw [List.getElem?_append_left hi]
      have h1 : i < (n + 1) * zs.size := by rw [Nat.add_mul]; omega
      have h2 : i % zs.size = i := Nat.mod_eq_of_lt (by omega)
      have h3 : i < zs.size := by omega
      simp only [Array.getElem?_map, Array.getElem?_range, h1, if_true, Option.map_some, h2, hz, List.getElem?_map]
      simp [h3, Array.getElem?_eq_getElem h3]
    · rw [List.getElem?_append_right (by omega), ih]
      have hz0 : zs.size ≤ i := by omega
      have hmod : (i - z.length) % zs.size = i % zs.size := by rw [hlen, ← Nat.mod_eq_sub_mod hz0]
      by_cases h1 : i < (n + 1) * zs.size
      · have h2 : i - z.length < n * zs.size := by rw [Nat.add_mul] at h1; omega
        simp only [Array.getElem?_map, Array.getElem?_range, h1, h2, if_true, Option.map_some, hmod]
      · have h2 : ¬ i - z.length < n * zs.size := by rw [Nat.add_mul] at h1; omega
        simp only [Array.getElem?_map, Array.getElem?_range, h1, h2, if_false, Option.map_none]
theorem zeros_rep {P : Program} {el : TypeId} {z : List V} {v : Value} (Δ : WT) (hz : z = v.cells.toList.map .sc) (n : Nat) : RepL Δ (List.replicate n z).flatten ((Array.range (n * v.cells.size)).map (v.cells[· % v.cells.size]!)).toList := by
  have hfl := flatten_replicate z v.cells hz n
  have hlen : z.length = v.cells.size := by simp [hz]
  refine ⟨?_, fun i x u hx hu => ?_⟩
  · simp [List.length_flatten, hlen]
  · rw [hfl] at hx
    have hu' : ((Array.range (n * v.cells.size)).map (v.cells[· % v.cells.size]!))[i]? = some u := by rw [← Array.getElem?_toList]; exact hu
    rw [hu'] at hx
    simp only [Option.map_some, Option.some.injEq] at hx
    subst hx; exact .sc u
end Go.Pv
