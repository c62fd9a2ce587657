/- From the model's code to the abstract machine's: types' sizes and places are looked up once. -/
import Derived.Test.YtlfmiplojpcklaaAxCore
namespace Go.Ax

def toA1 : Value → Option AVal
  | .bool b => some (.bool b)
  | .int k n => some (.int k n)
  | .string s => some (.str s)
  | .pointer none => some .nilPtr
  | .slice none 0 0 => some .nilSlice
  | .map none => some .nilMap
  | .nilFunc => some .nilFunc
  | .nilIface => some .nilIface
  | _ => none
def toA : Value → Option AVal
  | .agg cs => (cs.toList.mapM toA1).map .agg
  | .tuple vs => if vs.size = 0 then some und else none
  | v => toA1 v

noncomputable def compArg : Operand → Option Arg
  | .tmp t => some (.tmp (toP t))
  | .const v => (toA v).map .val
  | .func f => some (.val (.func (.func f) [] []))
  | .global _ => none
noncomputable def compArgs (xs : Array Operand) : Option (List Arg) := xs.toList.mapM compArg
noncomputable def compOpt : Option Operand → Option (Option Arg)
  | none => some none
  | some x => (compArg x).map some

section
variable (P : Program)
def tSize (t : TypeId) : Option Nat := (P.info? t).map (·.size)
def tZero (t : TypeId) : Option (List AVal) := (P.info? t).bind fun i => i.zero.bind fun z => (toA z).bind fun z => if (valCells z).all cellOk then some (valCells z) else none
def tAgg (t : TypeId) : Option Bool := (P.underlying t).map fun d => match d with | .struct _ => true | .array _ _ => true | _ => false
/-- How many cells where it is a struct or an array; none: one cell. -/
def tPart (t : TypeId) : Option (Option Nat) :=
  match tAgg P t, tSize P t with
  | some true, some n => some (some n)
  | some false, some _ => some none
  | _, _ => none
def tKey (t : TypeId) : Option Bool := match P.underlying t with | some (.int _) => some false | some .string => some true | _ => none
def tKind (t : TypeId) : Option Nat := match P.underlying t with | some .bool => some 0 | some (.int _) => some 1 | some .string => some 2 | _ => none
/-- A struct's fields, all of them numbers, strings, bools, one cell each, none nameless: '==' goes cell by cell. -/
def fieldKinds (i : Nat) : List Field → Option (List Nat)
  | [] => some []
  | f :: r => match tKind P f.type, tSize P f.type, fieldKinds (i + 1) r with
    | some k, some 1, some l => if f.name ≠ "_" ∧ f.offset = i then some (k :: l) else none
    | _, _, _ => none
def tPlain (t : TypeId) : Option (List Nat) :=
  match P.underlying t with
  | some (.struct fs) => if P.stoodInHeld t then none else fieldKinds P 0 fs.toList
  | _ => none

noncomputable def compParts (place : Nat → Option (Nat × Nat)) (ps : Array (Nat × Operand)) : Option (List (Nat × Nat × Arg)) :=
  ps.toList.mapM fun (i, x) => match place i, compArg x with | some (o, n), some a => some (o, n, a) | _, _ => none
noncomputable def structPlace (fs : Array Field) (i : Nat) : Option (Nat × Nat) :=
  match fs[i]? with
  | some f => (tSize P f.type).map fun n => (f.offset, n)
  | none => none

/-- append: of a slice's elements or a string's bytes; of so many noughts. -/
noncomputable def compAppend (e : TypeId) (d : TypeDesc) (a b : Arg) : Option XOp :=
  match P.info? e with
  | none => none
  | some i =>
    if (i.zero.map fun z => z.cells.size) = some i.size ∧ 0 < i.bytes then
      match d with
      | .int _ => (match tZero P e with | some z => if 0 < z.length ∧ z.length = i.size then some (.act (.appendZ i.size i.bytes z a b)) else none | none => none)
      | _ => some (.act (.append i.size i.bytes a b))
    else none
theorem compAppend_some {e : TypeId} {d : TypeDesc} {a b : Arg} {x : XOp} (h : compAppend P e d a b = some x) : ∃ i, P.info? e = some i ∧ (i.zero.map fun z => z.cells.size) = some i.size ∧ 0 < i.bytes ∧
    ((∃ k z, d = .int k ∧ tZero P e = some z ∧ 0 < z.length ∧ z.length = i.size ∧ x = .act (.appendZ i.size i.bytes z a b)) ∨ ((∀ k, d ≠ .int k) ∧ x = .act (.append i.size i.bytes a b))) := by
  unfold compAppend at h
  split at h
  · cases h
  · rename_i i hi
    split at h
    · rename_i hc
      refine ⟨i, hi, hc.1, hc.2, ?_⟩
      split at h
      · rename_i k
        split at h
        · rename_i z hz
          split at h
          · rename_i hl
            simp only [Option.some.injEq] at h
            exact .inl ⟨k, z, rfl, hz, hl.1, hl.2, h.symm⟩
          · cases h
        · cases h
      · rename_i hd
        simp only [Option.some.injEq] at h
        exact .inr ⟨fun k hk => hd k hk, h.symm⟩
    · cases h
@[simp] theorem compAppend_pure {e : TypeId} {d : TypeDesc} {a b : Arg} {p : XPure} : (compAppend P e d a b = some (.pure p)) = False := by
  refine eq_false fun h => ?_
  obtain ⟨i, _, _, _, ⟨k, z, _, _, _, _, hx⟩ | ⟨_, hx⟩⟩ := compAppend_some P h <;> cases hx
@[simp] theorem compAppend_read {e : TypeId} {d : TypeDesc} {a b : Arg} {p : XRead} : (compAppend P e d a b = some (.read p)) = False := by
  refine eq_false fun h => ?_
  obtain ⟨i, _, _, _, ⟨k, z, _, _, _, _, hx⟩ | ⟨_, hx⟩⟩ := compAppend_some P h <;> cases hx
@[simp] theorem compAppend_make {e : TypeId} {d : TypeDesc} {a b : Arg} {p : XMake} : (compAppend P e d a b = some (.make p)) = False := by
  refine eq_false fun h => ?_
  obtain ⟨i, _, _, _, ⟨k, z, _, _, _, _, hx⟩ | ⟨_, hx⟩⟩ := compAppend_some P h <;> cases hx
@[simp] theorem compAppend_call {e : TypeId} {d : TypeDesc} {a b f : Arg} {l : List Arg} : (compAppend P e d a b = some (.act (.call f l))) = False := by
  refine eq_false fun h => ?_
  obtain ⟨i, _, _, _, ⟨k, z, _, _, _, _, hx⟩ | ⟨_, hx⟩⟩ := compAppend_some P h <;> cases hx

noncomputable def compBuiltin (b : Builtin) (argTypes : Array TypeId) (args : Array Operand) : Option XOp :=
  match b, args.toList with
  | .len, [x] =>
    match (argTypes[0]?).bind P.underlying, compArg x with
    | some .string, some a => some (.pure (.lenStr a))
    | some (.slice _), some a => some (.pure (.len a))
    | some (.array n _), some _ => some (.pure (.lenArr n))
    | some (.map _ _), some a => some (.read (.lenMap a))
    | _, _ => none
  | .cap, [x] =>
    match (argTypes[0]?).bind P.underlying, compArg x with
    | some (.slice _), some a => some (.pure (.cap a))
    | _, _ => none
  | .append, [s, x] =>
    match (argTypes[0]?).bind P.underlying, (argTypes[1]?).bind P.underlying, compArg s, compArg x with
    | some (.slice e), some d, some a, some b => compAppend P e d a b
    | _, _, _, _ => none
  | .copy, [d, s] =>
    match (argTypes[0]?).bind P.underlying, compArg d, compArg s with
    | some (.slice e), some a, some b => (tSize P e).map fun n => .act (.copy n a b)
    | _, _, _ => none
  | .clear, [x] =>
    match (argTypes[0]?).bind P.underlying, compArg x with
    | some (.slice e), some a => (tZero P e).map fun z => .act (.clear z a)
    | _, _ => none
  | .delete, [m, k] =>
    match (argTypes[0]?).bind P.underlying, compArg m, compArg k with
    | some (.map kt _), some a, some b => (tKey P kt).map fun s => .act (.delete s a b)
    | _, _, _ => none
  | .max, _ => (compArgs args).map fun l => .pure (.maxs l)
  | .min, _ => (compArgs args).map fun l => .pure (.mins l)
  | _, _ => none

noncomputable def compOp : Op → Option XOp
  | .move x => (compArg x).map fun a => .pure (.move a)
  | .assign x => (compArg x).map fun a => .pure (.move a)
  | .pick c a b => match compArg c, compArg a, compArg b with | some c, some a, some b => some (.pure (.pick c a b)) | _, _, _ => none
  | .alloc e => (tZero P e).bind fun z => if z.all cellOk then some (.make (.alloc z)) else none
  | .box _ x => (compArg x).map fun a => .make (.box a)
  | .build t ps =>
    match P.underlying t, tZero P t with
    | some (.struct fs), some z => if fs.toList.all fun f => (tSize P f.type).isSome then (compParts (structPlace P fs) ps).map fun l => .pure (.build z l) else none
    | some (.array _ e), some z => match tSize P e with | some n => (compParts (fun i => some (i * n, n)) ps).map fun l => .pure (.build z l) | none => none
    | _, _ => none
  | .buildSlice t len ps =>
    match P.underlying t with
    | some (.slice e) =>
      match tSize P e, tZero P e with
      | some n, some z => if len * n ≤ 2 ^ 24 ∧ 0 < n ∧ z.length = n then (compParts (fun i => some (i * n, n)) ps).map fun l => .make (.buildSlice len n z l) else none
      | _, _ => none
    | _ => none
  | .load t a => match tPart P t, compArg a with | some n, some a => some (.read (.load n a)) | _, _ => none
  | .store t a x => match tSize P t, compArg a, compArg x with | some n, some a, some x => some (.act (.store n a x)) | _, _, _ => none
  | .nilCheck x => (compArg x).map fun a => .pure (.nilCheck a)
  | .binOp op t x y _ =>
    match compArg x, compArg y with
    | some a, some b =>
      (match op with
      | .eql =>
        match P.underlying t with
        | some (.int _) => some (.pure (.bin op a b))
        | some .string => some (.pure (.bin op a b))
        | some .bool => some (.pure (.eqNil 0 false a b))
        | some (.pointer _) => some (.pure (.eqNil 1 false a b))
        | some (.slice _) => some (.pure (.eqNil 2 false a b))
        | some (.map _ _) => some (.pure (.eqNil 3 false a b))
        | some (.func _ _ _) => some (.pure (.eqNil 4 false a b))
        | some (.struct _) => (tPlain P t).map fun ks => .pure (.eqCells ks false a b)
        | _ => none
      | .neq =>
        match P.underlying t with
        | some (.int _) => some (.pure (.bin op a b))
        | some .string => some (.pure (.bin op a b))
        | some .bool => some (.pure (.eqNil 0 true a b))
        | some (.pointer _) => some (.pure (.eqNil 1 true a b))
        | some (.slice _) => some (.pure (.eqNil 2 true a b))
        | some (.map _ _) => some (.pure (.eqNil 3 true a b))
        | some (.func _ _ _) => some (.pure (.eqNil 4 true a b))
        | some (.struct _) => (tPlain P t).map fun ks => .pure (.eqCells ks true a b)
        | _ => none
      | _ => some (.pure (.bin op a b)))
    | _, _ => none
  | .unOp op _ x => (compArg x).map fun a => .pure (.un op a)
  | .convert src dst x =>
    match P.underlying src, P.underlying dst, compArg x with
    | some _, some (.int k), some a => some (.pure (.conv k a))
    | some .string, some .string, some a => some (.pure (.str a))
    | some (.slice e), some .string, some a => (match P.underlying e with | some (.int .u8) => some (.read (.bytes a)) | _ => none)
    | some .string, some (.slice e), some a => (match P.underlying e with | some (.int .u8) => some (.act (.strBytes a)) | _ => none)
    | some (.slice _), some (.slice e), some a => (match src == dst, P.underlying e with | true, some (.int .u8) => some (.act (.mark a)) | _, _ => none)
    | _, _, _ => none
  | .makeInterface t x => match P.underlying t, compArg x with | some (.interface _), _ => none | some _, some a => some (.pure (.mkIface t a)) | _, _ => none
  | .makeFunc fn first cap => match compArgs first, compArgs cap with | some a, some b => some (.pure (.mkFunc fn a b)) | _, _ => none
  | .makeMap _ none => some (.make .makeMap)
  | .makeSlice t l c =>
    match P.underlying t with
    | some (.slice e) =>
      match P.info? e, tZero P e, compArg l, compArg c with
      | some i, some z, some a, some b => if i.bytes ≤ 1024 ∧ z.all cellOk then some (.make (.makeSlice i.size z a b)) else none
      | _, _, _, _ => none
    | _ => none
  | .slice t x lo hi mx =>
    match compArg x, compOpt lo, compOpt hi, compOpt mx with
    | some a, some l, some h, some m =>
      match P.underlying t with
      | some .string => if m.isSome then none else some (.pure (.sliceStr a l h))
      | some (.slice e) => (tSize P e).map fun n => .pure (.slice n a l h m)
      | _ => none
    | _, _, _, _ => none
  | .fieldAddr t x f =>
    match P.underlying t, compArg x with
    | some (.struct fs), some a => match fs[f]? with | some fd => (match tSize P fd.type with | some n => if n = 0 then none else some (.pure (.fieldAddr fd.offset a)) | none => none) | none => none
    | _, _ => none
  | .field t x f =>
    match P.underlying t, compArg x with
    | some (.struct fs), some a => match fs[f]? with | some fd => (tPart P fd.type).map fun n => .pure (.field fd.offset n a) | none => none
    | _, _ => none
  | .indexAddr t x i =>
    match P.underlying t, compArg x, compArg i with
    | some (.slice e), some a, some b => (tSize P e).map fun n => .pure (.indexAddr n a b)
    | some (.array k e), some a, some b => (tSize P e).map fun n => .pure (.indexAddrArr k n a b)
    | _, _, _ => none
  | .index t x i =>
    match P.underlying t, compArg x, compArg i with
    | some .string, some a, some b => some (.pure (.indexStr a b))
    | some (.array k e), some a, some b => match tSize P e, tPart P e with | some n, some q => some (.pure (.indexArr k n q a b)) | _, _ => none
    | _, _, _ => none
  | .lookup t x i ok =>
    match P.underlying t, compArg x, compArg i with
    | some (.map kt e), some a, some b =>
      match tKey P kt, (P.info? e).bind (·.zero) with | some s, some z => (toA z).map fun z => .read (.lookup s z ok a b) | _, _ => none
    | _, _, _ => none
  | .mapUpdate t m k v | .insert t m k v =>
    match P.underlying t, compArg m, compArg k, compArg v with
    | some (.map kt _), some a, some b, some c => (tKey P kt).map fun s => .act (.mapUpdate s a b c)
    | _, _, _, _ => none
  | .range t x => match P.underlying t, compArg x with | some .string, some a => some (.make (.iter a)) | _, _ => none
  | .next x true => (compArg x).map fun a => .act (.next a)
  | .extract x i => (compArg x).map fun a => .pure (.extract i a)
  | .call c =>
    match c.callee with
    | .value f => match compArg f, compArgs c.args with | some a, some l => some (.act (.call a l)) | _, _ => none
    | .builtin b => compBuiltin P b c.argTypes c.args
    | .invoke _ _ => none
  | _ => none

noncomputable def compOper (ops : Array Oper) (o : Oper) : Option XOper :=
  match compOp P o.op, o.guard with
  | some x, none => some ⟨o.dst.map toP, x, none⟩
  | some x, some (j, w) => match (ops[j]?).bind (·.dst) with | some d => some ⟨o.dst.map toP, x, some (toP d, w)⟩ | none => none
  | none, _ => none

/-! ### A region whose order is open -/
def directs (o : Oper) : List Nat := (o.after.toList.filter fun e => Region.binds .any e).map (·.on)
def isAct : XOp → Bool
  | .act _ => true
  | _ => false
def isMake : XOp → Bool
  | .make _ => true
  | _ => false
def optL : Option Arg → List Arg
  | some a => [a]
  | none => []
def pureArgs : XPure → List Arg
  | .move x => [x]
  | .pick c a b => [c, a, b]
  | .nilCheck x => [x]
  | .bin _ x y => [x, y]
  | .eqCells _ _ x y => [x, y]
  | .eqNil _ _ x y => [x, y]
  | .un _ x => [x]
  | .conv _ x => [x]
  | .str x => [x]
  | .field _ _ x => [x]
  | .extract _ x => [x]
  | .fieldAddr _ x => [x]
  | .indexAddr _ x i => [x, i]
  | .indexAddrArr _ _ x i => [x, i]
  | .slice _ x lo hi mx => x :: (optL lo ++ (optL hi ++ optL mx))
  | .sliceStr x lo hi => x :: (optL lo ++ optL hi)
  | .mkIface _ x => [x]
  | .mkFunc _ a b => a ++ b
  | .build _ ps => ps.map (·.2.2)
  | .indexStr x i => [x, i]
  | .indexArr _ _ _ x i => [x, i]
  | .len x => [x]
  | .lenStr x => [x]
  | .lenArr _ => []
  | .cap x => [x]
  | .maxs xs => xs
  | .mins xs => xs
def readArgs : XRead → List Arg
  | .load _ a => [a]
  | .lookup _ _ _ m k => [m, k]
  | .lenMap m => [m]
  | .bytes x => [x]
def makeArgs : XMake → List Arg
  | .alloc _ => []
  | .box x => [x]
  | .buildSlice _ _ _ ps => ps.map (·.2.2)
  | .makeMap => []
  | .makeSlice _ _ l c => [l, c]
  | .iter x => [x]
def actArgs : XAct → List Arg
  | .store _ a v => [a, v]
  | .append _ _ s x => [s, x]
  | .appendZ _ _ _ s n => [s, n]
  | .copy _ d s => [d, s]
  | .clear _ x => [x]
  | .mapUpdate _ m k v => [m, k, v]
  | .delete _ m k => [m, k]
  | .next x => [x]
  | .strBytes x => [x]
  | .mark x => [x]
  | .call f l => f :: l
def opArgs : XOp → List Arg
  | .pure p => pureArgs p
  | .read r => readArgs r
  | .make m => makeArgs m
  | .act a => actArgs a
def samePath : Path → Path → Bool
  | .here, .here => true
  | .go d p, .go e q => decide (d = e) && samePath p q
  | _, _ => false
theorem samePath_refl : ∀ p : Path, samePath p p = true
  | .here => rfl
  | .go d p => by simp [samePath, samePath_refl p]
/-- Does it look at this place? -/
def looks (q : Path) (o : XOper) : Bool :=
  (opArgs o.op).any (fun a => match a with | .tmp p => samePath p q | .val _ => false) || (match o.guard with | some (p, _) => samePath p q | none => false)
def apartX (u v : XOper) : Bool :=
  (match u.dst with | some d => !looks d v && (match v.dst with | some e => !samePath d e | none => true) | none => true) && (match v.dst with | some e => !looks e u | none => true)

abbrev Entry := Nat × XOper × List Nat
def goodPair (u v : Entry) : Bool := !Nat.beq u.1 v.1 && (hasN u.1 v.2.2 || (apartX u.2.1 v.2.1 && !(isAct u.2.1.op && (isAct v.2.1.op || isMake v.2.1.op))))
/-- Each stands behind whom it waits for; what need not wait for one another keeps apart. -/
def goodOrder (ops : Array Oper) : List Entry → List Entry → Bool
  | _, [] => true
  | seen, v :: r =>
    (match ops[v.1]? with
    | some o => (directs o).all (fun d => seen.any fun u => Nat.beq u.1 d) && v.2.2.all (fun p => (directs o).any (fun d => Nat.beq d p) || seen.any fun u => (directs o).any (fun d => Nat.beq d u.1) && hasN p u.2.2)
    | none => false) && seen.all (fun u => goodPair u v) && goodOrder ops (seen ++ [v]) r
def predsOf (ops : List Oper) : List (List Nat) :=
  ops.foldl (fun acc o => acc ++ [((directs o) ++ (directs o).flatMap fun j => acc.getD j []).eraseDups]) []
/-- An order in which acts come as late as may be. -/
def pickOrder (ok : List Nat → Nat → Bool) (act : Nat → Bool) : Nat → List Nat → List Nat → List Nat
  | 0, _, _ => []
  | n + 1, done, rest =>
    match (match rest.find? (fun i => ok done i && !act i) with | some i => some i | none => rest.find? (ok done)) with
    | some i => i :: pickOrder ok act n (i :: done) (rest.filter fun j => !Nat.beq j i)
    | none => []
noncomputable def drawList (ops : Array Oper) (l : List XOper) : List Entry :=
  let pre := predsOf ops.toList
  let ord := pickOrder (fun done i => match ops[i]? with | some o => (directs o).all fun d => hasN d done | none => false) (fun i => match l[i]? with | some x => isAct x.op | none => false) l.length [] (List.range l.length)
  ord.filterMap fun i => match l[i]?, pre[i]? with | some x, some p => some (i, x, p) | _, _ => none
noncomputable def drawOk (ops : Array Oper) (L : List Entry) : Bool := goodOrder ops [] L && (List.range ops.size).all fun i => L.any fun u => Nat.beq u.1 i

noncomputable def compCode : Code → XCode
  | .skip => .skip
  | .region _ ops draw =>
    match ops.toList.mapM (compOper P ops) with
    | none => .bad
    | some l => if draw then (if drawOk ops (drawList ops l) then .draw (drawList ops l) else .bad) else .ops l
  | .seq a b => .seq (compCode a) (compCode b)
  | .cond c a b => match compArg c with | some x => .cond x (compCode a) (compCode b) | none => .bad
  | .block id b => .block id (compCode b)
  | .loop b => .loop (compCode b)
  | .scope b => .scope (compCode b)
  | .label _ => .skip
  | .exit id => .exit id
  | .ret => .ret
  | _ => .bad

noncomputable def compResult : ResultVar → Option XResult
  | .tmp t => some (.tmp (toP t))
  | .cell a t => (tPart P t).map fun n => .cell (toP a) n

noncomputable def compFunc (f : Func) : Option XFunc :=
  match f.body, f.results.toList.mapM (compResult P) with
  | some c, some rs => if f.name == "runtime.NumGoroutine" then none else some ⟨f.ntmps, rs, compCode P c⟩
  | _, _ => none

noncomputable def XOf (known : Nat → Option (List AVal → Heap → Option (AVal × Heap))) (f : Nat) : Option XDef :=
  match known f with
  | some g => some (.known g)
  | none => (P.funcs[f]?).bind fun fn => (compFunc P fn).map .body
end
end Go.Ax
