/-
  Operations, with what the program's tables say of them, and what they make of an abstract state.
-/
import Derived.Test.YtchkfbfbhaldfaaAwCalls
import Derived.Test.YtchkfbfbhaldfaaAwMap
namespace Go.Aw
set_option linter.all false
open Go

def opdV (env : Env) (o : Operand) : Option AV :=
  match opd env o with
  | some x => if x.plain then some x else none
  | none => none

/-- A place in this local variable; or a value. -/
def opdL (env : Env) (l : Option Nat) (o : Operand) : Option AV :=
  match l with
  | none => opdV env o
  | some l => match opd env o with
    | some (.lp l' p) => if l' = l then some (.lp l' p) else none
    | _ => none

def opdVs (env : Env) : List Operand → Option (List AV)
  | [] => some []
  | o :: l => match opdV env o, opdVs env l with
    | some x, some r => some (x :: r)
    | _, _ => none

inductive SO where
  | mv (x : Operand)
  | pick (c a b : Operand)
  | bin (op : BinOp) (x y : Operand)
  | eq (neg : Bool) (k : EqK) (x y : Operand)
  | snil (neg : Bool) (x : Operand)
  | un (op : UnOp) (x : Operand)
  | cvi (k : IntKind) (x : Operand)
  | b2s (x : Operand)
  | s2b (x : Operand)
  | cvs (x : Operand)
  | ifc (t : TypeId) (x : Operand)
  | mkfn (f : Fn) (first cap : List Operand)
  | slc (esz : Nat) (x : Operand) (lo hi mx : Option Operand)
  | slcs (x : Operand) (lo hi : Option Operand)
  | fadr (l : Option Nat) (off : Nat) (x : Operand)
  | fld (off : Nat) (sz : Option Nat) (x : Operand)
  | iadr (l : Option Nat) (esz : Nat) (alen : Option Nat) (x i : Operand)
  | idxs (x i : Operand)
  | idxa (esz : Nat) (sz : Option Nat) (n : Nat) (x i : Operand)
  | cap (x : Operand)
  | bad
  | ext (i : Nat) (x : Operand)
  | len (str : Bool) (x : Operand)
  | mnx (mx : Bool) (x y : Operand)
  | nilck (l : Option Nat) (x : Operand)
  | bld (zero : List AV) (parts : List (Nat × Nat × Operand))
  | bsl (n esz : Nat) (zero : List AV) (parts : List (Nat × Nat × Operand))
  | ld (sz : Option Nat) (x : Operand)
  | lld (l : Nat) (sz : Option Nat) (x : Operand)
  | st (sz : Nat) (x v : Operand)
  | lst (l sz : Nat) (x v : Operand)
  | lalloc (zero : List AV)
  | lbox (x : Operand)
  | halloc (esz : Nat) (zero : List AV)
  | hbox (esz : Nat) (x : Operand)
  | fbox (x : Operand)
  | app (esz bytes : Nat) (x y : Operand)
  | clr (esz : Nat) (zero : List AV) (x : Operand)
  | mksl (esz bytes : Nat) (zero : List AV) (n c : Operand)
  | hbs (n esz : Nat) (zero : List AV) (parts : List (Nat × Nat × Operand))
  | cvm (x : Operand)
  | apz (esz bytes : Nat) (zero : List AV) (x n : Operand)
  | mkm
  | lku (m : MK) (ok : Bool) (zero : AV) (x key : Operand)
  | mup (m : MK) (x key v : Operand)
  | call (f : FuncId) (args : List Operand)
  | callv (x : Operand) (args : List Operand)
  deriving Inhabited

structure SOp where
  dst : Option Nat
  op : SO
  gd : Option (Nat × Bool) := none
  /-- what is loaded ahead of a call, and must be so behind it -/
  rc : List (Nat × SO × Option (Nat × Bool)) := []
  deriving Inhabited

def rep {α : Type} (l : List α) : Nat → List α
  | 0 => []
  | n + 1 => l ++ rep l n

def optOpd (env : Env) : Option Operand → Option (Option AV)
  | none => some none
  | some o => (opdV env o).map some

/-- Cells, some of them laid anew. -/
def setAll : List AV → Nat → List AV → List AV
  | cells, _, [] => cells
  | cells, o, x :: l => setAll (cells.set o x) (o + 1) l

def AV.sto : AV → Bool
  | .agg _ => true
  | x => x.isOne

def bldAv (env : Env) : List AV → List (Nat × Nat × Operand) → Option (List AV)
  | cells, [] => some cells
  | cells, (off, sz, o) :: r => match opdV env o with
    | some x => if x.sto = true ∧ x.cells.length = sz ∧ off + sz ≤ cells.length then bldAv env (setAll cells off x.cells) r else none
    | none => none

def byteAv : AV → Option UInt8
  | .i .u8 n => some (UInt8.ofNat n.toNat)
  | _ => none

def bytesAv : List AV → Option (List UInt8)
  | [] => some []
  | x :: l => match byteAv x, bytesAv l with
    | some b, some r => some (b :: r)
    | _, _ => none

def byteCells (l : List UInt8) : List AV := l.map fun b => .i .u8 b.toNat

def nilckAv : AV → Option AV
  | .ptr id o => some (.ptr id o)
  | .fptr c => some (.fptr c)
  | .lp l o => some (.lp l o)
  | _ => none

def wrapAv (k : IntKind) : AV → Option AV
  | .i _ n => some (.i k (k.wrap n))
  | _ => none

def mnxAv (mx : Bool) : AV → AV → Option AV
  | .i k a, .i _ b => some (.i k (if mx then (if b > a then b else a) else (if b < a then b else a)))
  | _, _ => none

def pickAv : AV → Option AV → Option AV → Option AV
  | .b c, x, y => if c then x else y
  | _, _, _ => none

/-- What an operation yields that changes nothing. -/
def pev (o : SO) (env : Env) (L : Loc) (T : Tab) : Option AV :=
  match o with
  | .mv x => opdV env x
  | .pick c x y => (opdV env c).bind fun c => pickAv c (opdV env x) (opdV env y)
  | .bin op x y => (opdV env x).bind fun x => (opdV env y).bind fun y => binAv op x y
  | .eq neg k x y => (opdV env x).bind fun x => (opdV env y).bind fun y => (eqAv k x y).map fun r => .b (if neg then !r else r)
  | .un op x => (opdV env x).bind (unAv op)
  | .cvi k x => (opdV env x).bind (wrapAv k)
  | .b2s x => (opdV env x).bind fun x => (slCells T 1 x).bind fun c => match x with
      | .s _ => none
      | _ => (bytesAv c).map .s
  | .cvs x => (opdV env x).bind fun x => match x with
      | .s l => some (.s l)
      | _ => none
  | .ifc t x => (opdV env x).map (.ifc t)
  | .mkfn f first cap => (opdVs env first).bind fun a => (opdVs env cap).map fun b => .fn f a b
  | .slc esz x lo hi mx => (opdV env x).bind fun x => (optOpd env lo).bind fun lo => (optOpd env hi).bind fun hi => (optOpd env mx).bind fun mx => slcAv esz T lo hi mx x
  | .slcs x lo hi => (opdV env x).bind fun x => (optOpd env lo).bind fun lo => (optOpd env hi).bind fun hi => slcStr lo hi x
  | .fadr l off x => (opdL env l x).bind (fadrAv off)
  | .fld off sz x => (opdV env x).bind (fldAv off sz)
  | .iadr l esz alen x i => (opdL env l x).bind fun x => (opdV env i).bind fun i => iadrAv esz alen i x
  | .idxs x i => (opdV env x).bind fun x => (opdV env i).bind fun i => idxStr i x
  | .idxa esz sz n x i => (opdV env x).bind fun x => (opdV env i).bind fun i => idxAv esz sz n i x
  | .cap x => (opdV env x).bind capAv
  | .ext i x => (opdV env x).bind (extAv i)
  | .len str x => (opdV env x).bind (lenAv str)
  | .mnx mx x y => (opdV env x).bind fun x => (opdV env y).bind fun y => mnxAv mx x y
  | .nilck l x => (opdL env l x).bind nilckAv
  | .bld zero parts => (bldAv env zero parts).map .agg
  | .ld sz x => (opdV env x).bind (ldAv sz T)
  | .lld l sz x => (opdL env (some l) x).bind (lldAv l sz L)
  | _ => none

def eset (env : Env) (d : Option Nat) (x : AV) : Env :=
  match d with
  | some d => aset env d x
  | none => env

/-- May a function be entered? -/
def callable (P : Program) (f : FuncId) : Bool :=
  match P.funcs[f]? with
  | some fn => fn.name != "runtime.NumGoroutine" && fn.body.isSome
  | none => false

/-- What an operation yields that leaves variables and table as they are. -/
def vev (o : SO) (env : Env) (L : Loc) (T : Tab) : Option AV :=
  match o with
  | .s2b x => (opdV env x).bind fun x => match x with
    | .s l => some (.fz l.length (byteCells l) none)
    | _ => none
  | .bsl n _ zero parts => (bldAv env zero parts).map fun cells => .fz n cells (some n)
  | .fbox x => (opdV env x).bind fun v => if v.sto = true then some (.fptr v.cells) else none
  | o => pev o env L T

/-- An operation that may be left out: 'y' if it is done, 'n' if not. -/
def gdd {α : Type} (env : Env) (gd : Option (Nat × Bool)) (y n z : α) : α :=
  match gd with
  | none => y
  | some (s, want) => match aget env s with
    | some (.b x) => if x = want then y else n
    | some (.tup []) => n
    | _ => z

/-- Likewise, of one that may be left out. -/
def gvev (o : SO) (gd : Option (Nat × Bool)) (env : Env) (L : Loc) (T : Tab) : Option AV :=
  gdd env gd (vev o env L T) (some (.tup [])) none

def rcOk (env : Env) (L : Loc) (T : Tab) : List (Nat × SO × Option (Nat × Bool)) → Prop
  | [] => True
  | (d, o, gd) :: r => gvev o gd env L T = aget env d ∧ rcOk env L T r

/-- What an operation makes of the local variables. -/
def lev (o : SO) (d : Option Nat) (env : Env) (L : Loc) : Option (Env × Loc) :=
  match o with
  | .lalloc zero => d.map fun l => (aset (dropLp env l) l (.lp l 0), aset L l zero)
  | .lbox x => d.bind fun l => (opdV env x).bind fun v => if v.sto = true then some (aset (dropLp env l) l (.lp l 0), aset L l v.cells) else none
  | .lst l sz x v => (opdL env (some l) x).bind fun p => (opdV env v).bind fun y => match p with
    | .lp _ o => (aget L l).bind fun cells => if y.sto = true ∧ y.cells.length = sz ∧ o + sz ≤ cells.length then some (eset env d (.tup []), aset L l (stCells cells o y.cells)) else none
    | _ => none
  | _ => none

/-- What an operation makes of the table, and yields. -/
def tst (P : Program) (o : SO) (env : Env) (T : Tab) (k : AV → Tab → Prop) : Prop :=
  match o with
  | .halloc esz zero => ∀ id, T id = .unused → k (.ptr id 0) (T.put id (.row esz zero))
  | .hbox esz x => match opdV env x with
    | some v => v.sto = true ∧ ∀ id, T id = .unused → k (.ptr id 0) (T.put id (.row esz v.cells))
    | none => False
  | .st sz x v => match opdV env x, opdV env v with
    | some (.ptr id o), some y => match T id with
      | .row z cells => y.sto = true ∧ y.cells.length = sz ∧ o + sz ≤ cells.length ∧ k (.tup []) (T.put id (.row z (stCells cells o y.cells)))
      | _ => False
    | _, _ => False
  | .app esz bytes x y => match opdV env x, opdV env y with
    | some x, some y => appStep esz bytes T x y k
    | _, _ => False
  | .clr esz zero x => match opdV env x with
    | some (.fz 0 _ _) => k (.tup []) T
    | some (.sl id o n _) => match T id with
      | .row z cells => z = esz ∧ zero.length = esz ∧ o + n * esz ≤ cells.length ∧ k (.tup []) (T.put id (.row z (stCells cells o (rep zero n))))
      | _ => False
    | _ => False
  | .mksl esz bytes zero n c => match opdV env n, opdV env c with
    | some (.i _ j), some (.i _ q) => 0 ≤ j ∧ j ≤ q ∧ q.toNat * bytes ≤ 140737488355328 ∧ q ≤ 9223372036854775807 ∧ ∀ id, T id = .unused → k (.sl id 0 j.toNat none) (T.put id (.row esz (rep zero q.toNat)))
    | _, _ => False
  | .hbs n esz zero parts => match bldAv env zero parts with
    | some cells => ∀ id, T id = .unused → k (.sl id 0 n (some n)) (T.put id (.row esz cells))
    | none => False
  | .cvm x => match opdV env x with
    | some (.sl id o n cap) => match T id with
      | .row z cells => z = 1 ∧ o + n ≤ cells.length ∧ k (.fz n ((cells.drop o).take n) cap) (T.put id .unused)
      | _ => False
    | _ => False
  | .apz esz bytes zero x n => match opdV env x, opdV env n with
    | some (.fz 0 [] (some 0)), some (.i _ q) => 0 < q ∧ q.toNat * bytes ≤ 140737488355328 ∧ q ≤ 9223372036854775807 ∧ ∀ id, T id = .unused → k (.sl id 0 q.toNat none) (T.put id (.row esz (rep zero q.toNat)))
    | _, _ => False
  | .mkm => ∀ id, T id = .unused → k (.mp id) (T.put id (.mapo []))
  | .lku m ok zero x key => match opdV env x, opdV env key with
    | some (.mp id), some kv => match T id with
      | .mapo es => isKeyAv m kv = true ∧ match mget m kv es with
        | some (some v) => k (if ok then .tup [v, .b true] else v) T
        | some none => k (if ok then .tup [zero, .b false] else zero) T
        | none => False
      | _ => False
    | _, _ => False
  | .mup m x key v => match opdV env x, opdV env key, opdV env v with
    | some (.mp id), some kv, some y => match T id with
      | .mapo es => isKeyAv m kv = true ∧ (mget m kv es).isSome = true ∧ k (.tup []) (T.put id (.mapo (mput kv y es)))
      | _ => False
    | _, _, _ => False
  | .call f args => callable P f = true ∧ match opdVs env args with
    | some avs => ∃ S R, S.Nodup ∧ (∀ id ∈ S, T id ≠ .unused) ∧ ACalls P f (avs.map (frzv T S)) (kill T S) R ∧ ∀ v T', R v T' → k v T'
    | none => False
  | .callv x args => match opdV env x, opdVs env args with
    | some (.fn (.func f) first cap), some avs => callable P f = true ∧
        ∃ S R, S.Nodup ∧ (∀ id ∈ S, T id ≠ .unused) ∧ ACalls P f ((first ++ avs ++ cap).map (frzv T S)) (kill T S) R ∧ ∀ v T', R v T' → k v T'
    | _, _ => False
  | _ => False

inductive SOKind where
  | val | snil | leff | teff
  deriving DecidableEq

def SO.kind : SO → SOKind
  | .snil _ _ => .snil
  | .lalloc _ | .lbox _ | .lst _ _ _ _ => .leff
  | .halloc _ _ | .hbox _ _ | .st _ _ _ | .app _ _ _ _ | .clr _ _ _ | .call _ _ | .callv _ _ | .mksl _ _ _ _ _ | .hbs _ _ _ _ | .cvm _ | .apz _ _ _ _ _ | .mkm | .lku _ _ _ _ _ | .mup _ _ _ _ => .teff
  | _ => .val

def snilStep (neg : Bool) (x : Option AV) (k : AV → Prop) : Prop :=
  match x with
  | some (.fz n _ _) => if 0 < n then k (.b neg) else ∀ b, k (.b b)
  | some (.sl _ _ _ _) => k (.b neg)
  | _ => False

abbrev RC := List (Nat × SO × Option (Nat × Bool))

def ostep (P : Program) (o : SO) (d : Option Nat) (rc : RC) (K : Env → Loc → Tab → Prop) (env : Env) (L : Loc) (T : Tab) : Prop :=
  match o.kind with
  | .val => match vev o env L T with
    | some x => K (eset env d x) L T
    | none => False
  | .leff => match lev o d env L with
    | some (e, l) => K e l T
    | none => False
  | .teff => tst P o env T fun v T' => v.isLp = false → rcOk (eset env d v) L T' rc ∧ K (eset env d v) L T'
  | .snil => match o with
    | .snil neg x => snilStep neg (opdV env x) fun v => K (eset env d v) L T
    | _ => False

def isPure : SO → Bool
  | .snil _ _ | .s2b _ | .bsl _ _ _ _ | .lalloc _ | .lbox _ | .halloc _ _ | .hbox _ _ | .fbox _ | .st _ _ _ | .lst _ _ _ _ | .app _ _ _ _ | .clr _ _ _ | .mksl _ _ _ _ _ | .hbs _ _ _ _ | .cvm _ | .apz _ _ _ _ _ | .mkm | .lku _ _ _ _ _ | .mup _ _ _ _ | .call _ _ | .callv _ _ => false
  | _ => true

theorem ostep_pure {P : Program} {o : SO} (h : isPure o = true) (d : Option Nat) (rc : RC) (K : Env → Loc → Tab → Prop) (env : Env) (L : Loc) (T : Tab) :
    ostep P o d rc K env L T = match pev o env L T with
      | some x => K (eset env d x) L T
      | none => False := by
  cases o <;> first
    | rfl
    | (simp [isPure] at h)

def gstep (P : Program) (o : SOp) (K : Env → Loc → Tab → Prop) (env : Env) (L : Loc) (T : Tab) : Prop :=
  match o.op.kind with
  | .val => match gvev o.op o.gd env L T with
    | some x => K (eset env o.dst x) L T
    | none => False
  | .leff => match gdd env o.gd (lev o.op o.dst env L) (some (eset env o.dst (.tup []), L)) none with
    | some (e, l) => K e l T
    | none => False
  | .teff => gdd env o.gd (tst P o.op env T fun v T' => v.isLp = false → rcOk (eset env o.dst v) L T' o.rc ∧ K (eset env o.dst v) L T')
      (rcOk (eset env o.dst (.tup [])) L T o.rc ∧ K (eset env o.dst (.tup [])) L T) False
  | .snil => gdd env o.gd (ostep P o.op o.dst o.rc K env L T) (K (eset env o.dst (.tup [])) L T) False

def opsG (P : Program) : List SOp → (Env → Loc → Tab → Prop) → Env → Loc → Tab → Prop
  | [], K => K
  | o :: l, K => gstep P o (opsG P l K)


/-! ### From the program's operations -/

/-- How the places that operations make are to be taken: which are local variables, which are never written, which temporaries point into which local variable. -/
structure Hint where
  locs : List Nat := []
  frz : List Nat := []
  lps : List (Nat × Nat) := []
  /-- the order of a region's operations, where it is drawn; what is loaded ahead of a call -/
  ord : List (Nat × List (Nat × List Nat)) := []
  /-- what is still known behind a region; at a loop's head (by its first region) -/
  keep : List (Nat × List Nat × List Nat) := []
  lkeep : List (Nat × List Nat × List Nat) := []

def cavs : List Value → Option (List AV)
  | [] => some []
  | v :: l => match cav v, cavs l with
    | some x, some r => some (x :: r)
    | _, _ => none

def zeroT (P : Program) (t : TypeId) : Option (List AV) := ((P.info? t).bind (·.zero)).bind fun z => cavs z.cells.toList
def zero1T (P : Program) (t : TypeId) : Option AV := ((P.info? t).bind (·.zero)).bind cav
def szT (P : Program) (t : TypeId) : Option Nat := (P.info? t).map (·.size)
def ldT (P : Program) (t : TypeId) : Option (Option Nat) :=
  match P.underlying t with
  | some (.struct _) | some (.array _ _) => (szT P t).map some
  | some _ => some none
  | none => none

def lpOf (H : Hint) : Operand → Option Nat
  | .tmp t => aget H.lps t
  | _ => none

/-- Where a struct's fields lie, and how many cells they have. -/
def placesT (P : Program) : List Field → Option (List (Nat × Nat))
  | [] => some []
  | f :: r => match szT P f.type, placesT P r with
    | some s, some l => some ((f.offset, s) :: l)
    | _, _ => none

def partsT (place : Nat → Option (Nat × Nat)) : List (Nat × Operand) → Option (List (Nat × Nat × Operand))
  | [] => some []
  | (i, x) :: r => match place i, partsT place r with
    | some (off, sz), some l => some ((off, sz, x) :: l)
    | _, _ => none

/-- A type whose values are some numbers, truths, texts: their kinds. -/
def flatFs (P : Program) (g : TypeId → Option (List SK)) : List Field → Nat → Option (List SK)
  | [], _ => some []
  | f :: r, off => if f.name != "_" && f.offset == off then match g f.type with
      | some ks => if szT P f.type = some ks.length then (flatFs P g r (off + ks.length)).map (ks ++ ·) else none
      | none => none
    else none

def flatK (P : Program) : Nat → TypeId → Option (List SK)
  | 0, _ => none
  | d + 1, t => match P.underlying t with
    | some (.int _) => some [.i]
    | some .bool => some [.b]
    | some .string => some [.s]
    | some (.struct fs) => if P.stoodInHeld t then none else flatFs P (flatK P d) fs.toList 0
    | _ => none

def u8T (P : Program) (t : TypeId) : Bool :=
  match P.underlying t with
  | some (.int .u8) => true
  | _ => false

def notInt : TypeDesc → Bool
  | .int _ => false
  | _ => true

def isConst : Operand → Bool
  | .const _ => true
  | _ => false

def trOp (P : Program) (H : Hint) (o : Oper) : Option SO :=
  match o.op with
  | .move x | .assign x => some (.mv x)
  | .pick c x y => some (.pick c x y)
  | .alloc t => (zeroT P t).bind fun z => (szT P t).bind fun n => if (o.dst.map (H.locs.contains ·)).getD false then some (.lalloc z) else some (.halloc n z)
  | .box t v => (szT P t).map fun n => if (o.dst.map (H.locs.contains ·)).getD false then .lbox v else if (o.dst.map (H.frz.contains ·)).getD false then .fbox v else .hbox n v
  | .build t ps => (zeroT P t).bind fun z => match P.underlying t with
    | some (.struct fs) => (placesT P fs.toList).bind fun pl => (partsT (fun i => pl[i]?) ps.toList).map (.bld z)
    | some (.array _ e) => (szT P e).bind fun s => (partsT (fun i => some (i * s, s)) ps.toList).map (.bld z)
    | _ => none
  | .buildSlice t n ps => match P.underlying t with
    | some (.slice e) => (zeroT P e).bind fun z => (szT P e).bind fun s => if n * s ≤ 2 ^ 24 ∧ z.length = s then (partsT (fun i => some (i * s, s)) ps.toList).map (if (o.dst.map (H.frz.contains ·)).getD false then .hbs n s (rep z n) else .bsl n s (rep z n)) else none
    | _ => none
  | .load t x => (ldT P t).map fun sz => match lpOf H x with
    | some l => .lld l sz x
    | none => .ld sz x
  | .store t x v => (szT P t).map fun sz => match lpOf H x with
    | some l => .lst l sz x v
    | none => .st sz x v
  | .nilCheck x => some (.nilck (lpOf H x) x)
  | .binOp op t x y _ => match P.underlying t with
    | some (.int _) | some .string => some (.bin op x y)
    | some .bool => match op with
      | .eql => some (.eq false .bool x y)
      | .neq => some (.eq true .bool x y)
      | _ => none
    | some (.pointer _) => match op with
      | .eql => some (.eq false .ptr x y)
      | .neq => some (.eq true .ptr x y)
      | _ => none
    | some (.interface _) => if isConst x || isConst y then (match op with
      | .eql => some (.eq false .ifc x y)
      | .neq => some (.eq true .ifc x y)
      | _ => none) else none
    | some (.slice _) => match x, y, op with
      | x, .const (.slice none _ _), .eql => some (.snil false x)
      | x, .const (.slice none _ _), .neq => some (.snil true x)
      | _, _, _ => none
    | some (.struct _) => if P.eqGuardType P.depth t then none else (flatK P 20 t).bind fun ks => match op with
      | .eql => some (.eq false (.agg ks) x y)
      | .neq => some (.eq true (.agg ks) x y)
      | _ => none
    | _ => none
  | .unOp op _ x => some (.un op x)
  | .convert s d x => match P.underlying d with
    | some (.int k) => if (P.underlying s).isSome then some (.cvi k x) else none
    | some .string => match P.underlying s with
      | some (.slice e) => if u8T P e then some (.b2s x) else none
      | some .string => some (.cvs x)
      | _ => none
    | some (.slice e) => match P.underlying s with
      | some .string => if u8T P e then some (.s2b x) else none
      | some (.slice _) => if u8T P e && s == d then some (.cvm x) else none
      | _ => none
    | _ => none
  | .makeInterface t x => match P.underlying t with
    | some (.interface _) | none => none
    | _ => some (.ifc t x)
  | .makeFunc f first cap => some (.mkfn f first.toList cap.toList)
  | .slice t x lo hi mx => match P.underlying t with
    | some (.slice e) => (szT P e).map fun s => .slc s x lo hi mx
    | some .string => if mx.isNone then some (.slcs x lo hi) else none
    | _ => none
  | .fieldAddr s x f => match P.underlying s with
    | some (.struct fs) => (fs[f]?).bind fun f => match szT P f.type with
      | some (_ + 1) => some (.fadr (lpOf H x) f.offset x)
      | _ => none
    | _ => none
  | .field s x f => match P.underlying s with
    | some (.struct fs) => (fs[f]?).bind fun f => (ldT P f.type).map fun sz => .fld f.offset sz x
    | _ => none
  | .indexAddr t x i => match P.underlying t with
    | some (.slice e) => (szT P e).map fun s => .iadr (lpOf H x) s none x i
    | some (.array n e) => (szT P e).map fun s => .iadr (lpOf H x) s (some n) x i
    | _ => none
  | .index t x i => match P.underlying t with
    | some .string => some (.idxs x i)
    | some (.array n e) => (szT P e).bind fun s => (ldT P e).map fun l => .idxa s l n x i
    | _ => none
  | .panic _ => some .bad
  | .makeSlice t n c => match P.underlying t with
    | some (.slice e) => (P.info? e).bind fun i => (zeroT P e).bind fun z => if z.length = i.size then some (.mksl i.size i.bytes z n c) else none
    | _ => none
  | .makeMap _ r => if r.isNone then some .mkm else none
  | .lookup t x i ok => match P.underlying t with
    | some (.map kt e) => (P.underlying kt).bind fun d => (MK.ofDesc d).bind fun m => (zero1T P e).map fun z => .lku m ok z x i
    | _ => none
  | .mapUpdate t m i v => match P.underlying t with
    | some (.map kt _) => (P.underlying kt).bind fun d => (MK.ofDesc d).map fun q => .mup q m i v
    | _ => none
  | .extract x i => some (.ext i x)
  | .call c => match c.callee with
    | .value (.func f) => if callable P f then some (.call f c.args.toList) else none
    | .value (.tmp t) => some (.callv (.tmp t) c.args.toList)
    | .builtin .len => match c.args.toList, c.argTypes.toList with
      | [x], [t] => match P.underlying t with
        | some (.slice _) => some (.len false x)
        | some .string => some (.len true x)
        | _ => none
      | _, _ => none
    | .builtin .cap => match c.args.toList, c.argTypes.toList with
      | [x], [t] => match P.underlying t with
        | some (.slice _) => some (.cap x)
        | _ => none
      | _, _ => none
    | .builtin .max => match c.args.toList with
      | [x, y] => some (.mnx true x y)
      | _ => none
    | .builtin .min => match c.args.toList with
      | [x, y] => some (.mnx false x y)
      | _ => none
    | .builtin .append => match c.args.toList, c.argTypes.toList with
      | [x, y], [t, tx] => match P.underlying t, P.underlying tx with
        | some (.slice e), some d => if notInt d then (P.info? e).bind fun i => i.zero.bind fun z => if z.cells.size = i.size ∧ 0 < i.size then some (.app i.size i.bytes x y) else none else (P.info? e).bind fun i => (zeroT P e).bind fun z => if z.length = i.size ∧ 0 < i.size then some (.apz i.size i.bytes z x y) else none
        | _, _ => none
      | _, _ => none
    | .builtin .clear => match c.args.toList, c.argTypes.toList with
      | [x], [t] => match P.underlying t with
        | some (.slice e) => (zeroT P e).bind fun z => (szT P e).bind fun s => if z.length = s then some (.clr s z x) else none
        | _ => none
      | _, _ => none
    | _ => none
  | _ => none

end Go.Aw
