import Derived.Test.YtchdmofoaokpjaaGreatDoorAwA
import Derived.Laws.StructEq
import Derived.Laws.Small
import Derived.Laws.Build
import Derived.Laws.BytesString
import Derived.Lib.ConvBytes
import Derived.Laws.MakeOwn
namespace Go.Aw
open Go
set_option linter.all false
variable [Glob]
def Z7 (env : Env) (o : Operand) : Option AV :=
 match opd env o with
 | some x => if x.plain then some x else none
 | none => none
def qiv (env : Env) (l : Option Nat) (o : Operand) : Option AV :=
 match l with
 | none => Z7 env o
 | some l => match opd env o with
  | some (.lp l' p) => if l' = l then some (.lp l' p) else none
  | _ => none
def q8f (env : Env) : List Operand -> Option (List AV)
 | [] => some []
 | o :: l => match Z7 env o, q8f env l with
  | some x, some r => some (x :: r)
  | _, _ => none
inductive SO where
 | mv (x : Operand)
 | pick (c a b : Operand)
 | bin (op : BinOp) (x y : Operand)
 | eq (neg : Bool) (k : EqK) (x y : Operand)
 | snil (neg : Bool) (x : Operand)
 | un (op : UnOp) (x : Operand)
 | cvi (k : IntKind) (x : Operand)
 | b2s (x : Operand)
 | s2b (x : Operand)
 | cvs (x : Operand)
 | ifc (t : TypeId) (x : Operand)
 | mkfn (f : Fn) (first cap : List Operand)
 | slc (esz : Nat) (x : Operand) (lo hi mx : Option Operand)
 | slcs (x : Operand) (lo hi : Option Operand)
 | fadr (l : Option Nat) (off : Nat) (x : Operand)
 | fld (off : Nat) (sz : Option Nat) (x : Operand)
 | iadr (l : Option Nat) (esz : Nat) (alen : Option Nat) (x i : Operand)
 | idxs (x i : Operand)
 | idxa (esz : Nat) (sz : Option Nat) (n : Nat) (x i : Operand)
 | cap (x : Operand)
 | bad
 | ext (i : Nat) (x : Operand)
 | len (str : Bool) (x : Operand)
 | mnx (mx : Bool) (x y : Operand)
 | nilck (l : Option Nat) (x : Operand)
 | bld (zero : List AV) (parts : List (Nat × Nat × Operand))
 | bsl (n esz : Nat) (zero : List AV) (parts : List (Nat × Nat × Operand))
 | ld (sz : Option Nat) (x : Operand)
 | lld (l : Nat) (sz : Option Nat) (x : Operand)
 | st (sz : Nat) (x v : Operand)
 | lst (l sz : Nat) (x v : Operand)
 | lalloc (zero : List AV)
 | lbox (x : Operand)
 | halloc (esz : Nat) (zero : List AV)
 | hbox (esz : Nat) (x : Operand)
 | fbox (x : Operand)
 | app (esz bytes : Nat) (x y : Operand)
 | clr (esz : Nat) (zero : List AV) (x : Operand)
 | mksl (esz bytes : Nat) (zero : List AV) (n c : Operand)
 | hbs (n esz : Nat) (zero : List AV) (parts : List (Nat × Nat × Operand))
 | cvm (x : Operand)
 | apz (esz bytes : Nat) (zero : List AV) (x n : Operand)
 | mkm
 | lku (m : MK) (ok : Bool) (zero : AV) (x key : Operand)
 | mup (m : MK) (x key v : Operand)
 | call (f : FuncId) (args : List Operand)
 | callv (x : Operand) (args : List Operand)
 deriving Inhabited
structure SOp where
 dst : Option Nat
 op : SO
 gd : Option (Nat × Bool) := none
 rc : List (Nat × SO × Option (Nat × Bool)) := []
 deriving Inhabited
def rep {α : Type} (l : List α) : Nat -> List α
 | 0 => []
 | n + 1 => l ++ rep l n
def q5f (env : Env) : Option Operand -> Option (Option AV)
 | none => some none
 | some o => (Z7 env o).map some
def qbq : List AV -> Nat -> List AV -> List AV
 | cells, _, [] => cells
 | cells, o, x :: l => qbq (cells.set o x) (o + 1) l
def AV.sto : AV -> Bool
 | .agg _ => true
 | x => x.isOne
def q97 (env : Env) : List AV -> List (Nat × Nat × Operand) -> Option (List AV)
 | cells, [] => some cells
 | cells, (off, sz, o) :: r => match Z7 env o with
  | some x => if x.sto = true /\ x.cells.length = sz /\ off + sz <= cells.length then q97 env (qbq cells off x.cells) r else none
  | none => none
def qpg : AV -> Option UInt8
 | .i .u8 n => some (UInt8.ofNat n.toNat)
 | _ => none
def q7v : List AV -> Option (List UInt8)
 | [] => some []
 | x :: l => match qpg x, q7v l with
  | some b, some r => some (b :: r)
  | _, _ => none
def K8 (l : List UInt8) : List AV := l.map fun b => .i .u8 b.toNat
def qh3 : AV -> Option AV
 | .ptr id o => some (.ptr id o)
 | .fptr c => some (.fptr c)
 | .lp l o => some (.lp l o)
 | _ => none
def qmx (k : IntKind) : AV -> Option AV
 | .i _ n => some (.i k (k.wrap n))
 | _ => none
def qx1 (mx : Bool) : AV -> AV -> Option AV
 | .i k a, .i _ b => some (.i k (if mx then (if b > a then b else a) else (if b < a then b else a)))
 | _, _ => none
def qph : AV -> Option AV -> Option AV -> Option AV
 | .b c, x, y => if c then x else y
 | _, _, _ => none
def pev (o : SO) (env : Env) (L : Loc) (T : Tab) : Option AV :=
 match o with
 | .mv x => Z7 env x
 | .pick c x y => (Z7 env c).bind fun c => qph c (Z7 env x) (Z7 env y)
 | .bin op x y => (Z7 env x).bind fun x => (Z7 env y).bind fun y => qrd op x y
 | .eq neg k x y => (Z7 env x).bind fun x => (Z7 env y).bind fun y => (qm1 k x y).map fun r => .b (if neg then !r else r)
 | .un op x => (Z7 env x).bind (z71 op)
 | .cvi k x => (Z7 env x).bind (qmx k)
 | .b2s x => (Z7 env x).bind fun x => (Z4 T 1 x).bind fun c => match x with
   | .s _ => none
   | _ => (q7v c).map .s
 | .cvs x => (Z7 env x).bind fun x => match x with
   | .s l => some (.s l)
   | _ => none
 | .ifc t x => (Z7 env x).map (.ifc t)
 | .mkfn f first cap => (q8f env first).bind fun a => (q8f env cap).map fun b => .fn f a b
 | .slc esz x lo hi mx => (Z7 env x).bind fun x => (q5f env lo).bind fun lo => (q5f env hi).bind fun hi => (q5f env mx).bind fun mx => qrh esz T lo hi mx x
 | .slcs x lo hi => (Z7 env x).bind fun x => (q5f env lo).bind fun lo => (q5f env hi).bind fun hi => qjt lo hi x
 | .fadr l off x => (qiv env l x).bind (qjr off)
 | .fld off sz x => (Z7 env x).bind (qv4 off sz)
 | .iadr l esz alen x i => (qiv env l x).bind fun x => (Z7 env i).bind fun i => qjs esz alen i x
 | .idxs x i => (Z7 env x).bind fun x => (Z7 env i).bind fun i => qmt i x
 | .idxa esz sz n x i => (Z7 env x).bind fun x => (Z7 env i).bind fun i => qv6 esz sz n i x
 | .cap x => (Z7 env x).bind qv7
 | .ext i x => (Z7 env x).bind (qv5 i)
 | .len str x => (Z7 env x).bind (qiu str)
 | .mnx mx x y => (Z7 env x).bind fun x => (Z7 env y).bind fun y => qx1 mx x y
 | .nilck l x => (qiv env l x).bind qh3
 | .bld zero parts => (q97 env zero parts).map .agg
 | .ld sz x => (Z7 env x).bind (z72 sz T)
 | .lld l sz x => (qiv env (some l) x).bind (qrg l sz L)
 | _ => none
def q06 (env : Env) (d : Option Nat) (x : AV) : Env :=
 match d with
 | some d => q96 env d x
 | none => env
def K4 (P : Program) (f : FuncId) : Bool :=
 match P.funcs[f]? with
 | some fn => fn.name != "runtime.NumGoroutine" && fn.body.isSome
 | none => false
def vev (o : SO) (env : Env) (L : Loc) (T : Tab) : Option AV :=
 match o with
 | .s2b x => (Z7 env x).bind fun x => match x with
  | .s l => some (.fz l.length (K8 l) none)
  | _ => none
 | .bsl n _ zero parts => (q97 env zero parts).map fun cells => .fz n cells (some n)
 | .fbox x => (Z7 env x).bind fun v => if v.sto = true then some (.fptr v.cells) else none
 | o => pev o env L T
def gdd {α : Type} (env : Env) (gd : Option (Nat × Bool)) (y n z : α) : α :=
 match gd with
 | none => y
 | some (s, want) => match q10 env s with
  | some (.b x) => if x = want then y else n
  | some (.tup []) => n
  | _ => z
def qc7 (o : SO) (gd : Option (Nat × Bool)) (env : Env) (L : Loc) (T : Tab) : Option AV :=
 gdd env gd (vev o env L T) (some (.tup [])) none
def I2 (env : Env) (L : Loc) (T : Tab) : List (Nat × SO × Option (Nat × Bool)) -> Prop
 | [] => True
 | (d, o, gd) :: r => qc7 o gd env L T = q10 env d /\ I2 env L T r
def lev (o : SO) (d : Option Nat) (env : Env) (L : Loc) : Option (Env × Loc) :=
 match o with
 | .lalloc zero => d.map fun l => (q96 (q1u env l) l (.lp l 0), q96 L l zero)
 | .lbox x => d.bind fun l => (Z7 env x).bind fun v => if v.sto = true then some (q96 (q1u env l) l (.lp l 0), q96 L l v.cells) else none
 | .lst l sz x v => (qiv env (some l) x).bind fun p => (Z7 env v).bind fun y => match p with
  | .lp _ o => (q10 L l).bind fun cells => if y.sto = true /\ y.cells.length = sz /\ o + sz <= cells.length then some (q06 env d (.tup []), q96 L l (q07 cells o y.cells)) else none
  | _ => none
 | _ => none
def tst (P : Program) (o : SO) (env : Env) (T : Tab) (k : AV -> Tab -> Prop) : Prop :=
 match o with
 | .halloc esz zero => ∀ id, T id = .unused -> k (.ptr id 0) (T.put id (.row esz zero))
 | .hbox esz x => match Z7 env x with
  | some v => v.sto = true /\ ∀ id, T id = .unused -> k (.ptr id 0) (T.put id (.row esz v.cells))
  | none => False
 | .st sz x v => match Z7 env x, Z7 env v with
  | some (.ptr id o), some y => match T id with
   | .row z cells => y.sto = true /\ y.cells.length = sz /\ o + sz <= cells.length /\ k (.tup []) (T.put id (.row z (q07 cells o y.cells)))
   | _ => False
  | _, _ => False
 | .app esz bytes x y => match Z7 env x, Z7 env y with
  | some x, some y => q1k esz bytes T x y k
  | _, _ => False
 | .clr esz zero x => match Z7 env x with
  | some (.fz 0 _ _) => k (.tup []) T
  | some (.sl id o n _) => match T id with
   | .row z cells => z = esz /\ zero.length = esz /\ o + n * esz <= cells.length /\ k (.tup []) (T.put id (.row z (q07 cells o (rep zero n))))
   | _ => False
  | _ => False
 | .mksl esz bytes zero n c => match Z7 env n, Z7 env c with
  | some (.i _ j), some (.i _ q) => 0 <= j /\ j <= q /\ q.toNat * bytes <= 140737488355328 /\ q <= 9223372036854775807 /\ ∀ id, T id = .unused -> k (.sl id 0 j.toNat none) (T.put id (.row esz (rep zero q.toNat)))
  | _, _ => False
 | .hbs n esz zero parts => match q97 env zero parts with
  | some cells => ∀ id, T id = .unused -> k (.sl id 0 n (some n)) (T.put id (.row esz cells))
  | none => False
 | .cvm x => match Z7 env x with
  | some (.sl id o n cap) => match T id with
   | .row z cells => z = 1 /\ o + n <= cells.length /\ k (.fz n ((cells.drop o).take n) cap) (T.put id .unused)
   | _ => False
  | _ => False
 | .apz esz bytes zero x n => match Z7 env x, Z7 env n with
  | some (.fz 0 [] (some 0)), some (.i _ q) => 0 < q /\ q.toNat * bytes <= 140737488355328 /\ q <= 9223372036854775807 /\ ∀ id, T id = .unused -> k (.sl id 0 q.toNat none) (T.put id (.row esz (rep zero q.toNat)))
  | _, _ => False
 | .mkm => ∀ id, T id = .unused -> k (.mp id) (T.put id (.mapo []))
 | .lku m ok zero x key => match Z7 env x, Z7 env key with
  | some (.mp id), some kv => match T id with
   | .mapo es => q1l m kv = true /\ match qm3 m kv es with
    | some (some v) => k (if ok then .tup [v, .b true] else v) T
    | some none => k (if ok then .tup [zero, .b false] else zero) T
    | none => False
   | _ => False
  | _, _ => False
 | .mup m x key v => match Z7 env x, Z7 env key, Z7 env v with
  | some (.mp id), some kv, some y => match T id with
   | .mapo es => q1l m kv = true /\ (qm3 m kv es).isSome = true /\ k (.tup []) (T.put id (.mapo (qno kv y es)))
   | _ => False
  | _, _, _ => False
 | .call f args => K4 P f = true /\ match q8f env args with
  | some avs => ∃ S R, S.Nodup /\ (∀ id ∈ S, T id ≠ .unused) /\ ACalls P f (avs.map (q99 T S)) (qfo T S) R /\ ∀ v T', R v T' -> k v T'
  | none => False
 | .callv x args => match Z7 env x, q8f env args with
  | some (.fn (.func f) first cap), some avs => K4 P f = true /\
    ∃ S R, S.Nodup /\ (∀ id ∈ S, T id ≠ .unused) /\ ACalls P f ((first ++ avs ++ cap).map (q99 T S)) (qfo T S) R /\ ∀ v T', R v T' -> k v T'
  | _, _ => False
 | _ => False
inductive SOKind where
 | val | snil | leff | teff
 deriving DecidableEq
def SO.kind : SO -> SOKind
 | .snil _ _ => .snil
 | .lalloc _ | .lbox _ | .lst _ _ _ _ => .leff
 | .halloc _ _ | .hbox _ _ | .st _ _ _ | .app _ _ _ _ | .clr _ _ _ | .call _ _ | .callv _ _ | .mksl _ _ _ _ _ | .hbs _ _ _ _ | .cvm _ | .apz _ _ _ _ _ | .mkm | .lku _ _ _ _ _ | .mup _ _ _ _ => .teff
 | _ => .val
def qav (neg : Bool) (x : Option AV) (k : AV -> Prop) : Prop :=
 match x with
 | some (.fz n _ _) => if 0 < n then k (.b neg) else ∀ b, k (.b b)
 | some (.sl _ _ _ _) => k (.b neg)
 | _ => False
abbrev RC := List (Nat × SO × Option (Nat × Bool))
def q4w (P : Program) (o : SO) (d : Option Nat) (rc : RC) (K : Env -> Loc -> Tab -> Prop) (env : Env) (L : Loc) (T : Tab) : Prop :=
 match o.kind with
 | .val => match vev o env L T with
  | some x => K (q06 env d x) L T
  | none => False
 | .leff => match lev o d env L with
  | some (e, l) => K e l T
  | none => False
 | .teff => tst P o env T fun v T' => v.isLp = false -> I2 (q06 env d v) L T' rc /\ K (q06 env d v) L T'
 | .snil => match o with
  | .snil neg x => qav neg (Z7 env x) fun v => K (q06 env d v) L T
  | _ => False
def qx2 : SO -> Bool
 | .snil _ _ | .s2b _ | .bsl _ _ _ _ | .lalloc _ | .lbox _ | .halloc _ _ | .hbox _ _ | .fbox _ | .st _ _ _ | .lst _ _ _ _ | .app _ _ _ _ | .clr _ _ _ | .mksl _ _ _ _ _ | .hbs _ _ _ _ | .cvm _ | .apz _ _ _ _ _ | .mkm | .lku _ _ _ _ _ | .mup _ _ _ _ | .call _ _ | .callv _ _ => false
 | _ => true
theorem qvb {P : Program} {o : SO} (h : qx2 o = true) (d : Option Nat) (rc : RC) (K : Env -> Loc -> Tab -> Prop) (env : Env) (L : Loc) (T : Tab) :
  q4w P o d rc K env L T = match pev o env L T with
   | some x => K (q06 env d x) L T
   | none => False := by
 cases o <;> first
  | rfl
  | (simp [qx2] at h)
def Y5 (P : Program) (o : SOp) (K : Env -> Loc -> Tab -> Prop) (env : Env) (L : Loc) (T : Tab) : Prop :=
 match o.op.kind with
 | .val => match qc7 o.op o.gd env L T with
  | some x => K (q06 env o.dst x) L T
  | none => False
 | .leff => match gdd env o.gd (lev o.op o.dst env L) (some (q06 env o.dst (.tup []), L)) none with
  | some (e, l) => K e l T
  | none => False
 | .teff => gdd env o.gd (tst P o.op env T fun v T' => v.isLp = false -> I2 (q06 env o.dst v) L T' o.rc /\ K (q06 env o.dst v) L T')
   (I2 (q06 env o.dst (.tup [])) L T o.rc /\ K (q06 env o.dst (.tup [])) L T) False
 | .snil => gdd env o.gd (q4w P o.op o.dst o.rc K env L T) (K (q06 env o.dst (.tup [])) L T) False
def qpi (P : Program) : List SOp -> (Env -> Loc -> Tab -> Prop) -> Env -> Loc -> Tab -> Prop
 | [], K => K
 | o :: l, K => Y5 P o (qpi P l K)
structure Hint where
 locs : List Nat := []
 frz : List Nat := []
 lps : List (Nat × Nat) := []
 ord : List (Nat × List (Nat × List Nat)) := []
 keep : List (Nat × List Nat × List Nat) := []
 lkeep : List (Nat × List Nat × List Nat) := []
 gfz : List Nat := []
def z4b : List Value -> Option (List AV)
 | [] => some []
 | v :: l => match cav v, z4b l with
  | some x, some r => some (x :: r)
  | _, _ => none
def qnp (P : Program) (t : TypeId) : Option (List AV) := ((P.info? t).bind (·.zero)).bind fun z => z4b z.cells.toList
def z3j (P : Program) (t : TypeId) : Option AV := ((P.info? t).bind (·.zero)).bind cav
def szT (P : Program) (t : TypeId) : Option Nat := (P.info? t).map (·.size)
def ldT (P : Program) (t : TypeId) : Option (Option Nat) :=
 match P.underlying t with
 | some (.struct _) | some (.array _ _) => (szT P t).map some
 | some _ => some none
 | none => none
def z0x (H : Hint) : Operand -> Option Nat
 | .tmp t => q10 H.lps t
 | _ => none
def qh4 (P : Program) : List Field -> Option (List (Nat × Nat))
 | [] => some []
 | f :: r => match szT P f.type, qh4 P r with
  | some s, some l => some ((f.offset, s) :: l)
  | _, _ => none
def qfp (place : Nat -> Option (Nat × Nat)) : List (Nat × Operand) -> Option (List (Nat × Nat × Operand))
 | [] => some []
 | (i, x) :: r => match place i, qfp place r with
  | some (off, sz), some l => some ((off, sz, x) :: l)
  | _, _ => none
def qmy (P : Program) (g : TypeId -> Option (List SK)) : List Field -> Nat -> Option (List SK)
 | [], _ => some []
 | f :: r, off => if f.name != "_" && f.offset == off then match g f.type with
   | some ks => if szT P f.type = some ks.length then (qmy P g r (off + ks.length)).map (ks ++ ·) else none
   | none => none
  else none
def qiw (P : Program) : Nat -> TypeId -> Option (List SK)
 | 0, _ => none
 | d + 1, t => match P.underlying t with
  | some (.int _) => some [.i]
  | some .bool => some [.b]
  | some .string => some [.s]
  | some (.struct fs) => if P.stoodInHeld t then none else qmy P (qiw P d) fs.toList 0
  | _ => none
def u8T (P : Program) (t : TypeId) : Bool :=
 match P.underlying t with
 | some (.int .u8) => true
 | _ => false
def qx3 : TypeDesc -> Bool
 | .int _ => false
 | _ => true
def qaw : Operand -> Bool
 | .const _ => true
 | _ => false
def z73 (P : Program) (H : Hint) (o : Oper) : Option SO :=
 match o.op with
 | .move x | .assign x => some (.mv x)
 | .pick c x y => some (.pick c x y)
 | .alloc t => (qnp P t).bind fun z => (szT P t).bind fun n => if (o.dst.map (H.locs.contains ·)).getD false then some (.lalloc z) else some (.halloc n z)
 | .box t v => (szT P t).map fun n => if (o.dst.map (H.locs.contains ·)).getD false then .lbox v else if (o.dst.map (H.frz.contains ·)).getD false then .fbox v else .hbox n v
 | .build t ps => (qnp P t).bind fun z => match P.underlying t with
  | some (.struct fs) => (qh4 P fs.toList).bind fun pl => (qfp (fun i => pl[i]?) ps.toList).map (.bld z)
  | some (.array _ e) => (szT P e).bind fun s => (qfp (fun i => some (i * s, s)) ps.toList).map (.bld z)
  | _ => none
 | .buildSlice t n ps => match P.underlying t with
  | some (.slice e) => (qnp P e).bind fun z => (szT P e).bind fun s => if n * s <= 2 ^ 24 /\ z.length = s then (qfp (fun i => some (i * s, s)) ps.toList).map (if (o.dst.map (H.frz.contains ·)).getD false then .hbs n s (rep z n) else .bsl n s (rep z n)) else none
  | _ => none
 | .load t x => (ldT P t).map fun sz => match z0x H x with
  | some l => .lld l sz x
  | none => .ld sz x
 | .store t x v => (szT P t).map fun sz => match z0x H x with
  | some l => .lst l sz x v
  | none => .st sz x v
 | .nilCheck x => some (.nilck (z0x H x) x)
 | .binOp op t x y _ => match P.underlying t with
  | some (.int _) | some .string => some (.bin op x y)
  | some .bool => match op with
   | .eql => some (.eq false .bool x y)
   | .neq => some (.eq true .bool x y)
   | _ => none
  | some (.pointer _) => match op with
   | .eql => some (.eq false .ptr x y)
   | .neq => some (.eq true .ptr x y)
   | _ => none
  | some (.interface _) => if qaw x || qaw y then (match op with
   | .eql => some (.eq false .ifc x y)
   | .neq => some (.eq true .ifc x y)
   | _ => none) else none
  | some (.slice _) => match x, y, op with
   | x, .const (.slice none _ _), .eql => some (.snil false x)
   | x, .const (.slice none _ _), .neq => some (.snil true x)
   | _, _, _ => none
  | some (.struct _) => if P.eqGuardType P.depth t then none else (qiw P 20 t).bind fun ks => match op with
   | .eql => some (.eq false (.agg ks) x y)
   | .neq => some (.eq true (.agg ks) x y)
   | _ => none
  | _ => none
 | .unOp op _ x => some (.un op x)
 | .convert s d x => match P.underlying d with
  | some (.int k) => if (P.underlying s).isSome then some (.cvi k x) else none
  | some .string => match P.underlying s with
   | some (.slice e) => if u8T P e then some (.b2s x) else none
   | some .string => some (.cvs x)
   | _ => none
  | some (.slice e) => match P.underlying s with
   | some .string => if u8T P e then some (.s2b x) else none
   | some (.slice _) => if u8T P e && s == d then some (.cvm x) else none
   | _ => none
  | _ => none
 | .makeInterface t x => match P.underlying t with
  | some (.interface _) | none => none
  | _ => some (.ifc t x)
 | .makeFunc f first cap => some (.mkfn f first.toList cap.toList)
 | .slice t x lo hi mx => match P.underlying t with
  | some (.slice e) => (szT P e).map fun s => .slc s x lo hi mx
  | some .string => if mx.isNone then some (.slcs x lo hi) else none
  | _ => none
 | .fieldAddr s x f => match P.underlying s with
  | some (.struct fs) => (fs[f]?).bind fun f => match szT P f.type with
   | some (_ + 1) => some (.fadr (z0x H x) f.offset x)
   | _ => none
  | _ => none
 | .field s x f => match P.underlying s with
  | some (.struct fs) => (fs[f]?).bind fun f => (ldT P f.type).map fun sz => .fld f.offset sz x
  | _ => none
 | .indexAddr t x i => match P.underlying t with
  | some (.slice e) => (szT P e).map fun s => .iadr (z0x H x) s none x i
  | some (.array n e) => (szT P e).map fun s => .iadr (z0x H x) s (some n) x i
  | _ => none
 | .index t x i => match P.underlying t with
  | some .string => some (.idxs x i)
  | some (.array n e) => (szT P e).bind fun s => (ldT P e).map fun l => .idxa s l n x i
  | _ => none
 | .panic _ => some .bad
 | .makeSlice t n c => match P.underlying t with
  | some (.slice e) => (P.info? e).bind fun i => (qnp P e).bind fun z => if z.length = i.size then some (.mksl i.size i.bytes z n c) else none
  | _ => none
 | .makeMap _ r => if r.isNone then some .mkm else none
 | .lookup t x i ok => match P.underlying t with
  | some (.map kt e) => (P.underlying kt).bind fun d => (MK.ofDesc d).bind fun m => (z3j P e).map fun z => .lku m ok z x i
  | _ => none
 | .mapUpdate t m i v => match P.underlying t with
  | some (.map kt _) => (P.underlying kt).bind fun d => (MK.ofDesc d).map fun q => .mup q m i v
  | _ => none
 | .extract x i => some (.ext i x)
 | .call c => match c.callee with
  | .value (.func f) => if K4 P f then some (.call f c.args.toList) else none
  | .value (.tmp t) => some (.callv (.tmp t) c.args.toList)
  | .builtin .len => match c.args.toList, c.argTypes.toList with
   | [x], [t] => match P.underlying t with
    | some (.slice _) => some (.len false x)
    | some .string => some (.len true x)
    | _ => none
   | _, _ => none
  | .builtin .cap => match c.args.toList, c.argTypes.toList with
   | [x], [t] => match P.underlying t with
    | some (.slice _) => some (.cap x)
    | _ => none
   | _, _ => none
  | .builtin .max => match c.args.toList with
   | [x, y] => some (.mnx true x y)
   | _ => none
  | .builtin .min => match c.args.toList with
   | [x, y] => some (.mnx false x y)
   | _ => none
  | .builtin .append => match c.args.toList, c.argTypes.toList with
   | [x, y], [t, tx] => match P.underlying t, P.underlying tx with
    | some (.slice e), some d => if qx3 d then (P.info? e).bind fun i => i.zero.bind fun z => if z.cells.size = i.size /\ 0 < i.size then some (.app i.size i.bytes x y) else none else (P.info? e).bind fun i => (qnp P e).bind fun z => if z.length = i.size /\ 0 < i.size then some (.apz i.size i.bytes z x y) else none
    | _, _ => none
   | _, _ => none
  | .builtin .clear => match c.args.toList, c.argTypes.toList with
   | [x], [t] => match P.underlying t with
    | some (.slice e) => (qnp P e).bind fun z => (szT P e).bind fun s => if z.length = s then some (.clr s z x) else none
    | _ => none
   | _, _ => none
  | _ => none
 | _ => none
end Go.Aw
namespace Go.Aw
open Go
set_option linter.all false
variable [Glob]
section
variable {P : Program} {X0 : Cx} {T0 : Tab} {w0 : World} {X : Cx} {lam : Nat -> Nat} {env : Env} {L : Loc} {T : Tab} {a : Act} {w w' : World}
theorem O2 (h : SR X0 T0 w0 X lam env L T a w) {o : Operand} {x : AV} (ho : Z7 env o = some x) : vr X w x (a.eval o) := by
 unfold Z7 at ho
 cases hx : opd env o with
 | none => simp [hx] at ho
 | some y =>
  simp only [hx] at ho
  split at ho
  ·rename_i hl
   injection ho with ho; subst ho
   exact qwr (qp8 h hx) (by cases y <;> first | rfl | (simp [AV.plain] at hl))
  ·cases ho
theorem q8e (h : SR X0 T0 w0 X lam env L T a w) {l : Option Nat} {o : Operand} {x : AV} (ho : qiv env l o = some x) : evr X lam w x (a.eval o) := by
 cases l with
 | none => exact V5 (O2 h ho)
 | some l =>
  simp only [qiv] at ho
  cases hx : opd env o with
  | none => simp [hx] at ho
  | some y =>
   cases y <;> simp only [hx] at ho <;> first | (cases ho; done) | skip
   split at ho
   ·injection ho with ho; subst ho; exact qp8 h hx
   ·cases ho
theorem q8g (h : SR X0 T0 w0 X lam env L T a w) : ∀ {l : List Operand} {xs : List AV}, q8f env l = some xs -> vrs X w xs (l.map a.eval)
 | [], xs, ho => by simp only [q8f] at ho; injection ho with ho; subst ho; rfl
 | o :: l, xs, ho => by
  simp only [q8f] at ho
  cases hx : Z7 env o with
  | none => simp [hx] at ho
  | some y =>
  cases hr : q8f env l with
  | none => simp [hx, hr] at ho
  | some r =>
  simp only [hx, hr] at ho
  injection ho with ho; subst ho
  exact ⟨_, _, rfl, O2 h hx, q8g h hr⟩
theorem qhu (h : SR X0 T0 w0 X lam env L T a w) {o : Option Operand} {x : Option AV} (ho : q5f env o = some x) :
  (x = none /\ o = none) \/ ∃ y q, x = some y /\ o = some q /\ vr X w y (a.eval q) := by
 cases o with
 | none => simp only [q5f] at ho; injection ho with ho; exact .inl ⟨ho.symm, rfl⟩
 | some q =>
  simp only [q5f] at ho
  cases hx : Z7 env q with
  | none => simp [hx] at ho
  | some y => simp [hx] at ho; exact .inr ⟨y, q, ho.symm, rfl, O2 h hx⟩
theorem qnq (h : SR X0 T0 w0 X lam env L T a w) {o : Option Operand} {x : Option AV} {d n : Nat} (ho : q5f env o = some x) (hb : bnd d x = some n) : qeh x (o.map a.eval) := by
 rcases qhu h ho with ⟨rfl, rfl⟩ | ⟨y, q, rfl, rfl, hv⟩
 ·trivial
 ·cases y <;> simp only [bnd] at hb <;> first | (cases hb; done) | skip
  simp only [vr] at hv
  exact hv
theorem q5v {t : TypeId} {n : Nat} (h : szT P t = some n) : ∃ i, P.info? t = some i /\ i.size = n := by
 unfold szT at h
 cases hi : P.info? t with
 | none => simp [hi] at h
 | some i => simp [hi] at h; exact ⟨i, rfl, h⟩
theorem qfq {t : TypeId} {sz : Option Nat} (h : ldT P t = some sz) : LdT P t sz := by
 intro w
 unfold ldT at h
 cases hu : P.underlying t with
 | none => simp [hu] at h
 | some d =>
  have key : (∀ fs, d ≠ .struct fs) -> (∀ n e, d ≠ .array n e) -> sz = none -> (isAgg t).run P w = .ok false w := fun h1 h2 _ => by
   cases d <;> first
    | (exact absurd rfl (h1 _))
    | (exact absurd rfl (h2 _ _))
    | simp [isAgg, run_underlying hu]
  cases d with
  | struct fs =>
   simp only [hu] at h
   cases hs : szT P t with
   | none => simp [hs] at h
   | some n =>
    simp [hs] at h; subst h
    obtain ⟨i, hi, hn⟩ := q5v hs
    exact ⟨by simp [isAgg, run_underlying hu], by simp [sizeOf, typeInfo, hi, hn]⟩
  | array n e =>
   simp only [hu] at h
   cases hs : szT P t with
   | none => simp [hs] at h
   | some n =>
    simp [hs] at h; subst h
    obtain ⟨i, hi, hn⟩ := q5v hs
    exact ⟨by simp [isAgg, run_underlying hu], by simp [sizeOf, typeInfo, hi, hn]⟩
  | _ =>
   simp only [hu] at h
   injection h with h; subst h
   exact key (fun _ h => by cases h) (fun _ _ h => by cases h) rfl
theorem qdd (X : Cx) (w : World) : ∀ {vs : List Value} {xs : List AV}, z4b vs = some xs -> vrs X w xs vs /\ ∀ u ∈ vs, u.oneCell' = true
 | [], xs, h => by simp only [z4b] at h; injection h with h; subst h; exact ⟨rfl, by simp⟩
 | v :: l, xs, h => by
  simp only [z4b] at h
  cases hx : cav v with
  | none => simp [hx] at h
  | some y =>
  cases hr : z4b l with
  | none => simp [hx, hr] at h
  | some r =>
  simp only [hx, hr] at h
  injection h with h; subst h
  obtain ⟨h1, h2⟩ := qjq (X := X) (w := w) hx
  obtain ⟨h3, h4⟩ := qdd X w hr
  refine ⟨⟨_, _, rfl, h1, h3⟩, fun u hu => ?_⟩
  rcases List.mem_cons.1 hu with rfl | hu
  ·exact h1.one h2
  ·exact h4 u hu
theorem qh5 {t : TypeId} {z : List AV} (h : qnp P t = some z) : ∃ i v, P.info? t = some i /\ i.zero = some v /\ z4b v.cells.toList = some z := by
 unfold qnp at h
 cases hi : P.info? t with
 | none => simp [hi] at h
 | some i =>
  cases hz : i.zero with
  | none => simp [hi, hz] at h
  | some v => simp [hi, hz] at h; exact ⟨i, v, rfl, hz, h⟩
theorem qfr {t : TypeId} {z : List AV} (h : qnp P t = some z) : ∃ v, (zeroValue t).run P w = .ok v w /\ vrs X w z v.cells.toList /\ (∀ u ∈ v.cells.toList, u.oneCell' = true) := by
 obtain ⟨i, v, hi, hz, hc⟩ := qh5 h
 obtain ⟨h1, h2⟩ := qdd X w hc
 exact ⟨v, by simp [zeroValue, typeInfo, hi, hz], h1, h2⟩
theorem qa2 {x : AV} {v : Value} (h : vr X w x v) (hs : x.sto = true) : vrs X w x.cells v.cells.toList /\ (∀ u ∈ v.cells.toList, u.oneCell' = true) /\ v.cells.size = x.cells.length := by
 have : x.isOne = true \/ ∃ l, x = .agg l := by
  cases x <;> first | exact .inl hs | exact .inr ⟨_, rfl⟩
 obtain ⟨h1, h2⟩ := h.cells this
 exact ⟨h1, h2, by rw [<- h1.length]; simp⟩
def SkT (P : Program) (k : SK) (t : TypeId) : Prop :=
 match k with
 | .b => P.underlying t = some .bool
 | .i => ∃ k, P.underlying t = some (.int k)
 | .s => P.underlying t = some .string
theorem qm9 {k : SK} {x y : AV} {u v : Value} {r : Bool} {t : TypeId} (hx : vr X w x u) (hy : vr X w y v) (h : U0 k x y = some r)
  (ht : SkT P k t) (d : Nat) : (Op.equalIn (d + 1) t u v).run P w = .ok r w := by
 cases k <;> cases x <;> cases y <;> simp only [U0, SkT] at h ht <;> first
  | (cases h; done)
  | skip
 ·rename_i p q
  injection h with h; subst h
  simp only [vr] at hx hy
  subst hx; subst hy
  rw [run_equalIn_bool' w d t p q ht]
  cases p <;> cases q <;> rfl
 ·rename_i k n k' m
  split at h
  ·rename_i hk
   subst hk
   injection h with h; subst h
   simp only [vr] at hx hy
   subst hx; subst hy
   obtain ⟨k2, ht⟩ := ht
   rw [run_equalIn_int w d t k k2 n m ht]
   congr 1
  ·cases h
 ·rename_i l m
  injection h with h; subst h
  simp only [vr] at hx hy
  subst hx; subst hy
  rw [run_equalIn_string w d t _ _ ht, qhr, qhr, zei]
theorem qhv : ∀ {ks : List SK} {xs ys : List AV} {r : Bool}, q05 ks xs ys = some r -> xs.length = ks.length /\ ys.length = ks.length
 | [], [], [], _, _ => ⟨rfl, rfl⟩
 | [], _ :: _, _, _, h => by simp [q05] at h
 | [], [], _ :: _, _, h => by simp [q05] at h
 | _ :: _, [], _, _, h => by simp [q05] at h
 | _ :: _, _ :: _, [], _, h => by simp [q05] at h
 | k :: ks, x :: xs, y :: ys, r, h => by
  simp only [q05] at h
  cases h1 : U0 k x y with
  | none => simp [h1] at h
  | some p =>
  cases h2 : q05 ks xs ys with
  | none => simp [h1, h2] at h
  | some q =>
  have := qhv h2
  simp [this.1, this.2]
theorem qhw : ∀ {ks ks' : List SK} {xs ys : List AV} {r : Bool}, q05 (ks ++ ks') xs ys = some r ->
  ∃ p q, q05 ks (xs.take ks.length) (ys.take ks.length) = some p /\ q05 ks' (xs.drop ks.length) (ys.drop ks.length) = some q /\ r = (p && q)
 | [], ks', xs, ys, r, h => ⟨true, r, by simp [q05], by simpa using h, by simp⟩
 | k :: ks, ks', [], _, _, h => by simp [q05] at h
 | k :: ks, ks', _ :: _, [], _, h => by simp [q05] at h
 | k :: ks, ks', x :: xs, y :: ys, r, h => by
  simp only [List.cons_append, q05] at h
  cases h1 : U0 k x y with
  | none => simp [h1] at h
  | some p =>
  cases h2 : q05 (ks ++ ks') xs ys with
  | none => simp [h1, h2] at h
  | some q =>
  simp only [h1, h2] at h
  injection h with h; subst h
  obtain ⟨p', q', e1, e2, rfl⟩ := qhw h2
  exact ⟨p && p', q', by simp [q05, h1, e1], by simpa using e2, by simp [Bool.and_assoc]⟩
def qej (P : Program) (t : TypeId) (us : List Value) : Value :=
 match P.underlying t with
 | some (.struct _) => .agg us.toArray
 | _ => us.headD undef
theorem qu3 : ∀ (d : Nat) {t : TypeId} {ks : List SK}, qiw P d t = some ks -> ∀ {xs ys : List AV} {us vs : List Value} {r : Bool}, vrs X w xs us -> vrs X w ys vs -> q05 ks xs ys = some r ->
  ∀ e, (Op.equalIn (d + e) t (qej P t us) (qej P t vs)).run P w = .ok r w
 | 0, t, ks, h, _, _, _, _, _, _, _, _, _ => by simp [qiw] at h
 | d + 1, t, ks, h, xs, ys, us, vs, r, hx, hy, hr, e => by
  simp only [qiw] at h
  cases hu : P.underlying t with
  | none => simp [hu] at h
  | some dd =>
  have scalar : ∀ k, ks = [k] -> SkT P k t -> (∀ us : List Value, qej P t us = us.headD undef) ->
    (Op.equalIn (d + 1 + e) t (qej P t us) (qej P t vs)).run P w = .ok r w := by
   intro k hk ht hv
   subst hk
   match xs, ys, hx, hy, hr with
   | [], _, _, _, hr => simp [q05] at hr
   | _ :: _, [], _, _, hr => simp [q05] at hr
   | _ :: _ :: _, _ :: _, _, _, hr => simp [q05] at hr
   | [_], _ :: _ :: _, _, _, hr => simp [q05] at hr
   | [x], [y], hx, hy, hr =>
    simp only [q05] at hr
    cases h1 : U0 k x y with
    | none => simp [h1] at hr
    | some p =>
    simp only [h1, Bool.and_true] at hr
    injection hr with hr; subst hr
    simp only [vrs] at hx hy
    obtain ⟨u, us', rfl, hx', rfl⟩ := hx
    obtain ⟨v, vs', rfl, hy', rfl⟩ := hy
    rw [hv, hv, show d + 1 + e = (d + e) + 1 by omega]
    exact qm9 hx' hy' h1 ht (d + e)
  cases dd <;> simp only [hu] at h <;> first
   | (cases h; done)
   | skip
  ·injection h with h; exact scalar .b h.symm hu (fun us => by simp [qej, hu])
  ·injection h with h; exact scalar .i h.symm ⟨_, hu⟩ (fun us => by simp [qej, hu])
  ·injection h with h; exact scalar .s h.symm hu (fun us => by simp [qej, hu])
  ·rename_i fs
   split at h
   ·cases h
   ·rename_i hst
    have hst : P.stoodInHeld t = false := by simpa using hst
    have hf : P.fieldsOf t = fs := by simp [Program.fieldsOf, hu]
    simp only [qej, hu]
    rw [show d + 1 + e = (d + e) + 1 by omega, run_equalIn_struct w (d + e) t _ _ (by rw [hf]; exact hu) hst, hf]
    have key : ∀ (l : List Field) (off : Nat) (kk : List SK), qmy P (qiw P d) l off = some kk -> ∀ (r : Bool), q05 kk (xs.drop off) (ys.drop off) = some r ->
      (Op.eqFields (d + e) us.toArray vs.toArray l).run P w = .ok r w := by
     intro l
     induction l with
     | nil =>
      intro off kk hk r hr
      simp only [qmy] at hk
      injection hk with hk; subst hk
      cases hxs : xs.drop off <;> cases hys : ys.drop off <;> simp [q05, hxs, hys] at hr
      subst hr
      simp [Op.eqFields]
     | cons f l ihl =>
      intro off kk hk r hr
      simp only [qmy] at hk
      split at hk
      ·rename_i hc
       simp only [Bool.and_eq_true, bne_iff_ne, ne_eq, beq_iff_eq] at hc
       cases hg : qiw P d f.type with
       | none => simp [hg] at hk
       | some k1 =>
       simp only [hg] at hk
       split at hk
       ·rename_i hsz
        cases hrest : qmy P (qiw P d) l (off + k1.length) with
        | none => simp [hrest] at hk
        | some k2 =>
        simp only [hrest, Option.map_some] at hk
        injection hk with hk; subst hk
        obtain ⟨p, q, e1, e2, rfl⟩ := qhw hr
        rw [List.drop_drop] at e2
        have h2 := ihl (off + k1.length) k2 hrest q (by simpa [List.drop_drop] using e2)
        have hne : f.name ≠ "_" := hc.1
        have l1 := qhv e1
        have part_ok : ∀ {zs : List AV} {ws : List Value}, vrs X w zs ws -> ((zs.drop off).take k1.length).length = k1.length -> (part f.type ws.toArray f.offset).run P w = .ok (qej P f.type ((ws.drop off).take k1.length)) w := by
         intro zs ws hz hlen
         have hwl : ((ws.drop off).take k1.length).length = k1.length := ((hz.drop off).take k1.length).length.trans hlen
         obtain ⟨i, hi, hsi⟩ := q5v hsz
         rw [hc.2]
         cases d with
         | zero => simp [qiw] at hg
         | succ d' =>
         simp only [qiw] at hg
         cases hfu : P.underlying f.type with
         | none => simp [hfu] at hg
         | some df =>
         have one : k1.length = 1 -> (∀ us : List Value, qej P f.type us = us.headD undef) -> (isAgg f.type).run P w = .ok false w -> (part f.type ws.toArray off).run P w = .ok (qej P f.type ((ws.drop off).take k1.length)) w := by
          intro h1 hv hag
          rw [hv, h1]
          rw [h1] at hwl
          have hlt : off < ws.length := by simp at hwl; omega
          have : ws[off]? = some ws[off] := List.getElem?_eq_getElem hlt
          have hd : (ws.drop off).take 1 = [ws[off]] := by
           rw [List.drop_eq_getElem_cons hlt]; rfl
          rw [hd]
          simp [part, hag, this]
         cases df <;> simp only [hfu] at hg <;> first
          | (cases hg; done)
          | (injection hg with hg; exact one (by rw [<- hg]; rfl) (fun us => by simp [qej, hfu]) (by simp [isAgg, run_underlying hfu]))
          | skip
         simp only [qej, hfu, part, Sem.run_bind, isAgg, run_underlying hfu, Result.andThen_ok, Sem.run_pure, if_true, sizeOf, typeInfo, run_program, hi, hsi]
         congr 2
         apply Array.ext'
         simp [List.take_drop]
        have l1' : ((xs.drop off).take k1.length).length = k1.length /\ ((ys.drop off).take k1.length).length = k1.length := l1
        have a1 := part_ok hx l1'.1
        have a2 := part_ok hy l1'.2
        have a3 := qu3 d hg ((hx.drop off).take k1.length) ((hy.drop off).take k1.length) e1 e
        rw [Op.eqFields]
        simp only [if_pos hne, Sem.run_bind, a1, a2, a3, Result.andThen_ok]
        cases p
        ·simp
        ·simpa using h2
       ·cases hk
      ·cases hk
    exact key fs.toList 0 ks h r (by simpa using hr)
end
end Go.Aw
namespace Go.Aw
open Go
set_option linter.all false
variable [Glob]
section
variable {P : Program} {X0 : Cx} {T0 : Tab} {w0 : World} {X : Cx} {lam : Nat -> Nat} {env : Env} {L : Loc} {T : Tab} {a : Act} {w w' : World}
theorem q6m {s : Sem Value} {v : Value} (h : s.run P w = .ok v w') : (do pure (Next.value (<- s)) : Sem Next).run P w = .ok (.value v) w' := by
 simp [h]
theorem qhx : ∀ {xs : List AV} {vs : List Value}, vrs X w xs vs -> ∀ {cells : List AV} {us : Array Value}, vrs X w cells us.toList -> ∀ (o : Nat),
  vrs X w (qbq cells o xs) ((vs.zipIdx o).foldl (fun cs p => cs.setIfInBounds p.2 p.1) us).toList
 | [], vs, h, cells, us, hc, o => by simp [vrs] at h; subst h; simpa [qbq] using hc
 | x :: xs, vs, h, cells, us, hc, o => by
  simp only [vrs] at h
  obtain ⟨v, vs', rfl, h1, h2⟩ := h
  simp only [qbq, List.zipIdx_cons, List.foldl_cons]
  refine qhx h2 (cells := cells.set o x) (us := us.setIfInBounds o v) ?_ (o + 1)
  rw [Array.toList_setIfInBounds]
  exact hc.set h1 o
theorem qfs : ∀ {xs cells : List AV} (o : Nat), (qbq cells o xs).length = cells.length
 | [], _, _ => rfl
 | x :: xs, cells, o => by simp [qbq, qfs]
theorem qc8 (off : Nat) : ∀ (vs : List Value) (k : Nat) (us : Array Value),
  (vs.zipIdx k).foldl (fun cs p => cs.setIfInBounds (off + p.2) p.1) us = (vs.zipIdx (off + k)).foldl (fun cs p => cs.setIfInBounds p.2 p.1) us
 | [], _, _ => rfl
 | v :: vs, k, us => by
  simp only [List.zipIdx_cons, List.foldl_cons]
  rw [qc8 off vs (k + 1)]; rfl
theorem qft : ∀ (vs : List Value) (k : Nat) (us : Array Value), (∀ u ∈ vs, u.oneCell' = true) -> (∀ u ∈ us.toList, u.oneCell' = true) ->
  ∀ u ∈ ((vs.zipIdx k).foldl (fun cs p => cs.setIfInBounds p.2 p.1) us).toList, u.oneCell' = true
 | [], _, _, _, h => h
 | v :: vs, k, us, h1, h => by
  simp only [List.zipIdx_cons, List.foldl_cons]
  refine qft vs (k + 1) _ (fun u hu => h1 u (List.mem_cons_of_mem _ hu)) fun u hu => ?_
  rw [Array.toList_setIfInBounds] at hu
  rcases List.mem_or_eq_of_mem_set hu with hu | rfl
  ·exact h u hu
  ·exact h1 _ (List.mem_cons_self ..)
theorem qc9 (h : SR X0 T0 w0 X lam env L T a w) {place : Nat -> Option (Nat × Nat)} : ∀ {ps : List (Nat × Operand)} {qs : List (Nat × Nat × Operand)}, qfp place ps = some qs ->
  ∀ {cells r : List AV} {us : Array Value}, vrs X w cells us.toList -> (∀ u ∈ us.toList, u.oneCell' = true) -> q97 env cells qs = some r ->
  ∃ vs, Instr.fill place us (ps.map fun (i, x) => (i, a.eval x)) = some vs /\ vrs X w r vs.toList /\ (∀ u ∈ vs.toList, u.oneCell' = true)
 | [], qs, hp, cells, r, us, hc, h1, hb => by
  simp only [qfp] at hp; injection hp with hp; subst hp
  simp only [q97] at hb; injection hb with hb; subst hb
  exact ⟨us, rfl, hc, h1⟩
 | (i, x) :: ps, qs, hp, cells, r, us, hc, h1, hb => by
  simp only [qfp] at hp
  cases hpl : place i with
  | none => simp [hpl] at hp
  | some q =>
  obtain ⟨off, sz⟩ := q
  cases hr : qfp place ps with
  | none => simp [hpl, hr] at hp
  | some l =>
  simp only [hpl, hr] at hp
  injection hp with hp; subst hp
  simp only [q97] at hb
  cases hx : Z7 env x with
  | none => simp [hx] at hb
  | some y =>
  simp only [hx] at hb
  split at hb
  ·rename_i hcnd
   obtain ⟨c1, c2, c3⟩ := hcnd
   have hv := O2 h hx
   obtain ⟨s1, s2, s3⟩ := qa2 hv c1
   have hcl := hc.length
   have e1 : ((a.eval x).cells.zipIdx.foldl (fun cs (c, j) => cs.setIfInBounds (off + j) c) us) = ((a.eval x).cells.toList.zipIdx off).foldl (fun cs p => cs.setIfInBounds p.2 p.1) us := by
    rw [<- Array.foldl_toList, Array.toList_zipIdx]
    have := qc8 off (a.eval x).cells.toList 0 us
    simpa using this
   obtain ⟨vs, f1, f2, f3⟩ := qc9 h hr (us := ((a.eval x).cells.toList.zipIdx off).foldl (fun cs p => cs.setIfInBounds p.2 p.1) us) (qhx s1 hc off) (qft _ _ _ s2 h1) hb
   refine ⟨vs, ?_, f2, f3⟩
   simp only [List.map_cons, Instr.fill, hpl]
   rw [if_neg, e1]
   ·exact f1
   ·simp only [Bool.or_eq_true, decide_eq_true_eq, not_or, ne_eq, Decidable.not_not]
    rw [s3]
    have : cells.length = us.size := by rw [<- hcl]; simp
    omega
  ·cases hb
theorem qvc {us : List Value} : ∀ {xs : List AV} {l : List UInt8}, vrs X w xs us -> q7v xs = some l -> ∃ ns : List Int, us = ns.map (Value.int .u8) /\ ns.map (fun n => UInt8.ofNat n.toNat) = l := by
 induction us with
 | nil =>
  intro xs l h hb
  cases xs with
  | nil => simp only [q7v] at hb; injection hb with hb; subst hb; exact ⟨[], rfl, rfl⟩
  | cons x xs => simp only [vrs] at h; obtain ⟨u, us', h0, _⟩ := h; cases h0
 | cons u us ih =>
  intro xs l h hb
  cases xs with
  | nil => simp [vrs] at h
  | cons x xs =>
   simp only [vrs] at h
   obtain ⟨u', us', h0, h1, h2⟩ := h
   injection h0 with e1 e2; subst e1; subst e2
   simp only [q7v] at hb
   cases hx : qpg x with
   | none => simp [hx] at hb
   | some b =>
   cases hr : q7v xs with
   | none => simp [hx, hr] at hb
   | some r =>
   simp only [hx, hr] at hb
   injection hb with hb; subst hb
   obtain ⟨ns, e1, e2⟩ := ih h2 hr
   unfold qpg at hx
   split at hx
   ·rename_i n
    injection hx with hx; subst hx
    simp only [vr] at h1
    subst h1
    exact ⟨n :: ns, by simp [e1], by simp [e2]⟩
   ·cases hx
theorem qx4 (hr : Rel X T L lam w) {x : AV} {u : Value} {cells : List AV} {l : List UInt8} (hx : vr X w x u) (hc : Z4 T 1 x = some cells) (hs : ∀ l, x ≠ .s l) (hb : q7v cells = some l) :
  (Conv.bytesToString u).run P w = .ok (.string ⟨l.toArray⟩) w := by
 obtain ⟨us, h1, h2, h3, h4, h5⟩ := q3w (P := P) (w' := w) hr hx hc rfl
 obtain ⟨ns, e1, e2⟩ := qvc h1 hb
 have hu : u = .slice none 0 0 /\ us = [] \/ ∃ ad c, u = .slice (some ad) (q0a x) c := by
  cases x <;> simp only [Z4] at hc <;> first | (cases hc; done) | skip
  ·exact absurd rfl (hs _)
  ·simp only [vr] at hx
   obtain ⟨us', k1, k2⟩ := hx
   rcases k2 with ⟨rfl, rfl, rfl, _⟩ | ⟨ad, c, rfl, _⟩
   ·left; exact ⟨rfl, List.eq_nil_of_length_eq_zero (by rw [h3]; rfl)⟩
   ·right; exact ⟨ad, c, rfl⟩
  ·simp only [vr] at hx
   obtain ⟨_, c, rfl, _⟩ := hx
   right; exact ⟨_, c, rfl⟩
 rcases hu with ⟨rfl, rfl⟩ | ⟨ad, c, rfl⟩
 ·have : ns = [] := by cases ns <;> simp at e1 ⊢
  subst this
  simp at e2
  subst e2
  simp [Conv.bytesToString]
  rfl
 ·have hl : (loadCells ad (q0a x)).run P w = .ok (ns.map (Value.int .u8)).toArray w := by
   simpa [Builtin.firstCells, <- e1] using h4
  rw [run_bytesToString w ad (q0a x) c ns hl, foldl_push_bytes]
  congr 2
  apply ByteArray.ext
  simp [<- e2]
theorem qjy (t : TypeId) (x y : Value) : Op.equal t x y = Op.equalIn (9999 + 1) t x y := rfl
theorem qx5 (d : Nat) {t e : TypeId} (ht : P.underlying t = some (.pointer e)) (q : Option Addr) : (Op.equalIn (d + 1) t (.pointer none) (.pointer q)).run P w = .ok q.isNone w := by
 simp only [Op.equalIn, Sem.run_bind, run_underlying ht, Result.andThen_ok, Sem.run_pure]
theorem qx6 (d : Nat) {t e : TypeId} (ht : P.underlying t = some (.pointer e)) (q : Addr) : (Op.equalIn (d + 1) t (.pointer (some q)) (.pointer none)).run P w = .ok false w := by
 simp only [Op.equalIn, Sem.run_bind, run_underlying ht, Result.andThen_ok, Sem.run_pure]
theorem qx7 (d : Nat) {t : TypeId} {ms : Array (String × TypeId)} (ht : P.underlying t = some (.interface ms)) : (Op.equalIn (d + 1) t .nilIface .nilIface).run P w = .ok true w := by
 simp only [Op.equalIn, Sem.run_bind, run_underlying ht, Result.andThen_ok, Sem.run_pure]
theorem qx8 (d : Nat) {t : TypeId} {ms : Array (String × TypeId)} (ht : P.underlying t = some (.interface ms)) (k : TypeId) (v : Value) : (Op.equalIn (d + 1) t .nilIface (.iface k v)).run P w = .ok false w := by
 simp only [Op.equalIn, Sem.run_bind, run_underlying ht, Result.andThen_ok, Sem.run_pure]
theorem qx9 (d : Nat) {t : TypeId} {ms : Array (String × TypeId)} (ht : P.underlying t = some (.interface ms)) (k : TypeId) (v : Value) : (Op.equalIn (d + 1) t (.iface k v) .nilIface).run P w = .ok false w := by
 simp only [Op.equalIn, Sem.run_bind, run_underlying ht, Result.andThen_ok, Sem.run_pure]
theorem qri {t e : TypeId} (ht : P.underlying t = some (.pointer e)) (q : Option Addr) : (Op.equal t (.pointer none) (.pointer q)).run P w = .ok q.isNone w := by
 rw [qjy]; exact qx5 9999 ht q
theorem qxa {t e : TypeId} (ht : P.underlying t = some (.pointer e)) (q : Addr) : (Op.equal t (.pointer (some q)) (.pointer none)).run P w = .ok false w := by
 rw [qjy]; exact qx6 9999 ht q
theorem z4c {t : TypeId} {ms : Array (String × TypeId)} (ht : P.underlying t = some (.interface ms)) : (Op.equal t .nilIface .nilIface).run P w = .ok true w := by
 rw [qjy]; exact qx7 9999 ht
theorem z4d {t : TypeId} {ms : Array (String × TypeId)} (ht : P.underlying t = some (.interface ms)) (k : TypeId) (v : Value) : (Op.equal t .nilIface (.iface k v)).run P w = .ok false w := by
 rw [qjy]; exact qx8 9999 ht k v
theorem z4e {t : TypeId} {ms : Array (String × TypeId)} (ht : P.underlying t = some (.interface ms)) (k : TypeId) (v : Value) : (Op.equal t (.iface k v) .nilIface).run P w = .ok false w := by
 rw [qjy]; exact qx9 9999 ht k v
theorem qnr {op : BinOp} {t : TypeId} {e1 e2 : Operand} (hc : (qaw e1 || qaw e2) = true) (ho : op = .eql \/ op = .neq) : (eqGuard op t e1 e2 .nilIface .nilIface).run P w = .ok () w := by
 rcases ho with rfl | rfl <;> cases e1 <;> cases e2 <;> first
  | (simp [qaw] at hc; done)
  | rfl
theorem qvd {k : EqK} {op : BinOp} {neg : Bool} {t : TypeId} {x y : AV} {u v : Value} {r : Bool} {e1 e2 : Operand} (hx : vr X w x u) (hy : vr X w y v) (h : qm1 k x y = some r)
  (ho : (op = .eql /\ neg = false) \/ (op = .neq /\ neg = true))
  (ht : match k with
   | .bool => P.underlying t = some .bool
   | .ptr => ∃ e, P.underlying t = some (.pointer e)
   | .ifc => (∃ ms, P.underlying t = some (.interface ms)) /\ (qaw e1 || qaw e2) = true
   | .agg ks => (∃ fs, P.underlying t = some (.struct fs)) /\ P.eqGuardType P.depth t = false /\ qiw P 20 t = some ks) :
  ((do eqGuard op t e1 e2 u v; binOp op t u v) : Sem Value).run P w = .ok (.bool (if neg then !r else r)) w := by
 have fin : (eqGuard op t e1 e2 u v).run P w = .ok () w -> (∀ k n, u ≠ .int k n) -> (∀ s, u ≠ .string s) -> (∀ k b, u ≠ .float k b) -> (∀ k b c, u ≠ .complex k b c) -> (Op.equal t u v).run P w = .ok r w ->
   ((do eqGuard op t e1 e2 u v; binOp op t u v) : Sem Value).run P w = .ok (.bool (if neg then !r else r)) w := by
  intro hg h1 h2 h3 h4 he
  rcases ho with ⟨rfl, rfl⟩ | ⟨rfl, rfl⟩ <;>
  ·simp only [Sem.run_bind, hg, Result.andThen_ok]
   cases u <;> first
    | (exact absurd rfl (h1 _ _))
    | (exact absurd rfl (h2 _))
    | (exact absurd rfl (h3 _ _))
    | (exact absurd rfl (h4 _ _ _))
    | (simp [binOp, he]; done)
 cases k with
 | bool =>
  cases x <;> cases y <;> simp only [qm1] at h <;> first | (cases h; done) | skip
  rename_i p q
  injection h with h; subst h
  simp only [vr] at hx hy
  subst hx; subst hy
  simp only at ht
  refine fin (by unfold eqGuard; split <;> rfl) (by simp) (by simp) (by simp) (by simp) ?_
  rw [qjy, run_equalIn_bool' w 9999 t p q ht]
  cases p <;> cases q <;> rfl
 | ptr =>
  obtain ⟨e, ht⟩ := ht
  have gd : ∀ p q, (eqGuard op t e1 e2 (.pointer p) (.pointer q)).run P w = .ok () w := fun p q => by unfold eqGuard; split <;> rfl
  cases x <;> cases y <;> simp only [qm1] at h <;> first | (cases h; done) | skip
  all_goals
   injection h with h; subst h
   simp only [vr] at hx hy
  ·subst hx; subst hy
   exact fin (gd _ _) (by simp) (by simp) (by simp) (by simp) (qri ht _)
  ·subst hx; obtain ⟨_, rfl⟩ := hy
   exact fin (gd _ _) (by simp) (by simp) (by simp) (by simp) (qri ht _)
  ·subst hx; obtain ⟨us, ad, _, rfl, _⟩ := hy
   exact fin (gd _ _) (by simp) (by simp) (by simp) (by simp) (qri ht _)
  ·subst hy; obtain ⟨_, rfl⟩ := hx
   exact fin (gd _ _) (by simp) (by simp) (by simp) (by simp) (qxa ht _)
  ·subst hy; obtain ⟨us, ad, _, rfl, _⟩ := hx
   exact fin (gd _ _) (by simp) (by simp) (by simp) (by simp) (qxa ht _)
 | ifc =>
  obtain ⟨⟨ms, ht⟩, hc⟩ := ht
  cases x <;> cases y <;> simp only [qm1] at h <;> first | (cases h; done) | skip
  all_goals
   injection h with h; subst h
   simp only [vr] at hx hy
  ·obtain ⟨q, _, rfl⟩ := hx; subst hy
   exact fin (by unfold eqGuard; split <;> rfl) (by simp) (by simp) (by simp) (by simp) (z4e ht _ _)
  ·subst hx; obtain ⟨q, _, rfl⟩ := hy
   exact fin (by unfold eqGuard; split <;> rfl) (by simp) (by simp) (by simp) (by simp) (z4d ht _ _)
  ·subst hx; subst hy
   refine fin ?_ (by simp) (by simp) (by simp) (by simp) (z4c ht)
   exact qnr hc (by rcases ho with ⟨rfl, _⟩ | ⟨rfl, _⟩ <;> simp)
 | agg ks =>
  obtain ⟨⟨fs, ht⟩, hg, hf⟩ := ht
  cases x <;> cases y <;> simp only [qm1] at h <;> first | (cases h; done) | skip
  simp only [vr] at hx hy
  obtain ⟨us, h1, h2, rfl⟩ := hx
  obtain ⟨vs, h3, h4, rfl⟩ := hy
  refine fin (run_eqGuard_agg w op t e1 e2 _ _ hg) (by simp) (by simp) (by simp) (by simp) ?_
  have := qu3 20 hf h1 h3 h 9980
  simp only [qej, ht] at this
  exact this
end
end Go.Aw
namespace Go.Aw
open Go
set_option linter.all false
variable [Glob]
section
variable {P : Program} {X0 : Cx} {T0 : Tab} {w0 : World} {X : Cx} {lam : Nat -> Nat} {env : Env} {L : Loc} {T : Tab} {a : Act} {w w' : World}
theorem J8 {α β : Type} {x : Option α} {f : α -> Option β} {r : β} (h : x.bind f = some r) : ∃ y, x = some y /\ f y = some r := by
 cases x with
 | none => simp at h
 | some y => exact ⟨y, rfl, h⟩
theorem N8 {α β : Type} {x : Option α} {f : α -> β} {r : β} (h : x.map f = some r) : ∃ y, x = some y /\ f y = r := by
 cases x with
 | none => simp at h
 | some y => simp at h; exact ⟨y, rfl, h⟩
theorem qrj {k : IntKind} {x r : AV} (h : qmx k x = some r) : ∃ k' n, x = .i k' n /\ r = .i k (k.wrap n) := by
 cases x <;> simp only [qmx] at h <;> first | (cases h; done) | skip
 injection h with h
 exact ⟨_, _, rfl, h.symm⟩
theorem q6n {l : List Operand} {args : Array Operand} (h : args.toList = l) : args = l.toArray := by
 apply Array.ext'; simpa using h
theorem qjz : ∀ {fs : List Field} {pl : List (Nat × Nat)}, qh4 P fs = some pl -> (fs.mapM (fun f => (do pure (f.offset, <- sizeOf f.type) : Sem (Nat × Nat)))).run P w = .ok pl w
 | [], pl, h => by simp only [qh4] at h; injection h with h; subst h; simp
 | f :: r, pl, h => by
  simp only [qh4] at h
  cases hs : szT P f.type with
  | none => simp [hs] at h
  | some n =>
  cases hr : qh4 P r with
  | none => simp [hs, hr] at h
  | some l =>
  simp only [hs, hr] at h
  injection h with h; subst h
  obtain ⟨i, hi, hn⟩ := q5v hs
  have ih := qjz (fs := r) hr
  have h1 : (sizeOf f.type).run P w = .ok n w := by simp [sizeOf, typeInfo, hi, hn]
  simp only [List.mapM_cons, Sem.run_bind, h1, ih, Result.andThen_ok, Sem.run_pure]
set_option maxHeartbeats 1000000 in
theorem qxb (h : SR X0 T0 w0 X lam env L T a w) {H : Hint} {o : Oper} {s : SO} (hs : z73 P H o = some s) {x : AV} (hx : pev s env L T = some x) :
  ∃ v, (execOp a.eval o).run P w = .ok (.value v) w /\ evr X lam w x v := by
 obtain ⟨dst, op, ty, pos, after, gd⟩ := o
 cases op <;> simp only [z73] at hs <;> first
  | (cases hs; done)
  | skip
 ·rename_i y
  injection hs with hs; subst hs
  exact ⟨_, rfl, V5 (O2 h hx)⟩
 ·rename_i y
  injection hs with hs; subst hs
  exact ⟨_, rfl, V5 (O2 h hx)⟩
 ·rename_i c y z
  injection hs with hs; subst hs
  simp only [pev] at hx
  obtain ⟨cv, hc, hx⟩ := J8 hx
  cases cv <;> simp only [qph] at hx <;> first | (cases hx; done) | skip
  rename_i b
  have hc := O2 h hc
  simp only [vr] at hc
  cases b with
  | true =>
   simp only [if_true] at hx
   refine ⟨a.eval y, ?_, V5 (O2 h hx)⟩
   simp [execOp, hc, asBool]
  | false =>
   simp only [Bool.false_eq_true, if_false] at hx
   refine ⟨a.eval z, ?_, V5 (O2 h hx)⟩
   simp [execOp, hc, asBool]
 ·-- alloc
  obtain ⟨z, _, hs⟩ := J8 hs
  obtain ⟨n, _, hs⟩ := J8 hs
  split at hs <;> (injection hs with hs; subst hs; simp [pev] at hx)
 ·-- box
  obtain ⟨n, _, hs⟩ := N8 hs
  split at hs
  ·subst hs; simp [pev] at hx
  ·split at hs <;> (subst hs; simp [pev] at hx)
 ·-- build
  rename_i t ps
  obtain ⟨z, hz, hs⟩ := J8 hs
  obtain ⟨zv, z1, z2, z3⟩ := qfr (X := X) (w := w) hz
  have fin : ∀ (place : Nat -> Option (Nat × Nat)) (qs : List (Nat × Nat × Operand)), qfp place ps.toList = some qs -> s = .bld z qs ->
    (∀ vs, Instr.fill place zv.cells (ps.toList.map fun (i, x) => (i, a.eval x)) = some vs -> (Instr.build t (ps.map fun (i, x) => (i, a.eval x))).run P w = .ok (.agg vs) w) ->
    ∃ v, (execOp a.eval { dst, op := .build t ps, type := ty, pos, after, guard := gd }).run P w = .ok (.value v) w /\ evr X lam w x v := by
   intro place qs hq hs' hrun
   subst hs'
   simp only [pev] at hx
   obtain ⟨cells, hb, rfl⟩ := N8 hx
   obtain ⟨vs, f1, f2, f3⟩ := qc9 h hq z2 z3 hb
   refine ⟨.agg vs, q6m (hrun vs f1), ?_⟩
   simp only [evr, vr]
   exact ⟨vs.toList, f2, f3, by simp⟩
  cases hu : P.underlying t with
  | none => simp [hu] at hs
  | some d =>
  cases d <;> simp only [hu] at hs <;> first | (cases hs; done) | skip
  ·rename_i n e
   obtain ⟨sz, hsz, hs⟩ := J8 hs
   obtain ⟨qs, hq, rfl⟩ := N8 hs
   obtain ⟨i, hi, hn⟩ := q5v hsz
   refine fin _ qs hq rfl fun vs hf => ?_
   simp only [Instr.build, Sem.run_bind, z1, Result.andThen_ok, run_underlying hu, sizeOf, typeInfo, run_program, hi, hn, Sem.run_pure, Array.toList_map, hf]
  ·rename_i fs
   obtain ⟨pl, hpl, hs⟩ := J8 hs
   obtain ⟨qs, hq, rfl⟩ := N8 hs
   refine fin _ qs hq rfl fun vs hf => ?_
   have hm := qjz (P := P) (w := w) hpl
   have hf' : Instr.fill (fun i => pl.toArray[i]?) zv.cells (ps.toList.map fun (i, x) => (i, a.eval x)) = some vs := by simpa using hf
   simp only [Instr.build, Sem.run_bind, z1, Result.andThen_ok, run_underlying hu, Array.mapM_eq_mapM_toList, Sem.run_map, hm, Array.toList_map, hf', Sem.run_pure]
 ·-- buildSlice
  rename_i t n ps
  cases hu : P.underlying t with
  | none => simp [hu] at hs
  | some d =>
  cases d <;> simp only [hu] at hs <;> first | (cases hs; done) | skip
  obtain ⟨z, _, hs⟩ := J8 hs
  obtain ⟨s', _, hs⟩ := J8 hs
  split at hs
  ·obtain ⟨qs, _, rfl⟩ := N8 hs
   split at hx <;> simp [pev] at hx
  ·cases hs
 ·-- load
  rename_i t y
  obtain ⟨sz, hsz, hs⟩ := N8 hs
  split at hs
  ·rename_i l _
   subst hs
   simp only [pev] at hx
   obtain ⟨u, hu, hx⟩ := J8 hx
   obtain ⟨q, h1, h2⟩ := qpd h.rel (q8e h hu) (qfq hsz) hx
   exact ⟨q, q6m h1, V5 h2⟩
  ·subst hs
   simp only [pev] at hx
   obtain ⟨u, hu, hx⟩ := J8 hx
   obtain ⟨q, h1, h2⟩ := qu0 h.rel (V5 (O2 h hu)) (qfq hsz) hx
   exact ⟨q, q6m h1, V5 h2⟩
 ·-- store
  obtain ⟨sz, _, hs⟩ := N8 hs
  split at hs <;> (subst hs; simp [pev] at hx)
 ·-- nilCheck
  rename_i y
  injection hs with hs; subst hs
  simp only [pev] at hx
  obtain ⟨u, hu, hx⟩ := J8 hx
  have hv := q8e h hu
  cases u <;> simp only [qh3] at hx <;> first | (cases hx; done) | skip
  all_goals
   injection hx with hx; subst hx
   refine ⟨a.eval y, ?_, hv⟩
  ·simp only [evr, vr] at hv
   simp [execOp, hv.2]
  ·simp only [evr, vr] at hv
   obtain ⟨us, ad, _, e, _⟩ := hv
   simp [execOp, e]
  ·simp only [evr] at hv
   simp [execOp, hv]
 ·-- binOp
  rename_i op t y z yt
  have hbin : s = .bin op y z -> ∃ v, (execOp a.eval { dst, op := .binOp op t y z yt, type := ty, pos, after, guard := gd }).run P w = .ok (.value v) w /\ evr X lam w x v := by
   intro e; subst e
   simp only [pev] at hx
   obtain ⟨u, hu, hx⟩ := J8 hx
   obtain ⟨v, hv, hx⟩ := J8 hx
   obtain ⟨h1, h2⟩ := qws op t (O2 h hu) (O2 h hv) hx y z
   exact ⟨_, q6m h1, V5 h2⟩
  have heq : ∀ neg k, s = .eq neg k y z -> ((op = .eql /\ neg = false) \/ (op = .neq /\ neg = true)) -> (match k with
    | .bool => P.underlying t = some .bool
    | .ptr => ∃ e, P.underlying t = some (.pointer e)
    | .ifc => (∃ ms, P.underlying t = some (.interface ms)) /\ (qaw y || qaw z) = true
    | .agg ks => (∃ fs, P.underlying t = some (.struct fs)) /\ P.eqGuardType P.depth t = false /\ qiw P 20 t = some ks) ->
    ∃ v, (execOp a.eval { dst, op := .binOp op t y z yt, type := ty, pos, after, guard := gd }).run P w = .ok (.value v) w /\ evr X lam w x v := by
   intro neg k e ho ht
   subst e
   simp only [pev] at hx
   obtain ⟨u, hu, hx⟩ := J8 hx
   obtain ⟨v, hv, hx⟩ := J8 hx
   obtain ⟨r, hr, rfl⟩ := N8 hx
   have := qvd (P := P) (w := w) (e1 := y) (e2 := z) (O2 h hu) (O2 h hv) hr ho (t := t) (by cases k <;> exact ht)
   exact ⟨_, q6m this, rfl⟩
  cases hu : P.underlying t with
  | none => simp [hu] at hs
  | some d =>
  cases d <;> simp only [hu] at hs <;> first | (cases hs; done) | skip
  ·cases op <;> simp only at hs <;> first | (cases hs; done) | skip
   ·injection hs with hs; exact heq false .bool hs.symm (.inl ⟨rfl, rfl⟩) hu
   ·injection hs with hs; exact heq true .bool hs.symm (.inr ⟨rfl, rfl⟩) hu
  ·injection hs with hs; exact hbin hs.symm
  ·injection hs with hs; exact hbin hs.symm
  ·cases op <;> simp only at hs <;> first | (cases hs; done) | skip
   ·injection hs with hs; exact heq false .ptr hs.symm (.inl ⟨rfl, rfl⟩) ⟨_, hu⟩
   ·injection hs with hs; exact heq true .ptr hs.symm (.inr ⟨rfl, rfl⟩) ⟨_, hu⟩
  ·split at hs <;> first | (cases hs; done) | (injection hs with hs; subst hs; simp [pev] at hx)
  ·split at hs
   ·cases hs
   ·rename_i hg
    obtain ⟨ks, hk, hs⟩ := J8 hs
    cases op <;> simp only at hs <;> first | (cases hs; done) | skip
    ·injection hs with hs; exact heq false (.agg ks) hs.symm (.inl ⟨rfl, rfl⟩) ⟨⟨_, hu⟩, by simpa using hg, hk⟩
    ·injection hs with hs; exact heq true (.agg ks) hs.symm (.inr ⟨rfl, rfl⟩) ⟨⟨_, hu⟩, by simpa using hg, hk⟩
  ·split at hs
   ·rename_i hc
    cases op <;> simp only at hs <;> first | (cases hs; done) | skip
    ·injection hs with hs; exact heq false .ifc hs.symm (.inl ⟨rfl, rfl⟩) ⟨⟨_, hu⟩, hc⟩
    ·injection hs with hs; exact heq true .ifc hs.symm (.inr ⟨rfl, rfl⟩) ⟨⟨_, hu⟩, hc⟩
   ·cases hs
 ·-- unOp
  rename_i op t y
  injection hs with hs; subst hs
  simp only [pev] at hx
  obtain ⟨u, hu, hx⟩ := J8 hx
  obtain ⟨h1, h2⟩ := z0w (P := P) op (O2 h hu) hx
  exact ⟨_, q6m h1, V5 h2⟩
 ·-- convert
  rename_i sT dT y
  cases hd : P.underlying dT with
  | none => simp [hd] at hs
  | some dd =>
  cases dd <;> simp only [hd] at hs <;> first
   | (cases hs; done)
   | skip
  ·rename_i k
   split at hs
   ·rename_i hu
    injection hs with hs; subst hs
    simp only [pev] at hx
    obtain ⟨u, hv, hx⟩ := J8 hx
    obtain ⟨k', n, rfl, rfl⟩ := qrj hx
    have hv := O2 h hv
    simp only [vr] at hv
    obtain ⟨ud, hu⟩ := Option.isSome_iff_exists.1 hu
    refine ⟨.int k (k.wrap n), q6m ?_, rfl⟩
    rw [hv]
    simp [convert, run_underlying hu, run_underlying hd, Conv.intToInt]
   ·cases hs
  ·cases hu : P.underlying sT with
   | none => simp [hu] at hs
   | some ud =>
   cases ud <;> simp only [hu] at hs <;> first | (cases hs; done) | skip
   ·injection hs with hs; subst hs
    simp only [pev] at hx
    obtain ⟨u, hv, hx⟩ := J8 hx
    have hv := O2 h hv
    cases u <;> simp only at hx <;> first | (cases hx; done) | skip
    injection hx with hx; subst hx
    simp only [vr] at hv
    refine ⟨_, q6m ?_, rfl⟩
    rw [hv]
    simp [convert, run_underlying hu, run_underlying hd]
   ·rename_i e
    split at hs
    ·rename_i he
     injection hs with hs; subst hs
     simp only [pev] at hx
     obtain ⟨u, hv, hx⟩ := J8 hx
     obtain ⟨cells, hc, hx⟩ := J8 hx
     have hv := O2 h hv
     have he' : P.underlying e = some (.int .u8) := by
      unfold u8T at he
      split at he
      ·assumption
      ·cases he
     have hns : ∀ l, u ≠ .s l := by rintro l rfl; simp at hx
     have hb : ∃ l, q7v cells = some l /\ x = .s l := by
      cases u <;> simp only at hx <;> first
       | (cases hx; done)
       | (obtain ⟨l, h1, h2⟩ := N8 hx; exact ⟨l, h1, h2.symm⟩)
     obtain ⟨l, hl, rfl⟩ := hb
     have h1 := qx4 (P := P) h.rel hv hc hns hl
     refine ⟨_, q6m ?_, rfl⟩
     have hu2 : ∃ p q r, a.eval y = .slice p q r := by
      cases u <;> simp only [Z4] at hc <;> first | (cases hc; done) | skip
      ·exact absurd rfl (hns _)
      ·simp only [vr] at hv
       obtain ⟨us, _, (⟨e, _⟩ | ⟨ad, c, e, _⟩)⟩ := hv <;> exact ⟨_, _, _, e⟩
      ·simp only [vr] at hv
       obtain ⟨_, c, e, _⟩ := hv
       exact ⟨_, _, _, e⟩
     obtain ⟨p, q, r, e1⟩ := hu2
     rw [e1] at h1 ⊢
     rw [run_convert_bytes_string w sT dT e p q r hu he' hd]
     exact h1
    ·cases hs
  ·rename_i e
   cases hu : P.underlying sT with
   | none => simp [hu] at hs
   | some ud =>
   cases ud <;> simp only [hu] at hs <;> first | (cases hs; done) | skip
   all_goals
    split at hs
    ·injection hs with hs; subst hs; simp [pev] at hx
    ·cases hs
 ·-- makeInterface
  rename_i t y
  have hc : P.concrete t = true /\ s = .ifc t y := by
   unfold Program.concrete
   cases hu : P.underlying t with
   | none => simp [hu] at hs
   | some d => cases d <;> simp only [hu] at hs <;> first | (cases hs; done) | (injection hs with hs; exact ⟨rfl, hs.symm⟩)
  obtain ⟨hc, rfl⟩ := hc
  simp only [pev] at hx
  obtain ⟨u, hu, rfl⟩ := N8 hx
  refine ⟨_, q6m (run_makeInterface w t _ hc), ?_⟩
  simp only [evr, vr]
  exact ⟨_, O2 h hu, rfl⟩
 ·-- makeFunc
  rename_i f first cap
  injection hs with hs; subst hs
  simp only [pev] at hx
  obtain ⟨u, hu, hx⟩ := J8 hx
  obtain ⟨v, hv, rfl⟩ := N8 hx
  have h1 := q8g h hu
  have h2 := q8g h hv
  refine ⟨_, rfl, ?_⟩
  simp only [evr, vr]
  refine ⟨_, _, h1, h2, ?_⟩
  congr 1 <;> (apply Array.ext'; simp)
 ·-- makeMap
  split at hs
  ·injection hs with hs; subst hs; simp [pev] at hx
  ·cases hs
 ·-- makeSlice
  split at hs
  ·obtain ⟨i, _, hs⟩ := J8 hs
   obtain ⟨z, _, hs⟩ := J8 hs
   split at hs
   ·injection hs with hs; subst hs; simp [pev] at hx
   ·cases hs
  ·cases hs
 ·-- slice
  rename_i t y lo hi mx
  cases hu : P.underlying t with
  | none => simp [hu] at hs
  | some d =>
  cases d <;> simp only [hu] at hs <;> first | (cases hs; done) | skip
  ·split at hs
   ·rename_i hm
    injection hs with hs; subst hs
    have hm : mx = none := by simpa using hm
    subst hm
    simp only [pev] at hx
    obtain ⟨u, hv, hx1⟩ := J8 hx
    obtain ⟨lv, hl, hx2⟩ := J8 hx1
    obtain ⟨hv', hh, hx3⟩ := J8 hx2
    clear hx hx1 hx2
    have hx := hx3
    clear hx3
    have hb : ∃ b l h, u = .s b /\ bnd 0 lv = some l /\ bnd b.length hv' = some h := by
     cases u <;> simp only [qjt] at hx <;> first | (cases hx; done) | skip
     rename_i b
     cases e1 : bnd 0 lv with
     | none => simp [e1] at hx
     | some l =>
     cases e2 : bnd b.length hv' with
     | none => simp [e1, e2] at hx
     | some hh => exact ⟨b, l, hh, rfl, rfl, e2⟩
    obtain ⟨b, l, hq, rfl, e1, e2⟩ := hb
    obtain ⟨q, h1, h2⟩ := qpe (P := P) (O2 h hv) (qnq h hl e1) (qnq h hh e2) hu hx
    exact ⟨q, q6m h1, V5 h2⟩
   ·cases hs
  ·rename_i e
   obtain ⟨n, hn, rfl⟩ := N8 hs
   obtain ⟨i, hi, hsz⟩ := q5v hn
   simp only [pev] at hx
   obtain ⟨u, hv, hx1⟩ := J8 hx
   obtain ⟨lv, hl, hx2⟩ := J8 hx1
   obtain ⟨hv', hh, hx3⟩ := J8 hx2
   obtain ⟨mv, hm, hx4⟩ := J8 hx3
   clear hx hx1 hx2 hx3
   have hx := hx4
   clear hx4
   have hb : ∃ m l h, bnd 0 lv = some l /\ bnd m hv' = some h /\ (mv = none \/ ∃ k j, mv = some (.i k j)) := by
    cases u <;> simp only [qrh] at hx <;> first | (cases hx; done) | skip
    ·rename_i m cells cap
     cases e1 : bnd 0 lv with
     | none => simp [e1] at hx
     | some l =>
     cases e2 : bnd m hv' with
     | none => simp [e1, e2] at hx
     | some hq =>
     refine ⟨m, l, hq, rfl, e2, ?_⟩
     cases mv with
     | none => exact .inl rfl
     | some z => cases z <;> simp only [e1, e2] at hx <;> first | (cases hx; done) | exact .inr ⟨_, _, rfl⟩
    ·rename_i id o m cap
     split at hx
     ·split at hx
      ·cases e1 : bnd 0 lv with
       | none => simp [e1] at hx
       | some l =>
       cases e2 : bnd m hv' with
       | none => simp [e1, e2] at hx
       | some hq =>
       refine ⟨m, l, hq, rfl, e2, ?_⟩
       cases mv with
       | none => exact .inl rfl
       | some z => cases z <;> simp only [e1, e2] at hx <;> first | (cases hx; done) | exact .inr ⟨_, _, rfl⟩
      ·cases hx
     ·cases hx
   obtain ⟨m, l, hq, e1, e2, e3⟩ := hb
   have hmr : qeh mv (mx.map a.eval) := by
    rcases qhu h hm with ⟨rfl, rfl⟩ | ⟨z, q, rfl, rfl, hz⟩
    ·trivial
    ·rcases e3 with e3 | ⟨k, j, e3⟩
     ·cases e3
     ·injection e3 with e3; subst e3
      simp only [vr] at hz
      exact hz
   obtain ⟨q, h1, h2⟩ := qwu (P := P) h.rel (O2 h hv) (qnq h hl e1) (qnq h hh e2) hmr hu hi hsz hx
   exact ⟨q, q6m h1, V5 h2⟩
 ·-- fieldAddr
  rename_i t y f
  cases hu : P.underlying t with
  | none => simp [hu] at hs
  | some d =>
  cases d <;> simp only [hu] at hs <;> first | (cases hs; done) | skip
  rename_i fs
  obtain ⟨fd, hf, hs⟩ := J8 hs
  cases hsz : szT P fd.type with
  | none => simp [hsz] at hs
  | some n =>
  cases n with
  | zero => simp [hsz] at hs
  | succ n =>
  simp only [hsz] at hs
  injection hs with hs; subst hs
  obtain ⟨i, hi, hn⟩ := q5v hsz
  simp only [pev] at hx
  obtain ⟨u, hv, hx⟩ := J8 hx
  obtain ⟨ad, q, h1, rfl, h2⟩ := qv8 (q8e h hv) hx
  refine ⟨_, q6m ?_, h2⟩
  simp [Instr.fieldAt, run_underlying hu, hf, h1, Instr.sureAddr, fieldPlace, sizeOf, typeInfo, hi, hn]
 ·-- field
  rename_i t y f
  cases hu : P.underlying t with
  | none => simp [hu] at hs
  | some d =>
  cases d <;> simp only [hu] at hs <;> first | (cases hs; done) | skip
  rename_i fs
  obtain ⟨fd, hf, hs⟩ := J8 hs
  obtain ⟨sz, hsz, rfl⟩ := N8 hs
  simp only [pev] at hx
  obtain ⟨u, hv, hx⟩ := J8 hx
  obtain ⟨q, h1, h2⟩ := qwv (P := P) (O2 h hv) hu hf rfl (qfq hsz) hx
  exact ⟨q, q6m h1, V5 h2⟩
 ·-- indexAddr
  rename_i t y i
  have hix : ∃ n al, s = .iadr (z0x H y) n al y i /\ IxT P t n al := by
   cases hu : P.underlying t with
   | none => simp [hu] at hs
   | some d =>
   cases d <;> simp only [hu] at hs <;> first | (cases hs; done) | skip
   ·obtain ⟨n, hn, rfl⟩ := N8 hs
    obtain ⟨i', hi, hsz⟩ := q5v hn
    exact ⟨n, none, rfl, _, i', hi, hsz, hu⟩
   ·obtain ⟨n, hn, rfl⟩ := N8 hs
    obtain ⟨i', hi, hsz⟩ := q5v hn
    exact ⟨n, some _, rfl, _, i', hi, hsz, hu⟩
  obtain ⟨n, al, rfl, ht⟩ := hix
  simp only [pev] at hx
  obtain ⟨u, hv, hx⟩ := J8 hx
  obtain ⟨iv, hi, hx⟩ := J8 hx
  obtain ⟨q, h1, h2⟩ := qva (P := P) (q8e h hv) (O2 h hi) ht hx
  exact ⟨q, q6m h1, h2⟩
 ·-- index
  rename_i t y i
  cases hu : P.underlying t with
  | none => simp [hu] at hs
  | some d =>
  cases d <;> simp only [hu] at hs <;> first | (cases hs; done) | skip
  ·injection hs with hs; subst hs
   simp only [pev] at hx
   obtain ⟨u, hv, hx⟩ := J8 hx
   obtain ⟨iv, hi, hx⟩ := J8 hx
   obtain ⟨q, h1, h2⟩ := qpf (P := P) (O2 h hv) (O2 h hi) hu hx
   exact ⟨q, q6m h1, V5 h2⟩
  ·obtain ⟨z, hz, hs⟩ := J8 hs
   obtain ⟨l, hl, rfl⟩ := N8 hs
   obtain ⟨inf, hinf, hsz⟩ := q5v hz
   simp only [pev] at hx
   obtain ⟨u, hv, hx⟩ := J8 hx
   obtain ⟨iv, hi, hx⟩ := J8 hx
   obtain ⟨q, h1, h2⟩ := qww (P := P) (O2 h hv) (O2 h hi) hu hinf hsz (qfq hl) hx
   exact ⟨q, q6m h1, V5 h2⟩
 ·-- lookup
  split at hs
  ·obtain ⟨d, _, hs⟩ := J8 hs
   obtain ⟨m, _, hs⟩ := J8 hs
   obtain ⟨z, _, rfl⟩ := N8 hs
   simp [pev] at hx
  ·cases hs
 ·-- mapUpdate
  split at hs
  ·obtain ⟨d, _, hs⟩ := J8 hs
   obtain ⟨m, _, rfl⟩ := N8 hs
   simp [pev] at hx
  ·cases hs
 ·-- extract
  rename_i y i
  injection hs with hs; subst hs
  simp only [pev] at hx
  obtain ⟨u, hv, hx⟩ := J8 hx
  obtain ⟨q, h1, h2⟩ := qwy (P := P) (O2 h hv) hx
  exact ⟨q, q6m h1, V5 h2⟩
 ·-- call
  rename_i c
  obtain ⟨callee, args, ats⟩ := c
  cases callee with
  | value f =>
   cases f <;> simp only at hs <;> first
    | (cases hs; done)
    | (injection hs with hs; subst hs; simp [pev] at hx; done)
    | (split at hs <;> first | (cases hs; done) | (injection hs with hs; subst hs; simp [pev] at hx; done))
  | invoke r m => simp only at hs; cases hs
  | builtin b =>
   cases b <;> simp only at hs <;> first
    | (cases hs; done)
    | skip
   ·-- append
    split at hs
    ·split at hs
     ·split at hs
      ·obtain ⟨i, _, hs⟩ := J8 hs
       obtain ⟨z, _, hs⟩ := J8 hs
       split at hs
       ·injection hs with hs; subst hs; simp [pev] at hx
       ·cases hs
      ·obtain ⟨i, _, hs⟩ := J8 hs
       obtain ⟨z, _, hs⟩ := J8 hs
       split at hs
       ·injection hs with hs; subst hs; simp [pev] at hx
       ·cases hs
     ·cases hs
    ·cases hs
   ·-- cap
    split at hs
    ·rename_i y t ha hb
     obtain rfl := q6n ha
     have hb' : ats = #[t] := by apply Array.ext'; simpa using hb
     subst hb'
     have hl : s = .cap y /\ ∃ e, P.underlying t = some (.slice e) := by
      cases hu : P.underlying t with
      | none => simp [hu] at hs
      | some d =>
      cases d <;> simp only [hu] at hs <;> first
       | (cases hs; done)
       | (injection hs with hs; exact ⟨hs.symm, ⟨_, rfl⟩⟩)
     obtain ⟨rfl, e, ht⟩ := hl
     simp only [pev] at hx
     obtain ⟨u, hv, hx⟩ := J8 hx
     obtain ⟨q, h1, h2⟩ := qwx (P := P) (ty := ty) (O2 h hv) ht hx
     refine ⟨q, ?_, V5 h2⟩
     simp [execOp, resolve, invoke, builtin, h1]
    ·cases hs
   ·-- clear
    split at hs
    ·split at hs
     ·obtain ⟨z, _, hs⟩ := J8 hs
      obtain ⟨n, _, hs⟩ := J8 hs
      split at hs
      ·injection hs with hs; subst hs; simp [pev] at hx
      ·cases hs
     ·cases hs
    ·cases hs
   ·-- len
    split at hs
    ·rename_i y t ha hb
     obtain rfl := q6n ha
     have hb' : ats = #[t] := by apply Array.ext'; simpa using hb
     subst hb'
     have hl : ∃ str, s = .len str y /\ (if str then P.underlying t = some .string else ∃ e, P.underlying t = some (.slice e)) := by
      cases hu : P.underlying t with
      | none => simp [hu] at hs
      | some d =>
      cases d <;> simp only [hu] at hs <;> first
       | (cases hs; done)
       | (injection hs with hs; exact ⟨true, hs.symm, rfl⟩)
       | (injection hs with hs; exact ⟨false, hs.symm, ⟨_, rfl⟩⟩)
     obtain ⟨str, rfl, ht⟩ := hl
     simp only [pev] at hx
     obtain ⟨u, hv, hx⟩ := J8 hx
     obtain ⟨q, h1, h2⟩ := qwt (P := P) (ty := ty) (O2 h hv) ht hx
     refine ⟨q, ?_, V5 h2⟩
     simp [execOp, resolve, invoke, builtin, h1]
    ·cases hs
   all_goals
    split at hs
    ·rename_i y z ha
     obtain rfl := q6n ha
     injection hs with hs; subst hs
     simp only [pev] at hx
     obtain ⟨u, hu, hx⟩ := J8 hx
     obtain ⟨v, hv, hx⟩ := J8 hx
     have hu := O2 h hu
     have hv := O2 h hv
     cases u <;> cases v <;> simp only [qx1] at hx <;> first | (cases hx; done) | skip
     injection hx with hx; subst hx
     simp only [vr] at hu hv
     refine ⟨_, ?_, rfl⟩
     simp [execOp, resolve, invoke, builtin, hu, hv, run_max_int2, run_min_int2]
    ·cases hs
 ·-- panic
  injection hs with hs; subst hs; simp [pev] at hx
end
end Go.Aw
namespace Go.Aw
open Go
set_option linter.all false
variable [Glob]
def Nx (X0 : Cx) (T0 : Tab) (w0 : World) (n : Nat) (K : Env -> Loc -> Tab -> Prop) (a : Act) (w : World) : Prop :=
 ∃ X lam env L T, K env L T /\ SR X0 T0 w0 X lam env L T a w /\ a.tmps.size = n
section
variable {P : Program} {X0 : Cx} {T0 : Tab} {w0 : World} {X : Cx} {lam : Nat -> Nat} {env : Env} {L : Loc} {T : Tab} {a : Act} {w w' : World}
theorem Nx.put {X : Cx} {lam : Nat -> Nat} {K : Env -> Loc -> Tab -> Prop} (h : SR X0 T0 w0 X lam env L T a w) {d : Option Nat} (hd : ∀ k, d = some k -> k < a.tmps.size) {x : AV} {v : Value} (hv : evr X lam w x v)
  (hk : K (q06 env d x) L T) : Nx X0 T0 w0 a.tmps.size K (a.put d v) w := by
 cases d with
 | none => exact ⟨X, lam, env, L, T, hk, h, rfl⟩
 | some k => exact ⟨X, lam, q96 env k x, L, T, hk, h.put (hd k rfl) hv, by simp [Act.put]⟩
theorem q15 {o : Oper} {v : Value} {K : Act -> World -> Prop} {Q : Exit -> Act -> World -> Prop} (h : (execOp a.eval o).run P w = .ok (.value v) w') (hk : K (a.put o.dst v) w') : o.wp P a w K Q := by
 unfold Oper.wp; rw [h]; exact hk
theorem wp_skip' {o : Oper} {K : Act -> World -> Prop} {Q : Exit -> Act -> World -> Prop} (h : (execOp a.eval o).run P w = .ok .skip w') (hk : K (a.put o.dst undef) w') : o.wp P a w K Q := by
 unfold Oper.wp; rw [h]; exact hk
theorem z0y : vr X w (.tup []) undef := ⟨[], rfl, rfl⟩
theorem qmz (t : TypeId) (v : Value) : (newVar t v).run P w = .ok ⟨w.heap.size, 0, none⟩ (w.alloc (.cells v.cells t)) := by
 simp [newVar, newRow]
theorem qns {t : TypeId} {v : Value} (hz : (zeroValue t).run P w = .ok v w) : (Instr.alloc t true (.tuple #[])).run P w = .ok (.pointer (some ⟨w.heap.size, 0, none⟩)) (w.alloc (.cells v.cells t)) := by
 simp [Instr.alloc, hz, qmz]
theorem SR.newLocPut (h : SR X0 T0 w0 X lam env L T a w) {l : Nat} (hl : l < a.tmps.size) {cells : List AV} {us : Array Value} (e : TypeId) (hv : vrs X w cells us.toList) (h1 : ∀ u ∈ us.toList, u.oneCell' = true)
  {K : Env -> Loc -> Tab -> Prop} (hk : K (q96 (q1u env l) l (.lp l 0)) (q96 L l cells) T) :
  Nx X0 T0 w0 a.tmps.size K (a.put (some l) (.pointer (some ⟨w.heap.size, 0, none⟩))) (w.alloc (.cells us e)) := by
 have := h.allocLoc l e hv h1
 simp only [Array.toArray_toList] at this
 exact ⟨_, _, _, _, _, hk, this.put hl (by simp [evr]), by simp [Act.put]⟩
theorem SR.newRowPut (h : SR X0 T0 w0 X lam env L T a w) {d : Option Nat} (hd : ∀ k, d = some k -> k < a.tmps.size) (esz : Nat) {cells : List AV} {us : Array Value} (e : TypeId) (hv : vrs X w cells us.toList) (h1 : ∀ u ∈ us.toList, u.oneCell' = true)
  {K : Env -> Loc -> Tab -> Prop} (hk : ∀ id, T id = .unused -> K (q06 env d (.ptr id 0)) L (T.put id (.row esz cells))) :
  Nx X0 T0 w0 a.tmps.size K (a.put d (.pointer (some ⟨w.heap.size, 0, none⟩))) (w.alloc (.cells us e)) := by
 have := h.allocRow esz e hv h1
 simp only [Array.toArray_toList] at this
 refine Nx.put this hd (x := .ptr X.N 0) ?_ (hk X.N (h.rel.fresh _ (Nat.le_refl _)))
 simp [evr, vr, Cx.addRow]
theorem SR.newFzPut (h : SR X0 T0 w0 X lam env L T a w) {d : Option Nat} (hd : ∀ k, d = some k -> k < a.tmps.size) {cells : List AV} {us : Array Value} (e : TypeId) (hv : vrs X w cells us.toList) (h1 : ∀ u ∈ us.toList, u.oneCell' = true)
  {x : AV} {v : Value} {K : Env -> Loc -> Tab -> Prop} (hk : K (q06 env d x) L T)
  (hx : ∀ X' w', vrs X' w' cells us.toList -> FzRow X' w' ⟨w.heap.size, 0, none⟩ us.toList -> vr X' w' x v) : Nx X0 T0 w0 a.tmps.size K (a.put d v) (w.alloc (.cells us e)) := by
 have hg := World.grownBy_alloc w (.cells us e) none
 have := h.allocFz hg (b := w.heap.size) (Nat.le_refl _) (by simp)
 have hv' := vrs.mono (X.le_addFz w.heap.size) (h.fzKept_grow hg) _ _ hv
 refine Nx.put this hd (V5 (hx _ _ hv' (.inr ⟨.inr rfl, h1, fun j u hu => ?_⟩))) hk
 rw [cell_of_row _ w.heap.size (0 + j) us e (0, 0) (heap_alloc_new w _)]
 simpa using hu
theorem qjh (z : Array Value) : ∀ n, (Builtin.zeroCells z n).toList = rep z.toList n := by
 intro n
 have key : ∀ n, (List.range (n * z.size)).map (fun i => z[i % z.size]!) = rep z.toList n := by
  intro n
  induction n with
  | zero => simp [rep]
  | succ n ih =>
   rw [show (n + 1) * z.size = z.size + n * z.size by rw [Nat.add_mul, Nat.one_mul, Nat.add_comm], List.range_add, List.map_append, List.map_map, rep, <- ih]
   congr 1
   ·apply List.ext_getElem?
    intro j
    by_cases hj : j < z.size
    ·simp [hj, Nat.mod_eq_of_lt hj]
    ·simp [hj]
   ·apply List.map_congr_left
    intro i _
    simp
 rw [<- key n]
 simp [Builtin.zeroCells]
theorem vrs.rep {z : List AV} {us : List Value} (h : vrs X w z us) : ∀ n, vrs X w (Aw.rep z n) (Aw.rep us n)
 | 0 => rfl
 | n + 1 => h.append (vrs.rep h n)
theorem qk0 {α : Type} {x : α} {l : List α} : ∀ {n : Nat}, x ∈ rep l n -> x ∈ l
 | n + 1, h => by
  rcases List.mem_append.1 h with h | h
  ·exact h
  ·exact qk0 h
theorem qa3 {α : Type} (l : List α) : ∀ n, (rep l n).length = n * l.length
 | 0 => by simp [rep]
 | n + 1 => by rw [rep, List.length_append, qa3 l n, Nat.add_mul, Nat.one_mul, Nat.add_comm]
theorem qhy {f : FuncId} (h : K4 P f = true) (args : Array Value) : (callFunc f args).run P w = .ok (.enter f args) w := by
 unfold K4 at h
 cases hf : P.funcs[f]? with
 | none => simp [hf] at h
 | some fn =>
  simp only [hf, Bool.and_eq_true, bne_iff_ne, ne_eq] at h
  have hb : fn.body ≠ none := by intro e; simp [e] at h
  simp [callFunc, hf, h.1, hb]
theorem qnt {x : AV} {v : Value} (h : vr X w x v) : x.isLp = false := by
 cases x <;> first | rfl | (simp [vr] at h)
theorem qpj (h : SR X0 T0 w0 X lam env L T a w) {d : Option Nat} (hd : ∀ k, d = some k -> k < a.tmps.size) {f : FuncId} {avs : List AV} {vs : List Value} (hv : vrs X w avs vs) {S : List Nat} (hn : S.Nodup) (hl : ∀ id ∈ S, T id ≠ .unused)
  {R : AV -> Tab -> Prop} (hc : ACalls P f (avs.map (q99 T S)) (qfo T S) R) {K : Env -> Loc -> Tab -> Prop} (hk : ∀ v T', R v T' /\ v.isLp = false -> K (q06 env d v) L T') :
  Calls P f vs.toArray w fun
   | .returned v, w'' => Nx X0 T0 w0 a.tmps.size K (a.put d v) w''
   | _, _ => False := by
 have h' := h.freezes S hn hl
 have hw : SR X0 T0 w0 (X.addFzs S) lam [] [] (qfo T S) a w := h'.weaken (fun _ _ hx => by simp [q10] at hx) (fun _ _ hx => by simp [q10] at hx)
 refine (hc (X.addFzs S) lam w vs hw.rel (hv.map fun x v hx => qa1 h.rel hx)).mono ?_
 rintro e w'' ⟨v, x, T', X', lam', rfl, hR, hx, hr, hs⟩
 exact Nx.put (h'.call hs hr) hd (V5 hx) (hk x T' ⟨hR, qnt hx⟩)
theorem SR.opdV (h : SR X0 T0 w0 X lam env L T a w) {o : Operand} {x : AV} (ho : Aw.Z7 env o = some x) : vr X w x (a.eval o) := O2 h ho
theorem Nx.undef {K : Env -> Loc -> Tab -> Prop} (h : SR X0 T0 w0 X lam env L T a w) {d : Option Nat} (hd : ∀ k, d = some k -> k < a.tmps.size) (hk : K (q06 env d (.tup [])) L T) : Nx X0 T0 w0 a.tmps.size K (a.put d Go.undef) w :=
 Nx.put h hd (x := .tup []) (V5 z0y) hk
theorem qxc (h : SR X0 T0 w0 X lam env L T a w) {id o n : Nat} {cap : Option Nat} {cells : List AV} {v : Value} {t e : TypeId} (hT : T id = .row 1 cells) (_hle : o + n <= cells.length) (hv : vr X w (.sl id o n cap) v)
  (ht : P.underlying t = some (.slice e)) (he : P.underlying e = some (.int .u8)) :
  ∃ w', (convert t t v).run P w = .ok v w' /\ SR X0 T0 w0 (X.addFz (X.β id).blk) lam env L (T.put id .unused) a w' /\ vr (X.addFz (X.β id).blk) w' (.fz n ((cells.drop o).take n) cap) v := by
 have hid : T id ≠ .unused := by simp [hT]
 simp only [vr] at hv
 obtain ⟨h1, c, rfl, h3, h4, h5⟩ := hv
 obtain ⟨cur, ee, us, r1, r2, r3, r4, r5, r6, r7⟩ := h.rel.row id 1 cells hT
 have hsh : w.shape? (X.β id).blk = some (ee, cur.size) := by simp [World.shape?, r1]
 refine ⟨w.freeze ⟨(X.β id).blk, cur.size, none⟩ 1, ?_, ?_⟩
 ·simp [convert, run_underlying ht, run_underlying he, markStringish, hsh]
 ·have hg : w.grownBy (w.freeze ⟨(X.β id).blk, cur.size, none⟩ 1) (some (X.β id).blk) := by
   refine ⟨rfl, rfl, rfl, by simp [World.freeze], fun k hk hne => ?_⟩
   have hne : ¬ (X.β id).blk = k := fun e => hne (by rw [e])
   simp [World.freeze, Array.getElem?_modify, hne]
  have hsr := h.dirtyFz hid hg
  refine ⟨hsr, ?_⟩
  have hb : ∃ fr, (w.freeze ⟨(X.β id).blk, cur.size, none⟩ 1).heap[(X.β id).blk]? = some (.cells cur ee fr) := by
   simp only [World.freeze]
   rw [if_neg (by decide)]
   simp [Array.getElem?_modify, r1]
  obtain ⟨fr, hb⟩ := hb
  simp only [vr]
  refine ⟨(us.drop o).take n, vrs.mono (X.le_addFz _) (h.rel.fzKept_row hid hg) _ _ ((r2.drop o).take _), .inr ⟨_, c, rfl, .inr rfl, h3, h4, ?_⟩⟩
  have hfz : FzRow (X.addFz (X.β id).blk) (w.freeze ⟨(X.β id).blk, cur.size, none⟩ 1) ⟨(X.β id).blk, (X.β id).base + o, none⟩ (us.drop o) := by
   refine Or.inr ⟨Or.inr rfl, fun u hu => r3 u (List.mem_of_mem_drop hu), fun j u hu => ?_⟩
   rw [List.getElem?_drop] at hu
   have := r4 _ u hu
   simp only [World.cell?, hb]
   simpa [Nat.add_assoc] using this
  exact hfz.take _
theorem qhz {e : Env} : ∀ {ps : List (Nat × Nat × Operand)} {c r : List AV}, q97 e c ps = some r -> r.length = c.length
 | [], c, r, h => by simp only [q97] at h; injection h with h; subst h; rfl
 | (o, z, x) :: ps, c, r, h => by
  simp only [q97] at h
  cases hx : Z7 e x with
  | none => simp [hx] at h
  | some y =>
   simp only [hx] at h
   split at h
   ·rw [qhz h, qfs]
   ·cases h
theorem qxd (h : SR X0 T0 w0 X lam env L T a w) {t tx ty e : TypeId} {k k1 : IntKind} {i : TypeInfo} {z v0 : Value} {zc : List AV} {q : Int} (ht : P.underlying t = some (.slice e)) (hx : P.underlying tx = some (.int k)) (hi : P.info? e = some i)
  (hz : i.zero = some z) (hzs : z.cells.size = i.size) (z1 : vrs X w zc z.cells.toList) (z2 : ∀ u ∈ z.cells.toList, u.oneCell' = true) (hpos : 0 < i.size) (m1 : 0 < q) (m2 : q.toNat * i.bytes <= 140737488355328) (m3 : q <= 9223372036854775807)
  (hv : v0 = .slice none 0 0 \/ ∃ ad, v0 = .slice (some ad) 0 0) :
  ∃ w', (Builtin.append_ #[t, tx] ty #[v0, .int k1 q]).run P w = .ok (.slice (some ⟨w.heap.size, 0, none⟩) q.toNat (grownCap w q.toNat 0 e)) w' /\
   SR X0 T0 w0 (X.addRow ⟨w.heap.size, 0, grownCap w q.toNat 0 e * i.size, i.size⟩) lam env L (T.put X.N (.row i.size (rep zc q.toNat))) a w' /\
   vr (X.addRow ⟨w.heap.size, 0, grownCap w q.toNat 0 e * i.size, i.size⟩) w' (.sl X.N 0 q.toNat none) (.slice (some ⟨w.heap.size, 0, none⟩) q.toNat (grownCap w q.toNat 0 e)) := by
 have hr := qjh z.cells q.toNat
 have hg := h.grown (e := e) (z := z) (esz := i.size) (need := q.toNat) (cap := grownCap w q.toNat 0 e) (olds := []) (cells := []) (news := (Builtin.zeroCells z.cells q.toNat).toList) (xs := rep zc q.toNat) rfl
  (by rw [hr]; exact z1.rep _) (by simp) (by rw [hr]; exact fun u hu => z2 u (qk0 hu)) hzs (by rw [List.nil_append, qa3, z1.length.symm.trans (by simpa using hzs)]) (grownCap_ge w _ 0 e)
 simp only [List.nil_append] at hg
 refine ⟨_, ?_, hg.1, hg.2⟩
 have hw : IntKind.i64.wrap q = q := by rw [IntKind.wrap_i64]; omega
 have hq : (q.toNat : Int) = q := Int.toNat_of_nonneg (by omega)
 have h48 := growslice_fits (old := 0) (need := q.toNat) (by omega) m2
 have n1 : ¬ q < 0 := by omega
 have hqb : q * (i.bytes : Int) <= 140737488355328 := by rw [<- hq, <- Int.natCast_mul]; omega
 have n2 : ¬ (281474976710656 < q * (i.bytes : Int)) := by omega
 have n3 : ¬ (q.toNat * i.size = 0) := by
  intro e
  rcases Nat.mul_eq_zero.1 e with e | e <;> omega
 have n4 : ¬ (q.toNat <= 0) := by omega
 have n5 : ¬ (281474976710656 < Builtin.nextslicecap q.toNat 0 * i.bytes) := by omega
 have n6 : ¬ (9223372036854775807 < (q.toNat : Int)) := by omega
 have n7 : ¬ q <= 0 := by omega
 have n8 : ¬ (9223372036854775807 < max q 0) := by omega
 have hld : ∀ ad, (loadCells ad 0).run P w.drew = .ok #[] w.drew := fun ad => run_loadCells_list w.drew ad [] fun j v hv => by simp at hv
 rcases hv with rfl | ⟨ad, rfl⟩ <;>
 ·simp only [Builtin.append_]
  simp [run_underlying ht, run_underlying hx, sizeOf, typeInfo, zeroValue, hi, hz, asInt, asIntOf, hw, n1, n2, n3, n4, n5, n6, n7, n8, Question.forced, newRow, grownCap, Builtin.firstCells, hld]
  congr 2
  apply Array.ext'
  simp
theorem qu4 {o : Oper} {f : FuncId} {vs : Array Value} {n : Nat} {K : Env -> Loc -> Tab -> Prop} {Q : Exit -> Act -> World -> Prop} (h : (execOp a.eval o).run P w = .ok (.enter f vs) w)
  (hc : Calls P f vs w fun | .returned v, w'' => Nx X0 T0 w0 n K (a.put o.dst v) w'' | _, _ => False) : o.wp P a w (Nx X0 T0 w0 n K) Q := by
 unfold Oper.wp; rw [h]
 exact hc.mono fun e w'' he => by cases e <;> first | exact he | exact he.elim
set_option maxHeartbeats 1000000 in
theorem qk1 (h : SR X0 T0 w0 X lam env L T a w) {H : Hint} {o : Oper} {s : SO} (hs : z73 P H o = some s) (hd : ∀ k, o.dst = some k -> k < a.tmps.size) {rc : RC} {K : Env -> Loc -> Tab -> Prop}
  (hk : q4w P s o.dst rc K env L T) {Q : Exit -> Act -> World -> Prop} : o.wp P a w (Nx X0 T0 w0 a.tmps.size K) Q := by
 by_cases hp : qx2 s = true
 ·rw [qvb hp] at hk
  cases hx : pev s env L T with
  | none => simp [hx] at hk
  | some x =>
   simp only [hx] at hk
   obtain ⟨v, h1, h2⟩ := qxb h hs hx
   exact q15 h1 (Nx.put h hd h2 hk)
 obtain ⟨dst, op, ty, pos, after, gd⟩ := o
 simp only at hd
 cases op <;> simp only [z73] at hs <;> first
  | (cases hs; done)
  | (injection hs with hs; subst hs; exact absurd rfl hp)
  | skip
 ·-- alloc
  rename_i t
  obtain ⟨z, hz, hs⟩ := J8 hs
  obtain ⟨n, _, hs⟩ := J8 hs
  obtain ⟨v, z1, z2, z3⟩ := qfr (X := X) (w := w) hz
  have hrun := q6m (qns z1)
  split at hs
  ·rename_i hloc
   injection hs with hs; subst hs
   cases dst with
   | none => simp at hloc
   | some l =>
   simp only [q4w, SO.kind, lev, Option.map_some] at hk
   exact q15 hrun (h.newLocPut (hd l rfl) t z2 z3 hk)
  ·injection hs with hs; subst hs
   simp only [q4w, SO.kind, tst] at hk
   exact q15 hrun (h.newRowPut hd n t z2 z3 fun id hid => (hk id hid rfl).2)
 ·-- box
  rename_i t y
  obtain ⟨n, _, hs⟩ := N8 hs
  have hrun : (execOp a.eval { dst, op := .box t y, type := ty, pos, after, guard := gd }).run P w = .ok (.value (.pointer (some ⟨w.heap.size, 0, none⟩))) (w.alloc (.cells (a.eval y).cells t)) :=
   q6m (by simp [Instr.box, qmz])
  split at hs
  ·rename_i hloc
   subst hs
   cases dst with
   | none => simp at hloc
   | some l =>
   simp only [q4w, SO.kind, lev, Option.bind_some] at hk
   cases hx : Aw.Z7 env y with
   | none => simp [hx] at hk
   | some x =>
   simp only [hx, Option.bind_some] at hk
   by_cases hsto : x.sto = true
   ·rw [if_pos hsto] at hk
    obtain ⟨s1, s2, _⟩ := qa2 (h.opdV hx) hsto
    exact q15 hrun (h.newLocPut (hd l rfl) t s1 s2 hk)
   ·rw [if_neg hsto] at hk
    exact hk.elim
  ·split at hs
   ·subst hs
    simp only [q4w, SO.kind, vev] at hk
    cases hx : Aw.Z7 env y with
    | none => simp [hx] at hk
    | some x =>
    simp only [hx, Option.bind_some] at hk
    by_cases hsto : x.sto = true
    ·rw [if_pos hsto] at hk
     obtain ⟨s1, s2, _⟩ := qa2 (h.opdV hx) hsto
     exact q15 hrun (h.newFzPut hd t s1 s2 hk fun X' w' k1 k2 => ⟨_, _, k1, rfl, .inr rfl, k2⟩)
    ·rw [if_neg hsto] at hk
     exact hk.elim
   ·subst hs
    simp only [q4w, SO.kind, tst] at hk
    cases hx : Aw.Z7 env y with
    | none => simp [hx] at hk
    | some x =>
    simp only [hx] at hk
    obtain ⟨s1, s2, _⟩ := qa2 (h.opdV hx) hk.1
    exact q15 hrun (h.newRowPut hd n t s1 s2 fun id hid => (hk.2 id hid rfl).2)
 ·-- build
  exfalso
  obtain ⟨z, hz, hs⟩ := J8 hs
  split at hs
  ·obtain ⟨_, _, hs⟩ := J8 hs
   obtain ⟨_, _, rfl⟩ := N8 hs
   exact hp rfl
  ·obtain ⟨_, _, hs⟩ := J8 hs
   obtain ⟨_, _, rfl⟩ := N8 hs
   exact hp rfl
  ·cases hs
 ·-- buildSlice
  rename_i t n ps
  cases hu : P.underlying t with
  | none => simp [hu] at hs
  | some d =>
  cases d <;> simp only [hu] at hs <;> first | (cases hs; done) | skip
  rename_i e
  obtain ⟨z, hz, hs⟩ := J8 hs
  obtain ⟨sz, hsz, hs⟩ := J8 hs
  split at hs
  ·rename_i hc
   obtain ⟨qs, hq, hs⟩ := N8 hs
   obtain ⟨i, hi, hn⟩ := q5v hsz
   subst hn
   obtain ⟨v, z1, z2, z3⟩ := qfr (X := X) (w := w) hz
   have hbl : ∃ cells, q97 env (rep z n) qs = some cells := by
    cases hb : q97 env (rep z n) qs with
    | some cells => exact ⟨cells, rfl⟩
    | none =>
     split at hs
     ·subst hs; simp [q4w, SO.kind, tst, hb] at hk
     ·subst hs; simp [q4w, SO.kind, vev, hb] at hk
   obtain ⟨cells, hb⟩ := hbl
   have hvs : v.cells.size = i.size := by rw [<- hc.2, <- z2.length]; simp
   have hz1 := qjh v.cells n
   obtain ⟨vs, f1, f2, f3⟩ := qc9 h hq (us := Builtin.zeroCells v.cells n) (by rw [hz1]; exact z2.rep n) (by rw [hz1]; exact fun u hu => z3 u (qk0 hu)) hb
   have hrun : (Instr.buildSlice t n (ps.map fun (i, x) => (i, a.eval x))).run P w = .ok (.slice (some ⟨w.heap.size, 0, none⟩) n n) (w.alloc (.cells vs e)) := by
    have hle : ¬ (n * i.size > 2 ^ 24) := by omega
    have hzc : ((Array.range (n * i.size)).map (fun x => (if n * i.size = 0 then #[] else v.cells)[x % (if n * i.size = 0 then #[] else v.cells).size]!)) = Builtin.zeroCells v.cells n := by
     by_cases h0 : n * i.size = 0
     ·simp only [h0, if_true]
      have : (Builtin.zeroCells v.cells n).size = 0 := by rw [size_zeroCells, hvs, h0]
      apply Array.ext'
      have h2 : (Builtin.zeroCells v.cells n).toList = [] := List.eq_nil_of_length_eq_zero (by simpa using this)
      rw [h2]; simp
     ·simp only [h0, if_false, Builtin.zeroCells, hvs]
    have f1' : Instr.fill (fun i' => some (i' * i.size, i.size)) (Builtin.zeroCells v.cells n) (ps.toList.map fun (i, x) => (i, a.eval x)) = some vs := f1
    unfold Instr.buildSlice
    by_cases h0 : n * i.size = 0
    ·simp only [h0, if_true] at hzc
     have hzc' : (Array.map (fun x => (#[] : Array Value)[x % (#[] : Array Value).size]!) (Array.range (n * i.size))) = Builtin.zeroCells v.cells n := by rw [h0]; exact hzc
     simp only [Sem.run_bind, run_underlying hu, Result.andThen_ok, sizeOf, typeInfo, run_program, hi, Sem.run_pure, Sem.run_ite, h0, if_true]
     simp only [h0] at hzc'
     simp only [hzc', Array.toList_map, f1', Sem.run_bind, newRow, run_newObj, Result.andThen_ok, Sem.run_pure]
     rfl
    ·simp only [h0, if_false] at hzc
     simp only [Sem.run_bind, run_underlying hu, Result.andThen_ok, sizeOf, typeInfo, run_program, hi, Sem.run_pure, Sem.run_ite, hle, if_false, h0, z1, hzc, Array.toList_map, f1', newRow, run_newObj]
     rfl
   split at hs
   ·subst hs
    simp only [q4w, SO.kind, tst, hb] at hk
    have hal := h.allocRow (us := vs.toList) i.size e f2 f3
    simp only [Array.toArray_toList] at hal
    refine q15 (q6m hrun) (Nx.put hal hd (x := .sl X.N 0 n (some n)) ?_ (hk X.N (h.rel.fresh _ (Nat.le_refl _)) rfl).2)
    have hlen : cells.length = n * i.size := by
     rw [qhz hb, qa3, hc.2]
    simp only [evr, vr, Cx.addRow]
    refine ⟨Nat.lt_succ_self _, n, by simp, Nat.le_refl _, (fun k hk => by injection hk), ?_⟩
    simp [hlen]
   ·subst hs
    simp only [q4w, SO.kind, vev, hb, Option.map_some] at hk
    refine q15 (q6m hrun) (h.newFzPut hd e f2 f3 hk fun X' w' k1 k2 => ?_)
    simp only [vr]
    exact ⟨_, k1, .inr ⟨_, _, rfl, .inr rfl, Nat.le_refl _, (fun k hk => by injection hk), k2⟩⟩
  ·cases hs
 ·-- load
  exfalso
  obtain ⟨sz, _, hs⟩ := N8 hs
  split at hs <;> (subst hs; exact hp rfl)
 ·-- store
  rename_i t y z
  obtain ⟨sz, hsz, hs⟩ := N8 hs
  obtain ⟨i, hi, hn⟩ := q5v hsz
  have hst : ∀ (ad : Addr) (v : Value) (w' : World), a.eval y = .pointer (some ad) -> a.eval z = v -> v.cells.size = sz -> (storeCells ad v.cells.toList).run P w = .ok () w' ->
    (execOp a.eval { dst, op := .store t y z, type := ty, pos, after, guard := gd }).run P w = .ok .skip w' := by
   intro ad v w' e1 e2 e3 e4
   subst e2
   have e5 : ¬ ((a.eval z).cells.size ≠ i.size) := by rw [e3, hn]; simp
   simp only [execOp, Instr.storeAt, e1, Instr.sureAddr, Sem.run_bind, Sem.run_pure, Result.andThen_ok, storeVar, sizeOf, typeInfo, run_program, hi, Sem.run_ite, e5, if_false, e4]
  split at hs
  ·rename_i l _
   subst hs
   simp only [q4w, SO.kind, lev] at hk
   cases hy : qiv env (some l) y with
   | none => simp [hy] at hk
   | some yv =>
   cases hz : Aw.Z7 env z with
   | none => simp [hy, hz] at hk
   | some zv =>
   simp only [hy, hz, Option.bind_some] at hk
   have e1 := q8e h hy
   have hl : ∃ o, yv = .lp l o := by
    simp only [qiv] at hy
    cases hq : opd env y with
    | none => simp [hq] at hy
    | some q =>
     cases q <;> simp only [hq] at hy <;> first | (cases hy; done) | skip
     split at hy
     ·rename_i e; subst e; injection hy with hy; exact ⟨_, hy.symm⟩
     ·cases hy
   obtain ⟨o, rfl⟩ := hl
   simp only at hk
   cases hL : q10 L l with
   | none => simp [hL] at hk
   | some cells =>
   simp only [hL, Option.bind_some] at hk
   by_cases hc : zv.sto = true /\ zv.cells.length = sz /\ o + sz <= cells.length
   ·rw [if_pos hc] at hk
    obtain ⟨k1, k2, k3⟩ := hc
    obtain ⟨s1, s2, s3⟩ := qa2 (h.opdV hz) k1
    obtain ⟨w', hr, hsr⟩ := h.storeLoc (P := P) hL (o := o) (xs := zv.cells) (by omega) s1 s2
    simp only [evr] at e1
    exact wp_skip' (hst _ _ w' e1 rfl (by rw [s3, k2]) hr) (Nx.undef hsr hd hk)
   ·rw [if_neg hc] at hk
    exact hk.elim
  ·subst hs
   simp only [q4w, SO.kind, tst] at hk
   cases hy : Aw.Z7 env y with
   | none => simp [hy] at hk
   | some yv =>
   cases hz : Aw.Z7 env z with
   | none => cases yv <;> simp [hy, hz] at hk
   | some zv =>
   cases yv <;> simp only [hy, hz] at hk <;> first | (exact hk.elim) | skip
   rename_i id o
   cases hT : T id with
   | unused => simp [hT] at hk
   | mapo es => simp [hT] at hk
   | row zz cells =>
   simp only [hT] at hk
   obtain ⟨k1, k2, k3, k4⟩ := hk
   obtain ⟨s1, s2, s3⟩ := qa2 (h.opdV hz) k1
   obtain ⟨w', hr, hsr⟩ := h.storeRow (P := P) hT (o := o) (xs := zv.cells) (by omega) s1 s2
   have e1 := h.opdV hy
   simp only [vr] at e1
   exact wp_skip' (hst _ _ w' e1.2 rfl (by rw [s3, k2]) hr) (Nx.undef hsr hd (k4 rfl).2)
 ·-- binOp
  rename_i op t y z yt
  have hsn : ∃ neg v l c e, s = .snil neg y /\ z = .const (.slice none l c) /\ v = true /\ P.underlying t = some (.slice e) /\ ((op = .eql /\ neg = false) \/ (op = .neq /\ neg = true)) := by
   cases hu : P.underlying t with
   | none => simp [hu] at hs
   | some d =>
   cases d <;> simp only [hu] at hs <;> first
    | (cases hs; done)
    | (injection hs with hs; subst hs; exact absurd rfl hp)
    | (cases op <;> simp only at hs <;> first
        | (cases hs; done)
        | (injection hs with hs; subst hs; exact absurd rfl hp))
    | skip
   ·split at hs
    ·injection hs with hs; exact ⟨false, true, _, _, _, hs.symm, rfl, rfl, rfl, .inl ⟨rfl, rfl⟩⟩
    ·injection hs with hs; exact ⟨true, true, _, _, _, hs.symm, rfl, rfl, rfl, .inr ⟨rfl, rfl⟩⟩
    ·cases hs
   ·split at hs
    ·cases hs
    ·obtain ⟨ks, _, hs⟩ := J8 hs
     cases op <;> simp only at hs <;> first
      | (cases hs; done)
      | (injection hs with hs; subst hs; exact absurd rfl hp)
   ·split at hs
    ·cases op <;> simp only at hs <;> first
      | (cases hs; done)
      | (injection hs with hs; subst hs; exact absurd rfl hp)
    ·cases hs
  obtain ⟨neg, _, l, c, e, rfl, rfl, _, hu, ho⟩ := hsn
  have hrun : ∀ (p : Option Addr) (m k : Nat), a.eval y = .slice p m k -> (execOp a.eval { dst, op := .binOp op t y (.const (.slice none l c)) yt, type := ty, pos, after, guard := gd }).run P w = .ok (.value (.bool (if p.isNone then !neg else neg))) w := by
   intro p m k e1
   have he : (Op.equal t (.slice p m k) (.slice none l c)).run P w = .ok p.isNone w := by
    rw [qjy]
    generalize 9999 = dd
    cases p with
    | none => simp only [Op.equalIn, Sem.run_bind, run_underlying hu, Result.andThen_ok, Sem.run_pure]
    | some q => simp only [Op.equalIn, Sem.run_bind, run_underlying hu, Result.andThen_ok, Sem.run_pure]; rfl
   refine q6m ?_
   have e2 : a.eval (.const (.slice none l c)) = .slice none l c := rfl
   rcases ho with ⟨rfl, rfl⟩ | ⟨rfl, rfl⟩ <;>
   ·rw [e1, e2]
    have hg : ∀ q, (eqGuard q t y (.const (.slice none l c)) (.slice p m k) (.slice none l c)).run P w = .ok () w := fun q => by unfold eqGuard; split <;> rfl
    simp only [Sem.run_bind, hg, Result.andThen_ok, binOp, he, Sem.run_pure]
    cases p <;> rfl
  simp only [q4w, SO.kind] at hk
  cases hy : Aw.Z7 env y with
  | none => simp [hy, qav] at hk
  | some yv =>
  have hv := h.opdV hy
  cases yv <;> simp only [hy, qav] at hk <;> first | (exact hk.elim) | skip
  ·rename_i n cells cap
   simp only [vr] at hv
   obtain ⟨us, h1, hf⟩ := hv
   rcases hf with ⟨e1, rfl, _⟩ | ⟨ad, c', e1, _⟩
   ·simp only [Nat.lt_irrefl, if_false] at hk
    exact q15 (hrun _ _ _ e1) (Nx.put h hd (x := .b _) rfl (hk _))
   ·refine q15 (hrun _ _ _ e1) (Nx.put h hd (x := .b _) rfl ?_)
    split at hk
    ·exact hk
    ·exact hk _
  ·rename_i id o n cap
   simp only [vr] at hv
   obtain ⟨_, c', e1, _⟩ := hv
   exact q15 (hrun _ _ _ e1) (Nx.put h hd (x := .b _) rfl hk)
 ·-- convert
  rename_i sT dT y
  by_cases hcv : s = .cvm y
  ·subst hcv
   have hcm : ∃ e, sT = dT /\ P.underlying dT = some (.slice e) /\ P.underlying e = some (.int .u8) := by
    cases hd' : P.underlying dT with
    | none => simp [hd'] at hs
    | some dd =>
    cases dd <;> simp only [hd'] at hs <;> first | (cases hs; done) | skip
    ·split at hs <;> cases hs
    ·split at hs <;> first | (cases hs; done) | (split at hs <;> cases hs)
    ·rename_i e
     split at hs
     ·split at hs <;> cases hs
     ·split at hs
      ·rename_i hc
       simp only [Bool.and_eq_true, beq_iff_eq] at hc
       refine ⟨e, hc.2, rfl, ?_⟩
       have he := hc.1
       unfold u8T at he
       split at he
       ·assumption
       ·cases he
      ·cases hs
     ·cases hs
   obtain ⟨e, rfl, ht, he⟩ := hcm
   simp only [q4w, SO.kind, tst] at hk
   cases hy : Aw.Z7 env y with
   | none => simp [hy] at hk
   | some yv =>
   have hv := h.opdV hy
   cases yv <;> simp only [hy] at hk <;> first | (exact hk.elim) | skip
   rename_i id o n cap
   cases hT : T id with
   | unused => simp [hT] at hk
   | mapo es => simp [hT] at hk
   | row z cells =>
   simp only [hT] at hk
   obtain ⟨rfl, k2, k3⟩ := hk
   obtain ⟨w', q1, q2, q3⟩ := qxc (P := P) h hT k2 hv ht he
   exact q15 (q6m q1) (Nx.put q2 hd (V5 q3) (k3 rfl).2)
  have hsb : ∃ e u, s = .s2b y /\ P.underlying dT = some (.slice e) /\ P.underlying e = some (.int .u8) /\ P.underlying sT = some u := by
   cases hd' : P.underlying dT with
   | none => simp [hd'] at hs
   | some dd =>
   cases dd <;> simp only [hd'] at hs <;> first | (cases hs; done) | skip
   ·split at hs
    ·injection hs with hs; subst hs; exact absurd rfl hp
    ·cases hs
   ·split at hs
    ·split at hs
     ·injection hs with hs; subst hs; exact absurd rfl hp
     ·cases hs
    ·injection hs with hs; subst hs; exact absurd rfl hp
    ·cases hs
   ·rename_i e
    split at hs
    ·rename_i hu
     split at hs
     ·rename_i he
      injection hs with hs
      refine ⟨e, _, hs.symm, rfl, ?_, hu⟩
      unfold u8T at he
      split at he
      ·assumption
      ·cases he
     ·cases hs
    ·split at hs
     ·injection hs with hs; exact absurd hs.symm hcv
     ·cases hs
    ·cases hs
  obtain ⟨e, u, rfl, h1, h2, h3⟩ := hsb
  simp only [q4w, SO.kind, vev] at hk
  cases hy : Aw.Z7 env y with
  | none => simp [hy] at hk
  | some yv =>
  have hv := h.opdV hy
  cases yv <;> simp only [hy, Option.bind_some] at hk <;> first | (exact hk.elim) | skip
  rename_i l
  simp only [vr] at hv
  have hrun := Lib.run_convert_string_bytes w sT dT e ⟨l.toArray⟩ h3 h1 h2
  have hg : w.grownBy (Lib.bytesWorld w e ⟨l.toArray⟩) none :=
   ⟨rfl, rfl, rfl, by rw [Lib.bytesWorld_size]; omega, fun k hk _ => Lib.bytesWorld_at_old w e _ k hk⟩
  have hsr := h.allocFz hg (b := w.heap.size) (Nat.le_refl _) (by rw [Lib.bytesWorld_size]; omega)
  rw [<- hv] at hrun
  refine q15 (q6m hrun) (Nx.put hsr hd (x := .fz l.length (K8 l) none) ?_ hk)
  simp only [evr, vr]
  refine ⟨_, qjv l, .inr ⟨⟨w.heap.size, 0, none⟩, _, ?_, .inr rfl, grownCap_ge w _ 0 e, (fun k hk => by cases hk), .inr ⟨.inr rfl, by simp [Value.oneCell'], fun j u hu => ?_⟩⟩⟩
  ·simp [ByteArray.size]
  ·rw [List.getElem?_map] at hu
   cases hj : l[j]? with
   | none => simp [hj] at hu
   | some b =>
    simp [hj] at hu
    subst hu
    have hlt := (List.getElem?_eq_some_iff.1 hj).1
    have := Lib.bytesWorld_cell w e ⟨l.toArray⟩ j (by simpa [ByteArray.size] using hlt)
    rw [Nat.zero_add]
    rw [this]
    simp [hj]
 ·-- makeInterface
  exfalso
  split at hs
  ·cases hs
  ·cases hs
  ·injection hs with hs; subst hs; exact hp rfl
 ·-- makeMap
  rename_i t r
  split at hs
  ·rename_i hr
   injection hs with hs; subst hs
   have hr : r = none := by simpa using hr
   subst hr
   simp only [q4w, SO.kind, tst] at hk
   refine q15 (v := .map (some w.heap.size)) (w' := w.alloc (.map #[] 0)) (q6m rfl) ?_
   refine Nx.put h.allocMap hd (x := .mp X.N) ?_ (hk X.N (h.rel.fresh _ (Nat.le_refl _)) rfl).2
   simp only [evr, vr, Cx.addRow]
   exact ⟨Nat.lt_succ_self _, by simp⟩
  ·cases hs
 ·-- makeSlice
  rename_i t l c
  split at hs
  ·rename_i e hu
   obtain ⟨i, hi, hs⟩ := J8 hs
   obtain ⟨z, hz, hs⟩ := J8 hs
   split at hs
   ·rename_i hc
    injection hs with hs; subst hs
    obtain ⟨i', v, hi', hzv, hcv⟩ := qh5 hz
    have hii : i' = i := by rw [hi] at hi'; injection hi' with h; exact h.symm
    subst hii
    obtain ⟨z1, z2⟩ := qdd X w hcv
    simp only [q4w, SO.kind, tst] at hk
    cases hl : Aw.Z7 env l with
    | none => simp [hl] at hk
    | some lv =>
    cases hcc : Aw.Z7 env c with
    | none => simp [hl, hcc] at hk
    | some cv =>
    cases lv <;> simp only [hl, hcc] at hk <;> first | (exact hk.elim) | skip
    cases cv <;> simp only at hk <;> first | (exact hk.elim) | skip
    rename_i k1 j k2 q
    obtain ⟨m1, m2, m3, m4, m5⟩ := hk
    have e1 := O2 h hl
    have e2 := O2 h hcc
    simp only [vr] at e1 e2
    have hq : ((q.toNat * i'.bytes : Nat) : Int) = q * i'.bytes := by
     rw [Int.natCast_mul, Int.toNat_of_nonneg (by omega)]
    have hrun := run_make (P := P) w t e i' v hu hi hzv k1 k2 j q m1 m2 (by rw [Int.mul_comm, <- hq]; omega) m4
    have hvs : v.cells.size = i'.size := by rw [<- hc, <- z1.length]; simp
    have hmc : madeCells v.cells (q.toNat * i'.size) = Builtin.zeroCells v.cells q.toNat := by
     unfold madeCells Builtin.zeroCells; rw [hvs]
    rw [hmc] at hrun
    have hz1 := qjh v.cells q.toNat
    have hal := h.allocRow (us := (Builtin.zeroCells v.cells q.toNat).toList) i'.size e (cells := rep z q.toNat) (by rw [hz1]; exact z1.rep _) (by rw [hz1]; exact fun u hu => z2 u (qk0 hu))
    simp only [Array.toArray_toList] at hal
    refine q15 (v := .slice (some ⟨w.heap.size, 0, none⟩) j.toNat q.toNat) (w' := w.alloc (.cells (Builtin.zeroCells v.cells q.toNat) e)) ?_ ?_
    ·simp only [execOp, e1, e2]
     exact q6m hrun
    ·refine Nx.put hal hd (x := .sl X.N 0 j.toNat none) ?_ (m5 X.N (h.rel.fresh _ (Nat.le_refl _)) rfl |>.2)
     simp only [evr, vr, Cx.addRow]
     refine ⟨Nat.lt_succ_self _, q.toNat, by simp, by omega, (fun k hk => by cases hk), ?_⟩
     simp [qa3, hc]
   ·cases hs
  ·cases hs
 ·-- slice
  exfalso
  split at hs
  ·obtain ⟨_, _, rfl⟩ := N8 hs; exact hp rfl
  ·split at hs
   ·injection hs with hs; subst hs; exact hp rfl
   ·cases hs
  ·cases hs
 ·-- fieldAddr
  exfalso
  split at hs
  ·obtain ⟨f, _, hs⟩ := J8 hs
   split at hs
   ·injection hs with hs; subst hs; exact hp rfl
   ·cases hs
  ·cases hs
 ·-- field
  exfalso
  split at hs
  ·obtain ⟨f, _, hs⟩ := J8 hs
   obtain ⟨_, _, rfl⟩ := N8 hs; exact hp rfl
  ·cases hs
 ·-- indexAddr
  exfalso
  split at hs
  ·obtain ⟨_, _, rfl⟩ := N8 hs; exact hp rfl
  ·obtain ⟨_, _, rfl⟩ := N8 hs; exact hp rfl
  ·cases hs
 ·-- index
  exfalso
  split at hs
  ·injection hs with hs; subst hs; exact hp rfl
  ·obtain ⟨_, _, hs⟩ := J8 hs
   obtain ⟨_, _, rfl⟩ := N8 hs
   exact hp rfl
  ·cases hs
 ·-- lookup
  rename_i t y key ok
  split at hs
  ·rename_i kt e hu
   obtain ⟨d, hd1, hs⟩ := J8 hs
   obtain ⟨m, hm, hs⟩ := J8 hs
   obtain ⟨z, hz, rfl⟩ := N8 hs
   simp only [q4w, SO.kind, tst] at hk
   obtain ⟨i, zv, hi, hzv, hcz⟩ : ∃ i zv, P.info? e = some i /\ i.zero = some zv /\ cav zv = some z := by
    unfold z3j at hz
    cases hi : P.info? e with
    | none => simp [hi] at hz
    | some i =>
     cases hz' : i.zero with
     | none => simp [hi, hz'] at hz
     | some v => simp [hi, hz'] at hz; exact ⟨i, v, rfl, hz', hz⟩
   have hzr := (qjq (X := X) (w := w) hcz).1
   have hzero : (zeroValue e).run P w = .ok zv w := by simp [zeroValue, typeInfo, hi, hzv, Result.andThen]
   cases hy : Aw.Z7 env y with
   | none => simp [hy] at hk
   | some yv =>
   cases hkk : Aw.Z7 env key with
   | none => cases yv <;> simp [hy, hkk] at hk
   | some kv =>
   cases yv <;> simp only [hy, hkk] at hk <;> first | (exact hk.elim) | skip
   rename_i id
   cases hT : T id with
   | unused => simp [hT] at hk
   | row zz cells => simp [hT] at hk
   | mapo es =>
   simp only [hT] at hk
   obtain ⟨hkey, hk⟩ := hk
   have e1 := O2 h hy
   have e2 := O2 h hkk
   simp only [vr] at e1
   have e3 := qu1 hkey e2
   obtain ⟨ms, clock, b1, b2, b3⟩ := h.rel.map id es hT
   cases hg : qm3 m kv es with
   | none => simp [hg] at hk
   | some r =>
   have hck := MapKept.run_checkKey (P := P) (w := w) hd1 (qmu hm hkey) ms.isEmpty 9999
   rcases qfn (w := w) hm hkey es ms.toList 0 r b2 b3 hg with ⟨r1, r2⟩ | ⟨j, v, u, e', r1, r2, r3, r4, r5⟩
   ·subst r1
    simp only [hg] at hk
    have hfk := MapKept.run_findKey (P := P) (w := w) hd1 r2
    have hrun : (Instr.lookup t (a.eval y) (a.eval key) ok).run P w = .ok (if ok then .tuple #[zv, .bool false] else zv) w := by
     rw [e1.2, e3]
     simp [Instr.lookup, run_underlying hu, MapKept.run_getObj_map b1, hck, hfk, hzero, Result.andThen]
    refine q15 (q6m hrun) ?_
    cases ok
    ·exact Nx.put h hd (V5 hzr) (hk (qnt hzr)).2
    ·refine Nx.put h hd (x := .tup [z, .b false]) ?_ (hk rfl).2
     simp only [evr, vr, vrs]
     exact ⟨_, ⟨_, _, rfl, hzr, _, _, rfl, rfl, rfl⟩, rfl⟩
   ·subst r1
    simp only [hg] at hk
    have hfk := MapKept.run_findKey (P := P) (w := w) hd1 r3
    have hrun : (Instr.lookup t (a.eval y) (a.eval key) ok).run P w = .ok (if ok then .tuple #[u, .bool true] else u) w := by
     rw [e1.2, e3]
     simp [Instr.lookup, run_underlying hu, MapKept.run_getObj_map b1, hck, hfk, Result.andThen]
    refine q15 (q6m hrun) ?_
    cases ok
    ·exact Nx.put h hd (V5 r2) (hk (qnt r2)).2
    ·refine Nx.put h hd (x := .tup [v, .b true]) ?_ (hk rfl).2
     simp only [evr, vr, vrs]
     exact ⟨_, ⟨_, _, rfl, r2, _, _, rfl, rfl, rfl⟩, rfl⟩
  ·cases hs
 ·-- mapUpdate
  rename_i t y key vv
  split at hs
  ·rename_i kt e hu
   obtain ⟨d, hd1, hs⟩ := J8 hs
   obtain ⟨m, hm, rfl⟩ := N8 hs
   simp only [q4w, SO.kind, tst] at hk
   cases hy : Aw.Z7 env y with
   | none => simp [hy] at hk
   | some yv =>
   cases hkk : Aw.Z7 env key with
   | none => cases yv <;> simp [hy, hkk] at hk
   | some kv =>
   cases hvv : Aw.Z7 env vv with
   | none => cases yv <;> simp [hy, hkk, hvv] at hk
   | some nv =>
   cases yv <;> simp only [hy, hkk, hvv] at hk <;> first | (exact hk.elim) | skip
   rename_i id
   cases hT : T id with
   | unused => simp [hT] at hk
   | row zz cells => simp [hT] at hk
   | mapo es =>
   simp only [hT] at hk
   obtain ⟨hkey, hsome, hk⟩ := hk
   have e1 := O2 h hy
   have e2 := O2 h hkk
   have e4 := O2 h hvv
   simp only [vr] at e1
   have e3 := qu1 hkey e2
   obtain ⟨ms, clock, b1, b2, b3⟩ := h.rel.map id es hT
   have hid : T id ≠ .unused := by simp [hT]
   obtain ⟨r, hg⟩ := Option.isSome_iff_exists.1 hsome
   have hik := qmu hm hkey
   have hck := MapKept.run_checkKey (P := P) (w := w) hd1 hik false 9999
   have hset : ∀ (ms' : Array MapEntry) (clock' : Nat), w.grownBy { w with heap := w.heap.setIfInBounds (X.β id).blk (.map ms' clock') } (some (X.β id).blk) := fun ms' clock' =>
    ⟨rfl, rfl, rfl, by simp, fun k _ hne => by
     have : (X.β id).blk ≠ k := fun e => hne (by rw [e])
     simp [this]⟩
   have hat : ∀ (ms' : Array MapEntry) (clock' : Nat), ({ w with heap := w.heap.setIfInBounds (X.β id).blk (.map ms' clock') } : World).heap[(X.β id).blk]? = some (.map ms' clock') := fun ms' clock' => by
    have hlt := (Array.getElem?_eq_some_iff.1 b1).1
    simp [hlt]
   rcases qfn (w := w) hm hkey es ms.toList 0 r b2 b3 hg with ⟨r1, r2⟩ | ⟨j, v, u, e', r1, r2, r3, r4, r5⟩
   ·subst r1
    have hfk := MapKept.run_findKey (P := P) (w := w) hd1 r2
    have hrun : (Instr.mapUpdate t (a.eval y) (a.eval key) (a.eval vv)).run P w = .ok () { w with heap := w.heap.setIfInBounds (X.β id).blk (.map (ms.push { key := qm4 kv, val := a.eval vv, born := clock }) (clock + 1)) } := by
     rw [e1.2, e3]
     simp [Instr.mapUpdate, run_underlying hu, MapKept.run_getObj_map b1, hck, hfk, MapKept.run_setObj_map _ b1, Result.andThen]
    have hn := qu2 (w := w) hkey e4 es ms.toList clock b2 b3 hg
    have hsr := h.setMap hid (hset (ms.push { key := qm4 kv, val := a.eval vv, born := clock }) (clock + 1)) (es := qno kv nv es) ⟨_, _, hat _ _, vrs.mono (.refl X) (h.rel.fzKept_row hid (hset _ _)) _ _ (by simpa using hn.1), vrs.mono (.refl X) (h.rel.fzKept_row hid (hset _ _)) _ _ (by simpa using hn.2)⟩
    exact wp_skip' (by simp only [execOp, Sem.run_bind, hrun, Result.andThen_ok, Sem.run_pure]) (Nx.undef hsr hd (hk rfl).2)
   ·subst r1
    have hfk := MapKept.run_findKey (P := P) (w := w) hd1 r3
    have r4' : ms[j]? = some e' := by simpa using r4
    have hrun : (Instr.mapUpdate t (a.eval y) (a.eval key) (a.eval vv)).run P w = .ok () { w with heap := w.heap.setIfInBounds (X.β id).blk (.map (ms.modify j fun e => { e with key := qm4 kv, val := a.eval vv }) clock) } := by
     rw [e1.2, e3]
     simp [Instr.mapUpdate, run_underlying hu, MapKept.run_getObj_map b1, hck, hfk, r4', r5, MapKept.run_keyThatStays hik, MapKept.run_setObj_map _ b1, Result.andThen]
    have hn := qmv (w := w) hm hkey e4 es ms.toList (some v) 0 j u b2 b3 hg r3
    have hsr := h.setMap hid (hset (ms.modify j fun e => { e with key := qm4 kv, val := a.eval vv }) clock) (es := qno kv nv es) ⟨_, _, hat _ _, vrs.mono (.refl X) (h.rel.fzKept_row hid (hset _ _)) _ _ (by simpa using hn.1), vrs.mono (.refl X) (h.rel.fzKept_row hid (hset _ _)) _ _ (by simpa using hn.2)⟩
    exact wp_skip' (by simp only [execOp, Sem.run_bind, hrun, Result.andThen_ok, Sem.run_pure]) (Nx.undef hsr hd (hk rfl).2)
  ·cases hs
 ·-- call
  rename_i c
  obtain ⟨callee, args, ats⟩ := c
  cases callee with
  | invoke r m => simp only at hs; cases hs
  | value f =>
   cases f with
   | const v => simp only at hs; cases hs
   | global g => simp only at hs; cases hs
   | func f =>
    simp only at hs
    split at hs
    ·rename_i hc
     injection hs with hs; subst hs
     simp only [q4w, SO.kind, tst] at hk
     obtain ⟨_, hk⟩ := hk
     cases hx : q8f env args.toList with
     | none => simp [hx] at hk
     | some avs =>
     simp only [hx] at hk
     obtain ⟨S, R, n1, n2, n3, n4⟩ := hk
     have hv := q8g h hx
     refine qu4 (f := f) (vs := (args.toList.map a.eval).toArray) ?_ (qpj h hd hv n1 n2 n3 fun v T' hR => (n4 v T' hR.1 hR.2).2)
     have e1 : (args.map a.eval) = (args.toList.map a.eval).toArray := by apply Array.ext'; simp
     have := qhy (P := P) (w := w) hc (args.toList.map a.eval).toArray
     simp [execOp, resolve, Act.eval, Deferred.ofValue, invoke]
     rw [e1]
     exact this
    ·cases hs
   | tmp t =>
    simp only at hs
    injection hs with hs; subst hs
    simp only [q4w, SO.kind, tst] at hk
    cases hf : Aw.Z7 env (.tmp t) with
    | none => simp [hf] at hk
    | some fv =>
    cases hx : q8f env args.toList with
    | none => cases fv <;> simp [hf, hx] at hk
    | some avs =>
    cases fv <;> simp only [hf, hx] at hk <;> first | (exact hk.elim) | skip
    rename_i fn first cap
    cases fn <;> simp only at hk <;> first | (exact hk.elim) | skip
    rename_i f
    obtain ⟨hc, S, R, n1, n2, n3, n4⟩ := hk
    have hv := q8g h hx
    have hfv := h.opdV hf
    simp only [vr] at hfv
    obtain ⟨us, vs, v1, v2, v3⟩ := hfv
    have hall := (v1.append hv).append v2
    refine qu4 (f := f) (vs := (us ++ args.toList.map a.eval ++ vs).toArray) ?_ (qpj h hd hall n1 n2 n3 fun v T' hR => (n4 v T' hR.1 hR.2).2)
    have e1 : (us.toArray ++ args.map a.eval ++ vs.toArray) = (us ++ args.toList.map a.eval ++ vs).toArray := by apply Array.ext'; simp
    have := qhy (P := P) (w := w) hc (us ++ args.toList.map a.eval ++ vs).toArray
    simp only [execOp, resolve, v3, Deferred.ofValue, Sem.run_bind, Sem.run_pure, Result.andThen_ok, invoke]
    rw [e1]
    exact this
  | builtin b =>
   cases b <;> simp only at hs <;> first
    | (cases hs; done)
    | skip
   ·-- append
    split at hs
    ·rename_i y z t tx ha hb
     obtain rfl := q6n ha
     have hb' : ats = #[t, tx] := by apply Array.ext'; simpa using hb
     subst hb'
     split at hs
     ·rename_i e d hu hud
      split at hs
      ·rename_i hni
       obtain ⟨i, hi, hs⟩ := J8 hs
       obtain ⟨zv, hz, hs⟩ := J8 hs
       split at hs
       ·rename_i hcc
        injection hs with hs; subst hs
        simp only [q4w, SO.kind, tst] at hk
        cases hy : Aw.Z7 env y with
        | none => simp [hy] at hk
        | some yv =>
        cases hz' : Aw.Z7 env z with
        | none => simp [hy, hz'] at hk
        | some zv' =>
        simp only [hy, hz'] at hk
        have ht : AppT P t tx i.size i.bytes := ⟨e, i, zv, d, hu, hi, rfl, rfl, hz, hcc.1, hcc.2, hud, fun k hk => by subst hk; simp [qx3] at hni⟩
        obtain ⟨q, w', X', T', r, r1, r2, r3, r4⟩ := qx0 (ty := ty) h ht (h.opdV hy) (h.opdV hz') hk
        refine q15 ?_ (Nx.put r3 hd (V5 r4) (r2 (qnt r4)).2)
        simp [execOp, resolve, invoke, builtin, r1]
       ·cases hs
      ·rename_i hni
       obtain ⟨i, hi, hs⟩ := J8 hs
       obtain ⟨zv, hz, hs⟩ := J8 hs
       split at hs
       ·rename_i hcc
        injection hs with hs; subst hs
        obtain ⟨i', v, hi', hzv, hcv⟩ := qh5 hz
        have hii : i' = i := by rw [hi] at hi'; injection hi' with h; exact h.symm
        subst hii
        obtain ⟨z1, z2⟩ := qdd X w hcv
        have hint : ∃ k, d = .int k := by
         cases d <;> first
          | exact ⟨_, rfl⟩
          | (simp [qx3] at hni)
        obtain ⟨k, rfl⟩ := hint
        simp only [q4w, SO.kind, tst] at hk
        cases hy : Aw.Z7 env y with
        | none => simp [hy] at hk
        | some yv =>
        cases hz' : Aw.Z7 env z with
        | none => simp [hy, hz'] at hk
        | some zv' =>
        have hyv := h.opdV hy
        have hzv' := h.opdV hz'
        simp only [hy, hz'] at hk
        split at hk
        ·rename_i k1 q e1 e2
         injection e1 with e1; subst e1
         injection e2 with e2; subst e2
         obtain ⟨m1, m2, m3, m4⟩ := hk
         simp only [vr] at hyv hzv'
         have hvs : v.cells.size = i'.size := by rw [<- hcc.1, <- z1.length]; simp
         have hq : (q.toNat : Int) = q := Int.toNat_of_nonneg (by omega)
         have hyv' : a.eval y = .slice none 0 0 \/ ∃ ad, a.eval y = .slice (some ad) 0 0 := by
          obtain ⟨us, _, hf⟩ := hyv
          rcases hf with ⟨h1, _⟩ | ⟨ad, c, h1, _, _, h4, _⟩
          ·exact .inl h1
          ·exact .inr ⟨ad, by rw [h1, h4 0 rfl]⟩
         obtain ⟨w', r1, r2, r3⟩ := qxd (P := P) (ty := ty) (k1 := k1) h hu hud hi hzv hvs z1 z2 hcc.2 m1 m2 m3 hyv'
         refine q15 ?_ (Nx.put r2 hd (V5 r3) (m4 X.N (h.rel.fresh _ (Nat.le_refl _)) rfl).2)
         simp [execOp, resolve, invoke, builtin, hzv', r1]
        ·exact hk.elim
       ·cases hs
     ·cases hs
    ·cases hs
   ·-- cap
    exfalso
    split at hs
    ·split at hs
     ·injection hs with hs; subst hs; exact hp rfl
     ·cases hs
    ·cases hs
   ·-- clear
    split at hs
    ·rename_i y t ha hb
     obtain rfl := q6n ha
     have hb' : ats = #[t] := by apply Array.ext'; simpa using hb
     subst hb'
     split at hs
     ·rename_i e hu
      obtain ⟨z, hz, hs⟩ := J8 hs
      obtain ⟨sz, hsz, hs⟩ := J8 hs
      split at hs
      ·rename_i hzl
       injection hs with hs; subst hs
       obtain ⟨zv, z1, z2, z3⟩ := qfr (X := X) (w := w) hz
       simp only [q4w, SO.kind, tst] at hk
       cases hy : Aw.Z7 env y with
       | none => simp [hy] at hk
       | some yv =>
       have hv := h.opdV hy
       cases yv <;> simp only [hy] at hk <;> first | (exact hk.elim) | skip
       ·rename_i n cells cap
        cases n with
        | succ n => simp at hk
        | zero =>
        simp only at hk
        have e1 : ∃ p c, a.eval y = .slice p 0 c := by
         simp only [vr] at hv
         obtain ⟨us, _, (⟨e1, _⟩ | ⟨ad, c, e1, _⟩)⟩ := hv <;> exact ⟨_, _, e1⟩
        obtain ⟨p, c, e1⟩ := e1
        have hrun : (Builtin.clear_ #[t] ty #[.slice p 0 c]).run P w = .ok (.tuple #[]) w := by
         cases p <;> simp [Builtin.clear_, run_underlying hu]
        refine q15 ?_ (Nx.undef h hd (hk rfl).2)
        simp [execOp, resolve, invoke, builtin, e1, hrun]
        rfl
       ·rename_i id o n cap
        cases hT : T id with
        | unused => simp [hT] at hk
        | mapo es => simp [hT] at hk
        | row zz cells =>
        simp only [hT] at hk
        obtain ⟨rfl, k1, k2, k3⟩ := hk
        simp only [vr] at hv
        obtain ⟨_, c, e1, _⟩ := hv
        have hzv : zv.cells.size = zz := by rw [<- k1, <- z2.length]; simp
        have hl : (rep z n).length = n * zz := by rw [qa3, k1]
        obtain ⟨w', hr, hsr⟩ := h.storeRow (P := P) hT (o := o) (xs := rep z n) (by omega) (z2.rep n) (fun u hu => z3 u (qk0 hu))
        have hrun : (Builtin.clear_ #[t] ty #[.slice (some ⟨(X.β id).blk, (X.β id).base + o, none⟩) n c]).run P w = .ok (.tuple #[]) w' := by
         cases n with
         | zero =>
          have hz0 : (storeCells ⟨(X.β id).blk, (X.β id).base + o, none⟩ (rep zv.cells.toList 0)).run P w = .ok () w := rfl
          rw [hz0] at hr
          injection hr with _ hr
          subst hr
          simp [Builtin.clear_, run_underlying hu]
         | succ n =>
          simp [Builtin.clear_, run_underlying hu, z1]
          have := qjh zv.cells (n + 1)
          rw [this, hr]
          rfl
        refine q15 ?_ (Nx.undef hsr hd (k3 rfl).2)
        simp [execOp, resolve, invoke, builtin, e1, hrun]
        rfl
      ·cases hs
     ·cases hs
    ·cases hs
   ·-- len
    exfalso
    split at hs
    ·split at hs
     ·injection hs with hs; subst hs; exact hp rfl
     ·injection hs with hs; subst hs; exact hp rfl
     ·cases hs
    ·cases hs
   all_goals
    exfalso
    split at hs
    ·injection hs with hs; subst hs; exact hp rfl
    ·cases hs
end
end Go.Aw
