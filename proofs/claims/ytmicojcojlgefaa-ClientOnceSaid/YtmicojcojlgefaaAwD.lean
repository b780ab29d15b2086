/-
  The framework, part 4: abstract states of a run, and what a text of operations does to them.
-/
import Derived.Test.YtmicojcojlgefaaAwC
import Derived.IntWalk
import Derived.ProofKit
import Derived.OpenShut
/-
  Equations by which a text is followed.
-/
namespace Go.Aw
open Go
set_option linter.all false
variable [Glob]

section
variable {P : Program} {R : RPost} {K : Env → Loc → Tab → Prop} {e : Env} {L : Loc} {T : Tab}

theorem AW_skip : AW P .skip R e L T = R .normal e L T := rfl
theorem AW_ops (l : List SOp) : AW P (.ops l) R e L T = opsG P l (R .normal) e L T := rfl
theorem AW_seq (a b : SC) : AW P (.seq a b) R e L T = AW P a (thenR (AW P b R) R) e L T := rfl
theorem AW_block (id : Nat) (c : SC) : AW P (.block id c) R e L T = AW P c (blkR id R) e L T := rfl
theorem AW_exit (id : Nat) : AW P (.exit id) R e L T = R (.exit id) e L T := rfl
theorem AW_ret : AW P .ret R e L T = R .ret e L T := rfl
theorem AW_keep (ts ls : List Nat) : AW P (.keep ts ls) R e L T = R .normal (keepL ts e) (keepL ls L) T := rfl
theorem thenR_normal : thenR K R .normal = K := rfl
theorem thenR_exit (id : Nat) : thenR K R (.exit id) = R (.exit id) := rfl
theorem thenR_ret : thenR K R .ret = R .ret := rfl
theorem blkR_normal (id : Nat) : blkR id R .normal = R .normal := rfl
theorem blkR_exit (id id' : Nat) : blkR id R (.exit id') = if id' = id then R .normal else R (.exit id') := rfl
theorem blkR_ret (id : Nat) : blkR id R .ret = R .ret := rfl
theorem FinX_normal (rs : List SO) (Q : AV → Tab → Prop) : FinX rs Q .normal = FinR rs Q := rfl
theorem FinX_ret (rs : List SO) (Q : AV → Tab → Prop) : FinX rs Q .ret = FinR rs Q := rfl
theorem opsG_nil : opsG P [] K e L T = K e L T := rfl
theorem opsG_cons (o : SOp) (l : List SOp) : opsG P (o :: l) K e L T = gstep P o (opsG P l K) e L T := rfl
theorem eset_some (d : Nat) (x : AV) : eset e (some d) x = aset e d x := rfl
theorem eset_none (x : AV) : eset e none x = e := rfl

variable {d : Option Nat} {rc : RC}
/-- What is not looked into yet. -/
inductive Hold.{u} {α : Sort u} (a : α) : Type
  | mk

/-- An operation that yields a value. -/
def vst (x : Option AV) {K : AV → Prop} (_ : Hold K) : Prop :=
  match x with
  | some x => K x
  | none => False
/-- Rows may be frozen here. -/
def gzS (e : Env) (L : Loc) (T : Tab) {K : Env → Loc → Tab → Prop} (_ : Hold K) : Prop := ∃ (S : List Nat) (T' : Tab), S.Nodup ∧ (∀ id ∈ S, T id ≠ .unused) ∧ (∀ j, SlotFz T S (T' j) (kill T S j)) ∧ K (frE T S e) L T'
theorem AW_gfz : AW P .gfz R e L T = gzS e L T (Hold.mk (a := R .normal)) := rfl
theorem vst_some (x : AV) (K : AV → Prop) (h : Hold K) : vst (some x) h = K x := rfl

/-- Two ways. -/
def br (x : Bool) {a b : Prop} (_ : Hold a) (_ : Hold b) : Prop := if x = true then a else b
theorem br_true (a b : Prop) (p : Hold a) (q : Hold b) : br true p q = a := rfl
theorem br_false (a b : Prop) (p : Hold a) (q : Hold b) : br false p q = b := rfl
theorem br_split {x : Bool} {a b : Prop} {p : Hold a} {q : Hold b} (ha : x = true → a) (hb : x = false → b) : br x p q := by
  cases x
  · exact hb rfl
  · exact ha rfl

/-- Is a slice nil? -/
def snl (neg : Bool) (x : Option AV) {K : AV → Prop} (_ : Hold K) : Prop := snilStep neg x K
theorem snl_sl (neg : Bool) (id o n : Nat) (cap : Option Nat) (K : AV → Prop) (h : Hold K) : snl neg (some (.sl id o n cap)) h = K (.b neg) := rfl
theorem snl_fz (neg : Bool) (n : Nat) (c : List AV) (cap : Option Nat) (K : AV → Prop) (h : Hold K) : snl neg (some (.fz n c cap)) h = if 0 < n then K (.b neg) else ∀ b, K (.b b) := rfl

/-- Two ways, by a value. -/
def brO (x : Option AV) {a b : Prop} (p : Hold a) (q : Hold b) : Prop :=
  match x with
  | some (.b x) => br x p q
  | _ => False
theorem brO_b (x : Bool) (a b : Prop) (p : Hold a) (q : Hold b) : brO (some (.b x)) p q = br x p q := rfl

def gsO (x : Option AV) {a b : Prop} (p : Hold a) (q : Hold b) : Prop :=
  match x with
  | some (.b x) => br x p q
  | some (.tup []) => b
  | _ => False
theorem gsO_b (x : Bool) (a b : Prop) (p : Hold a) (q : Hold b) : gsO (some (.b x)) p q = br x p q := rfl
theorem gsO_t (a b : Prop) (p : Hold a) (q : Hold b) : gsO (some (.tup [])) p q = b := rfl
def gsN (x : Option AV) {a b : Prop} (p : Hold a) (q : Hold b) : Prop :=
  match x with
  | some (.b x) => br x q p
  | some (.tup []) => b
  | _ => False
theorem gsN_b (x : Bool) (a b : Prop) (p : Hold a) (q : Hold b) : gsN (some (.b x)) p q = br x q p := rfl
theorem gsN_t (a b : Prop) (p : Hold a) (q : Hold b) : gsN (some (.tup [])) p q = b := rfl

/-- What changes local variables. -/
def vs2 (x : Option (Env × Loc)) {K : Env → Loc → Prop} (_ : Hold K) : Prop :=
  match x with
  | some (e, l) => K e l
  | none => False
theorem vs2_some (e : Env) (l : Loc) (K : Env → Loc → Prop) (h : Hold K) : vs2 (some (e, l)) h = K e l := rfl

/-- What may be left out. -/
def gst (e : Env) (k : Nat) (want : Bool) {y n : Prop} (p : Hold y) (q : Hold n) : Prop :=
  match aget e k with
  | some (.b x) => if want then br x p q else br x q p
  | some (.tup []) => n
  | _ => False

theorem g_mv (x) : gstep P ⟨d, .mv x, none, rc⟩ K e L T = vst (opdV e x) (Hold.mk (a := fun v => K (eset e d v) L T)) := rfl
theorem g_pick (c x y) : gstep P ⟨d, .pick c x y, none, rc⟩ K e L T = vst ((opdV e c).bind fun c => pickAv c (opdV e x) (opdV e y)) (Hold.mk (a := fun v => K (eset e d v) L T)) := rfl
theorem g_bin (o x y) : gstep P ⟨d, .bin o x y, none, rc⟩ K e L T = vst ((opdV e x).bind fun x => (opdV e y).bind fun y => binAv o x y) (Hold.mk (a := fun v => K (eset e d v) L T)) := rfl
theorem g_eq (o k x y) : gstep P ⟨d, .eq o k x y, none, rc⟩ K e L T = vst ((opdV e x).bind fun x => (opdV e y).bind fun y => (eqAv k x y).map fun r => .b (if o then !r else r)) (Hold.mk (a := fun v => K (eset e d v) L T)) := rfl
theorem g_snil (neg x) : gstep P ⟨d, .snil neg x, none, rc⟩ K e L T = snl neg (opdV e x) (Hold.mk (a := fun v => K (eset e d v) L T)) := rfl
theorem g_un (o x) : gstep P ⟨d, .un o x, none, rc⟩ K e L T = vst ((opdV e x).bind (unAv o)) (Hold.mk (a := fun v => K (eset e d v) L T)) := rfl
theorem g_cvi (k x) : gstep P ⟨d, .cvi k x, none, rc⟩ K e L T = vst ((opdV e x).bind (wrapAv k)) (Hold.mk (a := fun v => K (eset e d v) L T)) := rfl
theorem g_b2s (x) : gstep P ⟨d, .b2s x, none, rc⟩ K e L T = vst ((opdV e x).bind fun x => (slCells T 1 x).bind fun c => match x with
      | .s _ => none
      | _ => (bytesAv c).map .s) (Hold.mk (a := fun v => K (eset e d v) L T)) := rfl
theorem g_s2b (x) : gstep P ⟨d, .s2b x, none, rc⟩ K e L T = vst ((opdV e x).bind fun x => match x with
    | .s l => some (.fz l.length (byteCells l) none)
    | _ => none) (Hold.mk (a := fun v => K (eset e d v) L T)) := rfl
theorem g_cvs (x) : gstep P ⟨d, .cvs x, none, rc⟩ K e L T = vst ((opdV e x).bind fun x => match x with
      | .s l => some (.s l)
      | _ => none) (Hold.mk (a := fun v => K (eset e d v) L T)) := rfl
theorem g_ifc (t x) : gstep P ⟨d, .ifc t x, none, rc⟩ K e L T = vst ((opdV e x).map (.ifc t)) (Hold.mk (a := fun v => K (eset e d v) L T)) := rfl
theorem g_mkfn (f a c) : gstep P ⟨d, .mkfn f a c, none, rc⟩ K e L T = vst ((opdVs e a).bind fun a => (opdVs e c).map fun b => .fn f a b) (Hold.mk (a := fun v => K (eset e d v) L T)) := rfl
theorem g_slc (z x lo hi mx) : gstep P ⟨d, .slc z x lo hi mx, none, rc⟩ K e L T = vst ((opdV e x).bind fun x => (optOpd e lo).bind fun lo => (optOpd e hi).bind fun hi => (optOpd e mx).bind fun mx => slcAv z T lo hi mx x) (Hold.mk (a := fun v => K (eset e d v) L T)) := rfl
theorem g_slcs (x lo hi) : gstep P ⟨d, .slcs x lo hi, none, rc⟩ K e L T = vst ((opdV e x).bind fun x => (optOpd e lo).bind fun lo => (optOpd e hi).bind fun hi => slcStr lo hi x) (Hold.mk (a := fun v => K (eset e d v) L T)) := rfl
theorem g_fadr (l o x) : gstep P ⟨d, .fadr l o x, none, rc⟩ K e L T = vst ((opdL e l x).bind (fadrAv o)) (Hold.mk (a := fun v => K (eset e d v) L T)) := rfl
theorem g_fld (o z x) : gstep P ⟨d, .fld o z x, none, rc⟩ K e L T = vst ((opdV e x).bind (fldAv o z)) (Hold.mk (a := fun v => K (eset e d v) L T)) := rfl
theorem g_iadr (l z a x i) : gstep P ⟨d, .iadr l z a x i, none, rc⟩ K e L T = vst ((opdL e l x).bind fun x => (opdV e i).bind fun i => iadrAv z a i x) (Hold.mk (a := fun v => K (eset e d v) L T)) := rfl
theorem g_idxs (x i) : gstep P ⟨d, .idxs x i, none, rc⟩ K e L T = vst ((opdV e x).bind fun x => (opdV e i).bind fun i => idxStr i x) (Hold.mk (a := fun v => K (eset e d v) L T)) := rfl
theorem g_ext (i x) : gstep P ⟨d, .ext i x, none, rc⟩ K e L T = vst ((opdV e x).bind (extAv i)) (Hold.mk (a := fun v => K (eset e d v) L T)) := rfl
theorem g_len (s x) : gstep P ⟨d, .len s x, none, rc⟩ K e L T = vst ((opdV e x).bind (lenAv s)) (Hold.mk (a := fun v => K (eset e d v) L T)) := rfl
theorem g_idxa (z l n x i) : gstep P ⟨d, .idxa z l n x i, none, rc⟩ K e L T = vst ((opdV e x).bind fun x => (opdV e i).bind fun i => idxAv z l n i x) (Hold.mk (a := fun v => K (eset e d v) L T)) := rfl
theorem g_cap (x) : gstep P ⟨d, .cap x, none, rc⟩ K e L T = vst ((opdV e x).bind capAv) (Hold.mk (a := fun v => K (eset e d v) L T)) := rfl
theorem g_bad : gstep P ⟨d, .bad, none, rc⟩ K e L T = False := rfl
def mkS (z b : Nat) (zero : List AV) (x y : Option AV) (T : Tab) {k : AV → Tab → Prop} (_ : Hold k) : Prop :=
  match x, y with
  | some (.i _ j), some (.i _ q) => 0 ≤ j ∧ j ≤ q ∧ q.toNat * b ≤ 140737488355328 ∧ q ≤ 9223372036854775807 ∧ ∀ id, T id = .unused → k (.sl id 0 j.toNat none) (T.put id (.row z (rep zero q.toNat)))
  | _, _ => False
theorem g_mnx (m x y) : gstep P ⟨d, .mnx m x y, none, rc⟩ K e L T = vst ((opdV e x).bind fun x => (opdV e y).bind fun y => mnxAv m x y) (Hold.mk (a := fun v => K (eset e d v) L T)) := rfl
theorem g_nilck (l x) : gstep P ⟨d, .nilck l x, none, rc⟩ K e L T = vst ((opdL e l x).bind nilckAv) (Hold.mk (a := fun v => K (eset e d v) L T)) := rfl
theorem g_bld (z ps) : gstep P ⟨d, .bld z ps, none, rc⟩ K e L T = vst ((bldAv e z ps).map .agg) (Hold.mk (a := fun v => K (eset e d v) L T)) := rfl
theorem g_bsl (n q z ps) : gstep P ⟨d, .bsl n q z ps, none, rc⟩ K e L T = vst ((bldAv e z ps).map fun cells => .fz n cells (some n)) (Hold.mk (a := fun v => K (eset e d v) L T)) := rfl
theorem g_ld (z x) : gstep P ⟨d, .ld z x, none, rc⟩ K e L T = vst ((opdV e x).bind (ldAv z T)) (Hold.mk (a := fun v => K (eset e d v) L T)) := rfl
theorem g_lld (l z x) : gstep P ⟨d, .lld l z x, none, rc⟩ K e L T = vst ((opdL e (some l) x).bind (lldAv l z L)) (Hold.mk (a := fun v => K (eset e d v) L T)) := rfl
theorem g_fbox (x) : gstep P ⟨d, .fbox x, none, rc⟩ K e L T = vst ((opdV e x).bind fun v => if v.sto = true then some (.fptr v.cells) else none) (Hold.mk (a := fun v => K (eset e d v) L T)) := rfl

theorem g_lst (l z x v) : gstep P ⟨d, .lst l z x v, none, rc⟩ K e L T = vs2 ((opdL e (some l) x).bind fun p => (opdV e v).bind fun y => match p with
    | .lp _ o => (aget L l).bind fun cells => if y.sto = true ∧ y.cells.length = z ∧ o + z ≤ cells.length then some (eset e d (.tup []), aset L l (stCells cells o y.cells)) else none
    | _ => none) (Hold.mk (a := fun e l => K e l T)) := rfl
theorem g_lalloc (k : Nat) (z) : gstep P ⟨some k, .lalloc z, none, rc⟩ K e L T = K (aset (dropLp e k) k (.lp k 0)) (aset L k z) T := rfl
theorem g_lbox (k : Nat) (x) : gstep P ⟨some k, .lbox x, none, rc⟩ K e L T = vs2 ((opdV e x).bind fun v => if v.sto = true then some (aset (dropLp e k) k (.lp k 0), aset L k v.cells) else none) (Hold.mk (a := fun e l => K e l T)) := rfl

/-- A call. -/
def CallK (P : Program) (f : FuncId) (avs : List AV) (T : Tab) (k : AV → Tab → Prop) : Prop :=
  ∃ S R, S.Nodup ∧ (∀ id ∈ S, T id ≠ .unused) ∧ ACalls P f (avs.map (frzv T S)) (kill T S) R ∧ ∀ v T', R v T' → k v T'

/-- What is done behind an operation on the table. -/
def aft (K : Env → Loc → Tab → Prop) (e : Env) (L : Loc) (d : Option Nat) (rc : RC) : AV → Tab → Prop := fun v T' => v.isLp = false → rcOk (eset e d v) L T' rc ∧ K (eset e d v) L T'

def calS (P : Program) (f : FuncId) (avs : Option (List AV)) (T : Tab) {k : AV → Tab → Prop} (_ : Hold k) : Prop :=
  match avs with
  | some avs => CallK P f avs T k
  | none => False
theorem calS_some (f : FuncId) (avs : List AV) (k : AV → Tab → Prop) (h : Hold k) : calS P f (some avs) T h = CallK P f avs T k := rfl
def calV (P : Program) (x : Option AV) (avs : Option (List AV)) (T : Tab) {k : AV → Tab → Prop} (_ : Hold k) : Prop :=
  match x, avs with
  | some (.fn (.func f) first cap), some avs => callable P f = true ∧ CallK P f (first ++ avs ++ cap) T k
  | _, _ => False
theorem calV_some (f : FuncId) (first cap avs : List AV) (k : AV → Tab → Prop) (h : Hold k) (hc : callable P f = true) : calV P (some (.fn (.func f) first cap)) (some avs) T h = CallK P f (first ++ avs ++ cap) T k := by
  simp [calV, hc]

theorem g_call (f args) (hc : callable P f = true) : gstep P ⟨d, .call f args, none, rc⟩ K e L T = calS P f (opdVs e args) T (Hold.mk (a := aft K e L d rc)) := by
  have : gstep P ⟨d, .call f args, none, rc⟩ K e L T = (callable P f = true ∧ match opdVs e args with
    | some avs => CallK P f avs T (aft K e L d rc)
    | none => False) := rfl
  rw [this]; simp only [hc, true_and]; rfl
theorem g_callv (x args) : gstep P ⟨d, .callv x args, none, rc⟩ K e L T = calV P (opdV e x) (opdVs e args) T (Hold.mk (a := aft K e L d rc)) := rfl
theorem g_halloc (z c) : gstep P ⟨d, .halloc z c, none, rc⟩ K e L T = ∀ id, T id = .unused → aft K e L d rc (.ptr id 0) (T.put id (.row z c)) := rfl
def hbS (z : Nat) (x : Option AV) (T : Tab) {k : AV → Tab → Prop} (_ : Hold k) : Prop :=
  match x with
  | some v => v.sto = true ∧ ∀ id, T id = .unused → k (.ptr id 0) (T.put id (.row z v.cells))
  | none => False
theorem hbS_some (z : Nat) (v : AV) (k : AV → Tab → Prop) (h : Hold k) (hv : v.sto = true) : hbS z (some v) T h = ∀ id, T id = .unused → k (.ptr id 0) (T.put id (.row z v.cells)) := by simp [hbS, hv]
theorem g_hbox (z x) : gstep P ⟨d, .hbox z x, none, rc⟩ K e L T = hbS z (opdV e x) T (Hold.mk (a := aft K e L d rc)) := rfl
def stS (z : Nat) (x y : Option AV) (T : Tab) {k : AV → Tab → Prop} (_ : Hold k) : Prop :=
  match x, y with
  | some (.ptr id o), some y => match T id with
    | .row q cells => y.sto = true ∧ y.cells.length = z ∧ o + z ≤ cells.length ∧ k (.tup []) (T.put id (.row q (stCells cells o y.cells)))
    | _ => False
  | _, _ => False
theorem stS_row {z id o q : Nat} {y : AV} {cells : List AV} {k : AV → Tab → Prop} {h : Hold k} (hT : T id = .row q cells) (h1 : y.sto = true) (h2 : y.cells.length = z) (h3 : o + z ≤ cells.length)
    (hk : k (.tup []) (T.put id (.row q (stCells cells o y.cells)))) : stS z (some (.ptr id o)) (some y) T h := by
  unfold stS; simp only [hT]; exact ⟨h1, h2, h3, hk⟩
theorem g_st (z x v) : gstep P ⟨d, .st z x v, none, rc⟩ K e L T = stS z (opdV e x) (opdV e v) T (Hold.mk (a := aft K e L d rc)) := rfl
def apS (z b : Nat) (x y : Option AV) (T : Tab) {k : AV → Tab → Prop} (_ : Hold k) : Prop :=
  match x, y with
  | some x, some y => appStep z b T x y k
  | _, _ => False
theorem apS_some (z b : Nat) (x y : AV) (k : AV → Tab → Prop) (h : Hold k) : apS z b (some x) (some y) T h = appStep z b T x y k := rfl
theorem g_app (z b x y) : gstep P ⟨d, .app z b x y, none, rc⟩ K e L T = apS z b (opdV e x) (opdV e y) T (Hold.mk (a := aft K e L d rc)) := rfl
def clS (z : Nat) (zero : List AV) (x : Option AV) (T : Tab) {k : AV → Tab → Prop} (_ : Hold k) : Prop :=
  match x with
  | some (.fz 0 _ _) => k (.tup []) T
  | some (.sl id o n _) => match T id with
    | .row q cells => q = z ∧ zero.length = z ∧ o + n * z ≤ cells.length ∧ k (.tup []) (T.put id (.row q (stCells cells o (rep zero n))))
    | _ => False
  | _ => False
theorem g_clr (z zero x) : gstep P ⟨d, .clr z zero x, none, rc⟩ K e L T = clS z zero (opdV e x) T (Hold.mk (a := aft K e L d rc)) := rfl

def hbsS (n z : Nat) (x : Option (List AV)) (T : Tab) {k : AV → Tab → Prop} (_ : Hold k) : Prop :=
  match x with
  | some cells => ∀ id, T id = .unused → k (.sl id 0 n (some n)) (T.put id (.row z cells))
  | none => False
theorem hbsS_some (n z : Nat) (cells : List AV) (k : AV → Tab → Prop) (h : Hold k) : hbsS n z (some cells) T h = ∀ id, T id = .unused → k (.sl id 0 n (some n)) (T.put id (.row z cells)) := rfl
theorem g_hbs (n z zero ps) : gstep P ⟨d, .hbs n z zero ps, none, rc⟩ K e L T = hbsS n z (bldAv e zero ps) T (Hold.mk (a := aft K e L d rc)) := rfl
def cvmS (x : Option AV) (T : Tab) {k : AV → Tab → Prop} (_ : Hold k) : Prop :=
  match x with
  | some (.sl id o n cap) => match T id with
    | .row z cells => z = 1 ∧ o + n ≤ cells.length ∧ k (.fz n ((cells.drop o).take n) cap) (T.put id .unused)
    | _ => False
  | _ => False
theorem g_cvm (x) : gstep P ⟨d, .cvm x, none, rc⟩ K e L T = cvmS (opdV e x) T (Hold.mk (a := aft K e L d rc)) := rfl
def apzS (z b : Nat) (zero : List AV) (x y : Option AV) (T : Tab) {k : AV → Tab → Prop} (_ : Hold k) : Prop :=
  match x, y with
  | some (.fz 0 [] (some 0)), some (.i _ q) => 0 < q ∧ q.toNat * b ≤ 140737488355328 ∧ q ≤ 9223372036854775807 ∧ ∀ id, T id = .unused → k (.sl id 0 q.toNat none) (T.put id (.row z (rep zero q.toNat)))
  | _, _ => False
theorem apzS_of {z b : Nat} {zero : List AV} {k2 : IntKind} {q : Int} {k : AV → Tab → Prop} {h : Hold k} (h2 : 0 < q) (h3 : q.toNat * b ≤ 140737488355328) (h4 : q ≤ 9223372036854775807)
    (hk : ∀ id, T id = .unused → k (.sl id 0 q.toNat none) (T.put id (.row z (rep zero q.toNat)))) : apzS z b zero (some (.fz 0 [] (some 0))) (some (.i k2 q)) T h := ⟨h2, h3, h4, hk⟩
theorem g_apz (z b zero x y) : gstep P ⟨d, .apz z b zero x y, none, rc⟩ K e L T = apzS z b zero (opdV e x) (opdV e y) T (Hold.mk (a := aft K e L d rc)) := rfl
theorem g_mkm : gstep P ⟨d, .mkm, none, rc⟩ K e L T = ∀ id, T id = .unused → aft K e L d rc (.mp id) (T.put id (.mapo [])) := rfl
def lkuS (m : MK) (ok : Bool) (zero : AV) (x y : Option AV) (T : Tab) {k : AV → Tab → Prop} (_ : Hold k) : Prop :=
  match x, y with
  | some (.mp id), some kv => match T id with
    | .mapo es => isKeyAv m kv = true ∧ match mget m kv es with
      | some (some v) => k (if ok then .tup [v, .b true] else v) T
      | some none => k (if ok then .tup [zero, .b false] else zero) T
      | none => False
    | _ => False
  | _, _ => False
theorem lkuS_has {m : MK} {ok : Bool} {zero kv v : AV} {id : Nat} {es : List (AV × AV)} {k : AV → Tab → Prop} {h : Hold k} (hT : T id = .mapo es) (h1 : isKeyAv m kv = true) (h2 : mget m kv es = some (some v))
    (hk : k (if ok then .tup [v, .b true] else v) T) : lkuS m ok zero (some (.mp id)) (some kv) T h := by
  unfold lkuS; simp only [hT, h2]; exact ⟨h1, hk⟩
theorem lkuS_not {m : MK} {ok : Bool} {zero kv : AV} {id : Nat} {es : List (AV × AV)} {k : AV → Tab → Prop} {h : Hold k} (hT : T id = .mapo es) (h1 : isKeyAv m kv = true) (h2 : mget m kv es = some none)
    (hk : k (if ok then .tup [zero, .b false] else zero) T) : lkuS m ok zero (some (.mp id)) (some kv) T h := by
  unfold lkuS; simp only [hT, h2]; exact ⟨h1, hk⟩
theorem g_lku (m ok zero x y) : gstep P ⟨d, .lku m ok zero x y, none, rc⟩ K e L T = lkuS m ok zero (opdV e x) (opdV e y) T (Hold.mk (a := aft K e L d rc)) := rfl
def mupS (m : MK) (x y z : Option AV) (T : Tab) {k : AV → Tab → Prop} (_ : Hold k) : Prop :=
  match x, y, z with
  | some (.mp id), some kv, some y => match T id with
    | .mapo es => isKeyAv m kv = true ∧ (mget m kv es).isSome = true ∧ k (.tup []) (T.put id (.mapo (mput kv y es)))
    | _ => False
  | _, _, _ => False
theorem mupS_of {m : MK} {kv y : AV} {id : Nat} {es : List (AV × AV)} {k : AV → Tab → Prop} {h : Hold k} (hT : T id = .mapo es) (h1 : isKeyAv m kv = true) (h2 : (mget m kv es).isSome = true)
    (hk : k (.tup []) (T.put id (.mapo (mput kv y es)))) : mupS m (some (.mp id)) (some kv) (some y) T h := by
  unfold mupS; simp only [hT]; exact ⟨h1, h2, hk⟩
theorem g_mup (m x y z) : gstep P ⟨d, .mup m x y z, none, rc⟩ K e L T = mupS m (opdV e x) (opdV e y) (opdV e z) T (Hold.mk (a := aft K e L d rc)) := rfl
theorem g_mksl (z b zero x y) : gstep P ⟨d, .mksl z b zero x y, none, rc⟩ K e L T = mkS z b zero (opdV e x) (opdV e y) T (Hold.mk (a := aft K e L d rc)) := rfl

theorem aft_nil {v : AV} {T' : Tab} (h : K (eset e d v) L T') : aft K e L d [] v T' := fun _ => ⟨trivial, h⟩
theorem aft_rc {v : AV} {T' : Tab} (h : v.isLp = false → rcOk (eset e d v) L T' rc) (k : K (eset e d v) L T') : aft K e L d rc v T' := fun hv => ⟨h hv, k⟩

theorem gst_eq (k : Nat) (want : Bool) {y n : Prop} (p : Hold y) (q : Hold n) : gst e k want p q = gdd e (some (k, want)) y n False := by
  unfold gst gdd
  simp only
  rcases aget e k with _ | x
  · rfl
  · cases x with
    | b x => cases x <;> cases want <;> rfl
    | tup l => cases l <;> rfl
    | _ => rfl

theorem g_gd (o : SO) (k : Nat) (want : Bool) : gstep P ⟨d, o, some (k, want), []⟩ K e L T = gst e k want (Hold.mk (a := gstep P ⟨d, o, none, []⟩ K e L T)) (Hold.mk (a := K (eset e d (.tup [])) L T)) := by
  rw [gst_eq]
  have hm0 : ∀ {α : Type} (f : α → Prop) (y n z : α), f (gdd e (some (k, want)) y n z) = gdd e (some (k, want)) (f y) (f n) (f z) := fun f y n z => by
    unfold gdd
    simp only
    split <;> (try split) <;> rfl
  cases hk : o.kind with
  | val =>
    have e1 : ∀ gd, gstep P ⟨d, o, gd, []⟩ K e L T = vst (gvev o gd e L T) (Hold.mk (a := fun v => K (eset e d v) L T)) := fun gd => by unfold gstep; simp only [hk]; rfl
    rw [e1, e1]
    exact hm0 (fun x => vst x (Hold.mk (a := fun v => K (eset e d v) L T))) _ _ _
  | snil => unfold gstep; simp only [hk]; rfl
  | leff =>
    have e1 : ∀ gd, gstep P ⟨d, o, gd, []⟩ K e L T = (fun x : Option (Env × Loc) => match x with | some (e, l) => K e l T | none => False) (gdd e gd (lev o d e L) (some (eset e d (.tup []), L)) none) := fun gd => by unfold gstep; simp only [hk]; rfl
    rw [e1, e1]
    exact hm0 (fun x : Option (Env × Loc) => match x with | some (e, l) => K e l T | none => False) _ _ _
  | teff => unfold gstep; simp only [hk, rcOk, true_and]; rfl

theorem g_gdrc (o : SO) (ho : o.kind = .teff) (k : Nat) (want : Bool) : gstep P ⟨d, o, some (k, want), rc⟩ K e L T = gdd e (some (k, want)) (gstep P ⟨d, o, none, rc⟩ K e L T) (rcOk (eset e d (.tup [])) L T rc ∧ K (eset e d (.tup [])) L T) False := by
  unfold gstep
  simp only [ho, gdd]

/-- A loop, by its name. -/
theorem AW_loopD {l c : SC} (hl : l = .loop c) (hR : ExtR R) (h : AW P c (thenR (AW P l R) R) e L T) : AW P l R e L T := by
  subst hl; exact AW_loop hR h

/-! ### Calls -/
theorem frzv_nil (x : AV) : frzv T [] x = x := by
  have h1 : ∀ y, frz1 T [] y = y := fun y => by cases y <;> simp [frz1]
  have : (frz1 T []) = id := funext h1
  cases x <;> simp [frzv, h1, this]

theorem frzt_nil (x : AV) : frzt T [] x = x := by
  have : (frzv T []) = id := funext frzv_nil
  cases x <;> simp [frzt, frzv_nil, this]

theorem CallK.of {f : FuncId} {avs : List AV} {k : AV → Tab → Prop} {Q : AV → Tab → Prop} (h : ACalls P f avs T Q) (hk : ∀ v T', Q v T' → k v T') : CallK P f avs T k := by
  have : (frzv T []) = id := funext frzv_nil
  refine ⟨[], Q, List.nodup_nil, by simp, ?_, hk⟩
  rw [this, List.map_id]
  exact h

theorem CallK.pure {f : FuncId} {avs : List AV} {k : AV → Tab → Prop} {r : AV} (h : PCalls P f avs r) (hk : k r T) : CallK P f avs T k :=
  .of (h T) fun v T' h => by rw [h.1, h.2]; exact hk

theorem pcalls_of (hm : P.follows .mixedOrders = true) {f : FuncId} {n : Nat} {sc : SC} {rs : List SO} (ht : FnTxt P f n sc rs) {args : List AV} {r : AV} (hl : args.length ≤ n)
    (h : ∀ T, AW P sc (FinX rs fun v T' => v = r ∧ T' = T) (aenv 0 args) [] T) : PCalls P f args r := fun T => acalls_of hm ht hl (h T)

theorem Wk.refl (x : AV) : Wk x x := fun _ _ _ h => h
theorem Wk.trans {x y z : AV} (h : Wk x y) (k : Wk y z) : Wk x z := fun X w v hv => k X w v (h X w v hv)
theorem Wk.fz {n : Nat} {cells : List AV} {cap : Option Nat} : Wk (.fz n cells cap) (.fz n cells none) := fun X w v h => by
  simp only [vr] at h ⊢
  obtain ⟨us, h1, h2⟩ := h
  refine ⟨us, h1, ?_⟩
  rcases h2 with ⟨a, b, c, _⟩ | ⟨a, c, h3, h4, h5, _, h6⟩
  · exact .inl ⟨a, b, c, fun k hk => by cases hk⟩
  · exact .inr ⟨a, c, h3, h4, h5, (fun k hk => by cases hk), h6⟩
def Wks : List AV → List AV → Prop
  | [], [] => True
  | x :: l, y :: m => Wk x y ∧ Wks l m
  | _, _ => False
theorem Wks.vrs {X : Cx} {w : World} : ∀ {l m : List AV}, Wks l m → ∀ {us}, Aw.vrs X w l us → Aw.vrs X w m us
  | [], [], _, us, h => h
  | x :: l, y :: m, h, us, hv => by
    simp only [Aw.vrs] at hv ⊢
    obtain ⟨u, us', rfl, h2, h3⟩ := hv
    exact ⟨u, us', rfl, h.1 _ _ _ h2, Wks.vrs h.2 h3⟩
  | [], _ :: _, h, _, _ => h.elim
  | _ :: _, [], h, _, _ => h.elim
theorem Wks.refl : ∀ l, Wks l l
  | [] => trivial
  | x :: l => ⟨.refl x, Wks.refl l⟩
theorem Wk.agg {l m : List AV} (h : Wks l m) : Wk (.agg l) (.agg m) := fun X w v hv => by
  simp only [vr] at hv ⊢
  obtain ⟨us, h1, h2⟩ := hv
  exact ⟨us, h.vrs h1, h2⟩
theorem Wk.tup {l m : List AV} (h : Wks l m) : Wk (.tup l) (.tup m) := fun X w v hv => by
  simp only [vr] at hv ⊢
  obtain ⟨us, h1, h2⟩ := hv
  exact ⟨us, h.vrs h1, h2⟩

theorem FinR_eq (rs : List SO) (Q : AV → Tab → Prop) : FinR rs Q e L T = fin (resAvs rs e L T) Q T := rfl
theorem fin_some (l : List AV) (Q : AV → Tab → Prop) : fin (some l) Q T = finL (oneOr l) Q T := rfl
theorem oneOr_one (x : AV) : oneOr [x] = x := rfl
theorem oneOr_nil : oneOr [] = .tup [] := rfl
theorem oneOr_two (x y : AV) (l : List AV) : oneOr (x :: y :: l) = .tup (x :: y :: l) := rfl

/-- At the end: nothing is frozen, the table is as it was. -/
theorem finL_pure {r r' : AV} (hr : r' = r) : finL r' (fun v T' => v = r ∧ T' = T) T :=
  ⟨[], T, r, List.nodup_nil, by simp, fun _ => .inr (.inl rfl), by rw [frzt_nil, hr]; exact .refl r, rfl, rfl⟩

/-- At the end: what was made is forgotten. -/
theorem finL_of {r : AV} {Q : AV → Tab → Prop} (T' : Tab) (hT : ∀ id, SlotLe (T' id) (T id)) (hQ : Q r T') : finL r Q T :=
  ⟨[], T', r, List.nodup_nil, by simp, hT, by rw [frzt_nil]; exact .refl r, hQ⟩

theorem AW_cond (c : Operand) (a b : SC) : AW P (.cond c a b) R e L T = brO (opdV e c) (Hold.mk (a := AW P a R e L T)) (Hold.mk (a := AW P b R e L T)) := rfl
theorem gst_t (k : Nat) (y n : Prop) (p : Hold y) (q : Hold n) : gst e k true p q = gsO (aget e k) p q := rfl
theorem gst_f (k : Nat) (y n : Prop) (p : Hold y) (q : Hold n) : gst e k false p q = gsN (aget e k) p q := rfl

end

theorem pl_b {x : Bool} : AV.plain (.b x) = true := rfl
theorem lpq_b {x : Bool} : AV.isLp (.b x) = false := rfl
theorem one_b {x : Bool} : AV.isOne (.b x) = true := rfl
theorem sto_b {x : Bool} : AV.sto (.b x) = true := rfl
theorem cel_b {x : Bool} : AV.cells (.b x) = [(.b x)] := rfl
theorem off_b {x : Bool} (j : Nat) : AV.offLp j (.b x) = (.b x) := rfl
theorem pl_i {k : IntKind} {n : Int} : AV.plain (.i k n) = true := rfl
theorem lpq_i {k : IntKind} {n : Int} : AV.isLp (.i k n) = false := rfl
theorem one_i {k : IntKind} {n : Int} : AV.isOne (.i k n) = true := rfl
theorem sto_i {k : IntKind} {n : Int} : AV.sto (.i k n) = true := rfl
theorem cel_i {k : IntKind} {n : Int} : AV.cells (.i k n) = [(.i k n)] := rfl
theorem off_i {k : IntKind} {n : Int} (j : Nat) : AV.offLp j (.i k n) = (.i k n) := rfl
theorem pl_s {l : List UInt8} : AV.plain (.s l) = true := rfl
theorem lpq_s {l : List UInt8} : AV.isLp (.s l) = false := rfl
theorem one_s {l : List UInt8} : AV.isOne (.s l) = true := rfl
theorem sto_s {l : List UInt8} : AV.sto (.s l) = true := rfl
theorem cel_s {l : List UInt8} : AV.cells (.s l) = [(.s l)] := rfl
theorem off_s {l : List UInt8} (j : Nat) : AV.offLp j (.s l) = (.s l) := rfl
theorem pl_np  : AV.plain .nilptr = true := rfl
theorem lpq_np  : AV.isLp .nilptr = false := rfl
theorem one_np  : AV.isOne .nilptr = true := rfl
theorem sto_np  : AV.sto .nilptr = true := rfl
theorem cel_np  : AV.cells .nilptr = [.nilptr] := rfl
theorem off_np  (j : Nat) : AV.offLp j .nilptr = .nilptr := rfl
theorem pl_ptr {id o : Nat} : AV.plain (.ptr id o) = true := rfl
theorem lpq_ptr {id o : Nat} : AV.isLp (.ptr id o) = false := rfl
theorem one_ptr {id o : Nat} : AV.isOne (.ptr id o) = true := rfl
theorem sto_ptr {id o : Nat} : AV.sto (.ptr id o) = true := rfl
theorem cel_ptr {id o : Nat} : AV.cells (.ptr id o) = [(.ptr id o)] := rfl
theorem off_ptr {id o : Nat} (j : Nat) : AV.offLp j (.ptr id o) = (.ptr id o) := rfl
theorem pl_fp {c : List AV} : AV.plain (.fptr c) = true := rfl
theorem lpq_fp {c : List AV} : AV.isLp (.fptr c) = false := rfl
theorem one_fp {c : List AV} : AV.isOne (.fptr c) = true := rfl
theorem sto_fp {c : List AV} : AV.sto (.fptr c) = true := rfl
theorem cel_fp {c : List AV} : AV.cells (.fptr c) = [(.fptr c)] := rfl
theorem off_fp {c : List AV} (j : Nat) : AV.offLp j (.fptr c) = (.fptr c) := rfl
theorem pl_fz {n : Nat} {c : List AV} {k : Option Nat} : AV.plain (.fz n c k) = true := rfl
theorem lpq_fz {n : Nat} {c : List AV} {k : Option Nat} : AV.isLp (.fz n c k) = false := rfl
theorem one_fz {n : Nat} {c : List AV} {k : Option Nat} : AV.isOne (.fz n c k) = true := rfl
theorem sto_fz {n : Nat} {c : List AV} {k : Option Nat} : AV.sto (.fz n c k) = true := rfl
theorem cel_fz {n : Nat} {c : List AV} {k : Option Nat} : AV.cells (.fz n c k) = [(.fz n c k)] := rfl
theorem off_fz {n : Nat} {c : List AV} {k : Option Nat} (j : Nat) : AV.offLp j (.fz n c k) = (.fz n c k) := rfl
theorem pl_sl {id o n : Nat} {k : Option Nat} : AV.plain (.sl id o n k) = true := rfl
theorem lpq_sl {id o n : Nat} {k : Option Nat} : AV.isLp (.sl id o n k) = false := rfl
theorem one_sl {id o n : Nat} {k : Option Nat} : AV.isOne (.sl id o n k) = true := rfl
theorem sto_sl {id o n : Nat} {k : Option Nat} : AV.sto (.sl id o n k) = true := rfl
theorem cel_sl {id o n : Nat} {k : Option Nat} : AV.cells (.sl id o n k) = [(.sl id o n k)] := rfl
theorem off_sl {id o n : Nat} {k : Option Nat} (j : Nat) : AV.offLp j (.sl id o n k) = (.sl id o n k) := rfl
theorem pl_nm  : AV.plain .nilmap = true := rfl
theorem lpq_nm  : AV.isLp .nilmap = false := rfl
theorem one_nm  : AV.isOne .nilmap = true := rfl
theorem sto_nm  : AV.sto .nilmap = true := rfl
theorem cel_nm  : AV.cells .nilmap = [.nilmap] := rfl
theorem off_nm  (j : Nat) : AV.offLp j .nilmap = .nilmap := rfl
theorem pl_mp {id : Nat} : AV.plain (.mp id) = true := rfl
theorem lpq_mp {id : Nat} : AV.isLp (.mp id) = false := rfl
theorem one_mp {id : Nat} : AV.isOne (.mp id) = true := rfl
theorem sto_mp {id : Nat} : AV.sto (.mp id) = true := rfl
theorem cel_mp {id : Nat} : AV.cells (.mp id) = [(.mp id)] := rfl
theorem off_mp {id : Nat} (j : Nat) : AV.offLp j (.mp id) = (.mp id) := rfl
theorem pl_fn {f : Fn} {a b : List AV} : AV.plain (.fn f a b) = true := rfl
theorem lpq_fn {f : Fn} {a b : List AV} : AV.isLp (.fn f a b) = false := rfl
theorem one_fn {f : Fn} {a b : List AV} : AV.isOne (.fn f a b) = true := rfl
theorem sto_fn {f : Fn} {a b : List AV} : AV.sto (.fn f a b) = true := rfl
theorem cel_fn {f : Fn} {a b : List AV} : AV.cells (.fn f a b) = [(.fn f a b)] := rfl
theorem off_fn {f : Fn} {a b : List AV} (j : Nat) : AV.offLp j (.fn f a b) = (.fn f a b) := rfl
theorem pl_nf  : AV.plain .nilfn = true := rfl
theorem lpq_nf  : AV.isLp .nilfn = false := rfl
theorem one_nf  : AV.isOne .nilfn = true := rfl
theorem sto_nf  : AV.sto .nilfn = true := rfl
theorem cel_nf  : AV.cells .nilfn = [.nilfn] := rfl
theorem off_nf  (j : Nat) : AV.offLp j .nilfn = .nilfn := rfl
theorem pl_if {t : TypeId} {x : AV} : AV.plain (.ifc t x) = true := rfl
theorem lpq_if {t : TypeId} {x : AV} : AV.isLp (.ifc t x) = false := rfl
theorem one_if {t : TypeId} {x : AV} : AV.isOne (.ifc t x) = true := rfl
theorem sto_if {t : TypeId} {x : AV} : AV.sto (.ifc t x) = true := rfl
theorem cel_if {t : TypeId} {x : AV} : AV.cells (.ifc t x) = [(.ifc t x)] := rfl
theorem off_if {t : TypeId} {x : AV} (j : Nat) : AV.offLp j (.ifc t x) = (.ifc t x) := rfl
theorem pl_ni  : AV.plain .nilifc = true := rfl
theorem lpq_ni  : AV.isLp .nilifc = false := rfl
theorem one_ni  : AV.isOne .nilifc = true := rfl
theorem sto_ni  : AV.sto .nilifc = true := rfl
theorem cel_ni  : AV.cells .nilifc = [.nilifc] := rfl
theorem off_ni  (j : Nat) : AV.offLp j .nilifc = .nilifc := rfl
theorem pl_ag {l : List AV} : AV.plain (.agg l) = true := rfl
theorem lpq_ag {l : List AV} : AV.isLp (.agg l) = false := rfl
theorem one_ag {l : List AV} : AV.isOne (.agg l) = false := rfl
theorem sto_ag {l : List AV} : AV.sto (.agg l) = true := rfl
theorem cel_ag {l : List AV} : AV.cells (.agg l) = l := rfl
theorem off_ag {l : List AV} (j : Nat) : AV.offLp j (.agg l) = (.agg l) := rfl
theorem pl_tp {l : List AV} : AV.plain (.tup l) = true := rfl
theorem lpq_tp {l : List AV} : AV.isLp (.tup l) = false := rfl
theorem one_tp {l : List AV} : AV.isOne (.tup l) = false := rfl
theorem sto_tp {l : List AV} : AV.sto (.tup l) = false := rfl
theorem cel_tp {l : List AV} : AV.cells (.tup l) = [(.tup l)] := rfl
theorem off_tp {l : List AV} (j : Nat) : AV.offLp j (.tup l) = (.tup l) := rfl
theorem pl_lp {l o : Nat} : AV.plain (.lp l o) = false := rfl
theorem lpq_lp {l o : Nat} : AV.isLp (.lp l o) = true := rfl
theorem one_lp {l o : Nat} : AV.isOne (.lp l o) = false := rfl
theorem sto_lp {l o : Nat} : AV.sto (.lp l o) = false := rfl
theorem cel_lp {l o : Nat} : AV.cells (.lp l o) = [(.lp l o)] := rfl
theorem off_lp {l o : Nat} (j : Nat) : AV.offLp j (.lp l o) = if l = j then .any else .lp l o := rfl
theorem pl_rw {v : Value} : AV.plain (.raw v) = true := rfl
theorem lpq_rw {v : Value} : AV.isLp (.raw v) = false := rfl
theorem one_rw {v : Value} : AV.isOne (.raw v) = true := rfl
theorem sto_rw {v : Value} : AV.sto (.raw v) = true := rfl
theorem cel_rw {v : Value} : AV.cells (.raw v) = [(.raw v)] := rfl
theorem off_rw {v : Value} (j : Nat) : AV.offLp j (.raw v) = (.raw v) := rfl

attribute [irreducible] gzS vst br brO gsO gsN vs2 snl calS calV hbS stS apS clS CallK aft
attribute [go_sem ↓] AW_gfz AW_skip AW_ops AW_seq AW_cond AW_block AW_exit AW_ret AW_keep thenR_normal thenR_exit thenR_ret blkR_normal blkR_exit blkR_ret FinX_normal FinX_ret opsG_nil opsG_cons g_mv g_pick g_bin g_eq g_snil g_un g_cvi g_b2s g_s2b g_cvs g_ifc g_mkfn g_slc g_slcs g_fadr g_fld g_iadr g_idxs g_idxa g_cap g_bad g_mksl g_hbs g_cvm g_apz g_mkm g_lku g_mup hbsS_some g_ext g_len g_mnx g_nilck g_bld g_bsl g_ld g_lld g_fbox g_lst g_lalloc g_lbox g_callv g_halloc g_hbox g_st g_app g_gd gst_t gst_f FinR_eq g_clr
attribute [go_sem] eset_some eset_none vst_some aenv aget aset keepL dropLp opdV opd opdL opdVs optOpd cav pickAv binAv binInt binShift binStr unAv eqAv wrapAv fadrAv iadrAv fldAv idxAv capAv extAv lenAv mnxAv nilckAv bldAv setAll ldAv lldAv ldCells plainO stCells slcAv slcStr idxStr bnd slCells bytesAv byteAv snl_sl Option.bind_some Option.bind_none Option.map_some Option.map_none List.getElem?_cons_zero List.getElem?_cons_succ List.getElem?_nil List.drop_zero List.drop_succ_cons List.take_zero List.take_succ_cons List.drop_nil List.take_nil List.length_cons List.length_nil List.set_cons_zero List.set_cons_succ List.append_nil List.nil_append List.cons_append if_true if_false ite_true ite_false and_true true_and and_self Bool.not_true Bool.not_false Bool.false_eq_true decide_true decide_false fin_some oneOr_one oneOr_two oneOr_nil resAvs vev pev br_true br_false Nat.zero_mul Nat.sub_zero Nat.mul_one Nat.zero_add Nat.add_zero brO_b gsO_b gsO_t gsN_b gsN_t vs2_some calS_some hbS_some apS_some pl_b lpq_b one_b sto_b cel_b off_b pl_i lpq_i one_i sto_i cel_i off_i pl_s lpq_s one_s sto_s cel_s off_s pl_np lpq_np one_np sto_np cel_np off_np pl_ptr lpq_ptr one_ptr sto_ptr cel_ptr off_ptr pl_fp lpq_fp one_fp sto_fp cel_fp off_fp pl_fz lpq_fz one_fz sto_fz cel_fz off_fz pl_sl lpq_sl one_sl sto_sl cel_sl off_sl pl_nm lpq_nm one_nm sto_nm cel_nm off_nm pl_mp lpq_mp one_mp sto_mp cel_mp off_mp pl_fn lpq_fn one_fn sto_fn cel_fn off_fn pl_nf lpq_nf one_nf sto_nf cel_nf off_nf pl_if lpq_if one_if sto_if cel_if off_if pl_ni lpq_ni one_ni sto_ni cel_ni off_ni pl_ag lpq_ag one_ag sto_ag cel_ag off_ag pl_tp lpq_tp one_tp sto_tp cel_tp off_tp pl_lp lpq_lp one_lp sto_lp cel_lp off_lp pl_rw lpq_rw one_rw sto_rw cel_rw off_rw
end Go.Aw

/-
  Small things on numbers and rows, for the walks.
-/
namespace Go.Aw
open Go
set_option linter.all false
variable [Glob]

def ints (l : List Int) : List AV := l.map (.i .i64)
def bools (l : List Bool) : List AV := l.map .b

theorem ints_length (l : List Int) : (ints l).length = l.length := by simp [ints]
theorem bools_length (l : List Bool) : (bools l).length = l.length := by simp [bools]
theorem ints_at (l : List Int) (k : Nat) : ((ints l).drop k)[0]? = (l[k]?).map (.i .i64) := by simp [ints]
theorem bools_at (l : List Bool) (k : Nat) : ((bools l).drop k)[0]? = (l[k]?).map .b := by simp [bools]
theorem ints_take (l : List Int) (k : Nat) : (ints l).take k = ints (l.take k) := by simp [ints, List.map_take]
theorem ints_append (l m : List Int) : ints l ++ ints m = ints (l ++ m) := by simp [ints]
theorem bools_append (l m : List Bool) : bools l ++ bools m = bools (l ++ m) := by simp [bools]
/-- A number that fits. -/
def I64 (n : Int) : Prop := -9223372036854775808 ≤ n ∧ n ≤ 9223372036854775807
instance (n : Int) : Decidable (I64 n) := inferInstanceAs (Decidable (_ ∧ _))

theorem wrap_i64 {n : Int} (h : I64 n) : IntKind.i64.wrap n = n := IntWalk.i64_in n h

/-- A slice's length fits. -/
def Len (n : Nat) : Prop := n < 9223372036854775808

theorem wrap_succ {k : Nat} (h : k < 9223372036854775807) : IntKind.i64.wrap ((k : Int) + 1) = ((k + 1 : Nat) : Int) := by
  rw [wrap_i64 (by unfold I64; omega)]; simp

end Go.Aw

/-
  Slices that a function makes for itself.
-/
namespace Go.Aw
open Go
set_option linter.all false
variable [Glob]

/-- A slice that is nil, or the only one on a row of its own. -/
def Own (T : Tab) (z : Nat) (v : AV) (n : Nat) (xs : List AV) (T' : Tab) : Prop :=
  xs.length = n * z ∧ ((v = .fz 0 [] (some 0) ∧ n = 0 ∧ T' = T) ∨ ∃ id, v = .sl id 0 n none ∧ T id = .unused ∧ T' = T.put id (.row z xs))

theorem Tab.put_put (T : Tab) (id : Nat) (a b : Slot) : (T.put id a).put id b = T.put id b := by
  funext j; simp only [Tab.put]; split <;> rfl
theorem Tab.put_comm (T : Tab) {id id' : Nat} (h : id ≠ id') (a b : Slot) : (T.put id a).put id' b = (T.put id' b).put id a := by
  funext j; simp only [Tab.put]; split
  · rename_i e; subst e; rw [if_neg (Ne.symm h)]
  · rfl
theorem Tab.put_self {T : Tab} {id : Nat} {a : Slot} (h : T id = a) : T.put id a = T := by
  funext j; simp only [Tab.put]; split
  · rename_i e; subst e; exact h.symm
  · rfl
theorem Tab.unused_put {T : Tab} {id j z : Nat} {c : List AV} (h : T.put id (.row z c) j = .unused) : j ≠ id ∧ T j = .unused := by
  simp only [Tab.put] at h
  split at h
  · cases h
  · rename_i e; exact ⟨e, h⟩

theorem Own.nil (T : Tab) (z : Nat) : Own T z (.fz 0 [] (some 0)) 0 [] T := ⟨by simp, .inl ⟨rfl, rfl, rfl⟩⟩

theorem slCells_len {T : Tab} {z : Nat} {y : AV} {news : List AV} (h : slCells T z y = some news) : news.length = slLen y * z := by
  cases y <;> simp only [slCells] at h <;> first
    | (cases h; done)
    | skip
  · split at h
    · rename_i e; subst e; injection h with h; subst h; simp [slLen]
    · cases h
  · split at h
    · injection h with h; subst h; assumption
    · cases h
  · split at h
    · split at h
      · rename_i hle; injection h with h; subst h; rw [List.length_take, List.length_drop]; simp only [slLen]; omega
      · cases h
    · cases h

theorem Own.app {T T1 : Tab} {z b n m : Nat} {v y : AV} {xs news : List AV} {K : AV → Tab → Prop} (h : Own T z v n xs T1) (hy : slCells T1 z y = some news) (hm : slLen y = m)
    (h1 : (n + m) * b ≤ 140737488355328) (h2 : n + m ≤ 9223372036854775807) (hk : ∀ v' T2, Own T z v' (n + m) (xs ++ news) T2 → K v' T2) : appStep z b T1 v y K := by
  have hlen := slCells_len hy
  rw [hm] at hlen
  obtain ⟨hx, h⟩ := h
  have hsum : (xs ++ news).length = (n + m) * z := by rw [List.length_append, hx, hlen, Nat.add_mul]
  unfold appStep
  rw [hy]
  simp only
  rcases h with ⟨rfl, rfl, rfl⟩ | ⟨id, rfl, hid, rfl⟩
  · have : xs = [] := by simpa using hx
    subst this
    simp only [hm]
    split
    · rename_i e
      subst e
      have : news = [] := by simpa using hlen
      subst this
      exact hk _ _ ⟨by simp, .inl ⟨rfl, rfl, rfl⟩⟩
    · refine ⟨by simp, by omega, h1, h2, fun id hid => ?_⟩
      exact hk _ _ ⟨hsum, .inr ⟨id, by simp, hid, rfl⟩⟩
  · simp only [Tab.put_same, hm, true_and]
    rw [if_pos (by omega)]
    refine ⟨h1, h2, fun id' hid' => ?_⟩
    obtain ⟨_, hid'⟩ := Tab.unused_put hid'
    rw [Tab.put_put, Tab.put_self hid, List.drop_zero]
    exact hk _ _ ⟨hsum, .inr ⟨id', rfl, hid', rfl⟩⟩

theorem Own.form {T T1 : Tab} {z n : Nat} {v : AV} {xs : List AV} (h : Own T z v n xs T1) : v.plain = true ∧ v.isOne = true ∧ v.sto = true ∧ v.cells = [v] ∧ v.isLp = false ∧ ∀ k, v.offLp k = v := by
  rcases h.2 with ⟨rfl, _⟩ | ⟨id, rfl, _⟩ <;> exact ⟨rfl, rfl, rfl, rfl, rfl, fun _ => rfl⟩

section
variable {T : Tab} {S : List Nat}
theorem frz1_i {k : IntKind} {n : Int} : frz1 T S (.i k n) = .i k n := rfl
theorem frz1_b {x : Bool} : frz1 T S (.b x) = .b x := rfl
theorem frz1_s {l : List UInt8} : frz1 T S (.s l) = .s l := rfl
theorem frz1_fz {n : Nat} {c : List AV} {k : Option Nat} : frz1 T S (.fz n c k) = .fz n c k := rfl
end

/-- Several. -/
structure Ow where
  z : Nat
  v : AV
  n : Nat
  xs : List AV

def Owns (T : Tab) : List Ow → Tab → Prop
  | [], T' => T' = T
  | a :: l, T' => ∃ T1, Owns T l T1 ∧ Own T1 a.z a.v a.n a.xs T'

theorem Owns.swap {T T' : Tab} {a b : Ow} {l : List Ow} (h : Owns T (a :: b :: l) T') : Owns T (b :: a :: l) T' := by
  obtain ⟨T2, ⟨T1, h1, hb, hb'⟩, ha, ha'⟩ := h
  rcases hb' with ⟨e1, e2, rfl⟩ | ⟨id, e1, e2, rfl⟩ <;> rcases ha' with ⟨e3, e4, rfl⟩ | ⟨id', e3, e4, rfl⟩
  · exact ⟨_, ⟨_, h1, ha, .inl ⟨e3, e4, rfl⟩⟩, hb, .inl ⟨e1, e2, rfl⟩⟩
  · exact ⟨_, ⟨_, h1, ha, .inr ⟨id', e3, e4, rfl⟩⟩, hb, .inl ⟨e1, e2, rfl⟩⟩
  · exact ⟨_, ⟨_, h1, ha, .inl ⟨e3, e4, rfl⟩⟩, hb, .inr ⟨id, e1, e2, rfl⟩⟩
  · obtain ⟨hne, hu⟩ := Tab.unused_put e4
    refine ⟨_, ⟨_, h1, ha, .inr ⟨id', e3, hu, rfl⟩⟩, hb, .inr ⟨id, e1, ?_, ?_⟩⟩
    · rw [Tab.put_ne _ _ (Ne.symm hne)]; exact e2
    · exact Tab.put_comm _ (Ne.symm hne) _ _

theorem Owns.app {T T1 : Tab} {a : Ow} {l : List Ow} {b m : Nat} {y : AV} {news : List AV} {K : AV → Tab → Prop} (h : Owns T (a :: l) T1) (hy : slCells T1 a.z y = some news) (hm : slLen y = m)
    (h1 : (a.n + m) * b ≤ 140737488355328) (h2 : a.n + m ≤ 9223372036854775807) (hk : ∀ v' T2, Owns T (⟨a.z, v', a.n + m, a.xs ++ news⟩ :: l) T2 → K v' T2) : appStep a.z b T1 a.v y K := by
  obtain ⟨T0, h0, ho⟩ := h
  exact ho.app hy hm h1 h2 fun v' T2 h' => hk v' T2 ⟨T0, h0, h'⟩

theorem Owns.form {T : Tab} {a : Ow} : ∀ {l : List Ow} {T1 : Tab}, Owns T l T1 → a ∈ l → a.v.plain = true ∧ a.v.isOne = true ∧ a.v.sto = true ∧ a.v.cells = [a.v] ∧ a.v.isLp = false ∧ ∀ k, a.v.offLp k = a.v
  | b :: l, T1, ⟨T0, h0, ho⟩, hm => by
    rcases List.mem_cons.1 hm with rfl | hm
    · exact ho.form
    · exact Owns.form h0 hm

theorem Owns.one {T T' : Tab} {z n : Nat} {v : AV} {xs : List AV} (h : Own T z v n xs T') : Owns T [⟨z, v, n, xs⟩] T' := ⟨T, rfl, h⟩

/-- All are handed on for good. -/
theorem Owns.fin {T : Tab} : ∀ {l : List Ow} {T' : Tab}, Owns T l T' → ∃ S, S.Nodup ∧ (∀ id ∈ S, T' id ≠ .unused ∧ T id = .unused) ∧ kill T' S = T ∧ ∀ a ∈ l, ∃ cap, frz1 T' S a.v = .fz a.n a.xs cap
  | [], T', h => ⟨[], List.nodup_nil, by simp, h, by simp⟩
  | a :: l, T', h => by
    obtain ⟨T1, h1, hx, h2⟩ := h
    obtain ⟨S, k1, k2, k3, k4⟩ := Owns.fin h1
    rcases h2 with ⟨e1, e2, rfl⟩ | ⟨id, e1, e2, rfl⟩
    · refine ⟨S, k1, k2, k3, fun b hb => ?_⟩
      rcases List.mem_cons.1 hb with rfl | hb
      · have : b.xs = [] := by rw [e2] at hx; simpa using hx
        rw [e1, e2, this]; exact ⟨some 0, rfl⟩
      · exact k4 b hb
    · have hid : id ∉ S := fun e => (k2 id e).1 e2
      have hkill : ∀ (S' : List Nat) (T2 : Tab), id ∉ S' → kill (T2.put id (.row a.z a.xs)) S' = (kill T2 S').put id (.row a.z a.xs) := by
        intro S'
        induction S' with
        | nil => intro T2 _; rfl
        | cons j S' ih =>
          intro T2 hj
          simp only [List.mem_cons, not_or] at hj
          simp only [kill]
          rw [ih T2 hj.2, Tab.put_comm _ hj.1]
      have hTid : T id = .unused := by
        rw [← k3, kill_of_not hid]; exact e2
      refine ⟨id :: S, List.nodup_cons.2 ⟨hid, k1⟩, fun j hj => ?_, ?_, fun b hb => ?_⟩
      · rcases List.mem_cons.1 hj with rfl | hj
        · exact ⟨by rw [Tab.put_same]; simp, hTid⟩
        · refine ⟨?_, (k2 j hj).2⟩
          rw [Tab.put_ne _ _ (fun e => hid (by rw [← e]; exact hj))]; exact (k2 j hj).1
      · simp only [kill]
        rw [hkill S T1 hid, Tab.put_put, k3, Tab.put_self hTid]
      · rcases List.mem_cons.1 hb with rfl | hb
        · refine ⟨none, ?_⟩
          rw [e1]
          simp only [frz1, List.mem_cons, true_or, if_true, Tab.put_same, Nat.zero_add, List.drop_zero]
          rw [if_pos (by omega), List.take_of_length_le (by omega)]
        · obtain ⟨cap, hc⟩ := k4 b hb
          refine ⟨cap, ?_⟩
          rw [← hc]
          cases hv : b.v with
          | sl id' o n cap' =>
            have hne : id' ≠ id := by
              rintro rfl
              rw [hv] at hc
              simp only [frz1] at hc
              rw [if_neg hid] at hc
              cases hc
            simp only [frz1, List.mem_cons, hne, false_or, Tab.put_ne _ _ hne]
          | ptr id' o => rw [hv] at hc; simp only [frz1] at hc; split at hc <;> (try split at hc) <;> cases hc
          | _ => rfl

theorem finL_owns {T T' : Tab} {l : List Ow} {r r' : AV} (h : Owns T l T') (hr : ∀ S, (∀ a ∈ l, ∃ cap, frz1 T' S a.v = .fz a.n a.xs cap) → Wk (frzt T' S r) r') : finL r (fun v T'' => v = r' ∧ T'' = T) T' := by
  obtain ⟨S, k1, k2, k3, k4⟩ := h.fin
  unfold finL
  exact ⟨S, T, r', k1, fun id hid => (k2 id hid).1, fun id => .inr (.inl (by rw [k3])), hr S k4, rfl, rfl⟩

end Go.Aw

/-
  More on lists, calls and owned slices.
-/
namespace Go.Aw
open Go
variable [Glob]
set_option linter.all false

/-- Where one stands, as a walk through a list says. -/
theorem drop_lt {α : Type} {xs ys : List α} {y : α} {k : Nat} (hk : xs.drop k = y :: ys) : k < xs.length ∧ xs[k]? = some y ∧ xs.drop (k + 1) = ys := by
  refine ⟨?_, ?_, by rw [← List.drop_drop, hk]; rfl⟩
  · have : (xs.drop k).length = ys.length + 1 := by rw [hk]; rfl
    rw [List.length_drop] at this; omega
  · have : (xs.drop k)[0]? = some y := by rw [hk]; rfl
    simpa using this
theorem drop_nil {α : Type} {xs : List α} {k : Nat} (hk : xs.drop k = []) (hle : k ≤ xs.length) : xs.length = k := by have := List.drop_eq_nil_iff.1 hk; omega
theorem take_succ_eq {α : Type} {xs : List α} {k : Nat} {y : α} (h : xs[k]? = some y) : xs.take (k + 1) = xs.take k ++ [y] := by
  rw [List.take_add_one, h]; rfl
theorem Own.fin {T T' : Tab} {z n : Nat} {v : AV} {xs : List AV} {Q : AV → Tab → Prop} (h : Own T z v n xs T') (hQ : ∀ v T', Own T z v n xs T' → Q v T') : finL v Q T' :=
  finL_of T' (fun _ => .inr (.inl rfl)) (hQ v T' h)
theorem CallK.as {P : Program} {f : FuncId} {avs : List AV} {T T1 : Tab} {k : AV → Tab → Prop} {r : AV} (h : ACalls P f avs T (fun v T' => v = r ∧ T' = T1)) (hk : k r T1) : CallK P f avs T k :=
  .of h fun v T' h => by rw [h.1, h.2]; exact hk
theorem fin_as {T T1 : Tab} {r r' : AV} (h : Wk r r') (hT : T = T1) : finL r (fun v T' => v = r' ∧ T' = T1) T := by
  subst hT
  exact ⟨[], T, r', List.nodup_nil, by simp, fun _ => .inr (.inl rfl), by rw [frzt_nil]; exact h, rfl, rfl⟩
theorem g_gdc {P : Program} {d : Option Nat} {f : FuncId} {args : List Operand} {k : Nat} {want : Bool} {rc : RC} {K : Env → Loc → Tab → Prop} {e : Env} {L : Loc} {T : Tab} : gstep P ⟨d, .call f args, some (k, want), rc⟩ K e L T =
    gst e k want (Hold.mk (a := gstep P ⟨d, .call f args, none, rc⟩ K e L T)) (Hold.mk (a := rcOk (eset e d (.tup [])) L T rc ∧ K (eset e d (.tup [])) L T)) := by
  rw [g_gdrc _ rfl, gst_eq]
theorem Owns.base_get {T : Tab} {id : Nat} (hid : T id ≠ .unused) : ∀ {l : List Ow} {T' : Tab}, Owns T l T' → T' id = T id
  | [], T', h => by rw [show T' = T from h]
  | a :: l, T', ⟨T1, h1, hx, h2⟩ => by
    have ih := Owns.base_get hid h1
    rcases h2 with ⟨_, _, rfl⟩ | ⟨j, _, hj, rfl⟩
    · exact ih
    · have hne : id ≠ j := fun e => by subst e; rw [ih] at hj; exact hid hj
      rw [Tab.put_ne _ _ hne]; exact ih
theorem Owns.base_put {T : Tab} {id : Nat} {s : Slot} (hid : T id ≠ .unused) : ∀ {l : List Ow} {T' : Tab}, Owns T l T' → Owns (T.put id s) l (T'.put id s)
  | [], T', h => by rw [show T' = T from h]; rfl
  | a :: l, T', ⟨T1, h1, hx, h2⟩ => by
    have ih := Owns.base_put (s := s) hid h1
    have hg := Owns.base_get hid h1
    rcases h2 with ⟨e1, e2, rfl⟩ | ⟨j, e1, hj, rfl⟩
    · exact ⟨_, ih, hx, .inl ⟨e1, e2, rfl⟩⟩
    · have hne : j ≠ id := fun e => by subst e; rw [hg] at hj; exact hid hj
      refine ⟨_, ih, hx, .inr ⟨j, e1, by rw [Tab.put_ne _ _ hne]; exact hj, ?_⟩⟩
      exact (Tab.put_comm _ hne _ _)
theorem Owns.le {T : Tab} : ∀ {l : List Ow} {T' : Tab}, Owns T l T' → ∀ j, SlotLe (T j) (T' j)
  | [], T', h, j => by rw [show T' = T from h]; exact .inr (.inl rfl)
  | a :: l, T', ⟨T1, h1, hx, h2⟩, j => by
    have ih := Owns.le h1 j
    rcases h2 with ⟨_, _, rfl⟩ | ⟨i, _, hi, rfl⟩
    · exact ih
    · by_cases e : j = i
      · subst e
        rw [hi] at ih
        rcases ih with h | h | ⟨_, _, _, h, _⟩
        · exact .inl h
        · exact .inl h
        · cases h
      · rw [Tab.put_ne _ _ e]; exact ih
theorem Owns.perm {T : Tab} {l m : List Ow} (h : l.Perm m) : ∀ {T' : Tab}, Owns T l T' → Owns T m T' := by
  induction h with
  | nil => exact fun h => h
  | cons x _ ih => exact fun ⟨T1, h1, h2⟩ => ⟨T1, ih h1, h2⟩
  | swap x y l => exact fun h => Owns.swap h
  | trans _ _ ih1 ih2 => exact fun h => ih2 (ih1 h)
theorem Owns.get {T : Tab} {a : Ow} : ∀ {l : List Ow} {T' : Tab}, Owns T l T' → a ∈ l → 0 < a.n → ∃ id, a.v = .sl id 0 a.n none ∧ T' id = .row a.z a.xs ∧ T id = .unused
  | b :: l, T', ⟨T1, h1, hx, h2⟩, hm, hn => by
    rcases List.mem_cons.1 hm with rfl | hm
    · rcases h2 with ⟨_, e, _⟩ | ⟨i, e1, hi, rfl⟩
      · omega
      · refine ⟨i, e1, Tab.put_same .., ?_⟩
        have hle := h1.le i
        rw [hi] at hle
        rcases hle with h | h | ⟨_, _, _, h, _⟩
        · exact h
        · exact h
        · cases h
    · obtain ⟨id, e1, e2, e3⟩ := Owns.get h1 hm hn
      rcases h2 with ⟨_, _, rfl⟩ | ⟨i, _, hi, rfl⟩
      · exact ⟨id, e1, e2, e3⟩
      · refine ⟨id, e1, ?_, e3⟩
        have hne : id ≠ i := fun e => by subst e; rw [hi] at e2; cases e2
        rw [Tab.put_ne _ _ hne]; exact e2
theorem SlotLe.refl (s : Slot) : SlotLe s s := .inr (.inl rfl)
theorem flat_length {α : Type} {f : α → List AV} {z : Nat} (hf : ∀ x, (f x).length = z) (l : List α) : (l.flatMap f).length = l.length * z := by
  induction l with
  | nil => simp
  | cons c l ih => simp only [List.flatMap_cons, List.length_append, List.length_cons, ih, hf, Nat.add_mul]; omega
theorem flat_at {α : Type} {f : α → List AV} {z : Nat} (hf : ∀ x, (f x).length = z) {l : List α} {k : Nat} {x : α} (h : l[k]? = some x) : (l.flatMap f).drop (k * z) = f x ++ (l.drop (k + 1)).flatMap f := by
  induction l generalizing k with
  | nil => simp at h
  | cons a l ih =>
    cases k with
    | zero => simp at h; subst h; simp
    | succ k =>
      have := ih (k := k) (by simpa using h)
      rw [List.flatMap_cons, List.drop_succ_cons, ← this, show (k + 1) * z = (f a).length + k * z by rw [hf, Nat.add_mul]; omega, List.drop_length_add_append]
/-- One's own slice is handed on for good. -/
theorem Own.fzn {T T' : Tab} {z n : Nat} {v : AV} {xs : List AV} (h : Own T z v n xs T') : finL v (fun x T'' => x = .fz n xs none ∧ T'' = T) T' := by
  have h' := h
  refine finL_owns (Owns.one h) fun S hS => ?_
  obtain ⟨c, e⟩ := hS _ (List.mem_cons_self ..)
  simp only at e
  rcases h'.2 with ⟨rfl, _⟩ | ⟨id, rfl, _⟩ <;>
  · simp only [frzt, frzv, e]
    exact Wk.fz
/-- A slice that is full grows into a row of its own. -/
theorem app_full {T : Tab} {z b n m : Nat} {cells news : List AV} {y : AV} {K : AV → Tab → Prop} (hy : slCells T z y = some news) (hm : slLen y = m) (h0 : 0 < m) (hn : cells.length = n * z)
    (h1 : (n + m) * b ≤ 140737488355328) (h2 : n + m ≤ 9223372036854775807) (hk : ∀ v T2, Own T z v (n + m) (cells ++ news) T2 → K v T2) : appStep z b T (.fz n cells (some n)) y K := by
  have hlen := slCells_len hy
  rw [hm] at hlen
  unfold appStep
  rw [hy]
  simp only [hm]
  rw [if_neg (by omega)]
  refine ⟨hn, by omega, h1, h2, fun id hid => hk _ _ ⟨?_, .inr ⟨id, rfl, hid, rfl⟩⟩⟩
  rw [List.length_append, hn, hlen, Nat.add_mul]
/-- A slice that may be appended to: one's own, or a full one. -/
def Gr (T : Tab) (z : Nat) (v : AV) (n : Nat) (xs : List AV) (T' : Tab) : Prop := Own T z v n xs T' ∨ (v = .fz n xs (some n) ∧ xs.length = n * z ∧ T' = T)
theorem Gr.form {T T1 : Tab} {z n : Nat} {v : AV} {xs : List AV} (h : Gr T z v n xs T1) : v.plain = true ∧ v.isOne = true ∧ v.sto = true ∧ v.cells = [v] ∧ v.isLp = false ∧ ∀ k, v.offLp k = v := by
  rcases h with h | ⟨rfl, _⟩
  · exact h.form
  · exact ⟨rfl, rfl, rfl, rfl, rfl, fun _ => rfl⟩
theorem Gr.app {T T1 : Tab} {z b n m : Nat} {v y : AV} {xs news : List AV} {K : AV → Tab → Prop} (h : Gr T z v n xs T1) (hy : slCells T1 z y = some news) (hm : slLen y = m) (h0 : 0 < m)
    (h1 : (n + m) * b ≤ 140737488355328) (h2 : n + m ≤ 9223372036854775807) (hk : ∀ v' T2, Own T z v' (n + m) (xs ++ news) T2 → K v' T2) : appStep z b T1 v y K := by
  rcases h with h | ⟨rfl, hx, rfl⟩
  · exact h.app hy hm h1 h2 hk
  · exact app_full hy hm h0 hx h1 h2 hk
theorem Gr.fzn {T T' : Tab} {z n : Nat} {v : AV} {xs : List AV} (h : Gr T z v n xs T') : finL v (fun x T'' => x = .fz n xs none ∧ T'' = T) T' := by
  rcases h with h | ⟨rfl, hx, rfl⟩
  · exact h.fzn
  · exact fin_as .fz rfl
theorem Gr.fin {T T' : Tab} {z n : Nat} {v : AV} {xs : List AV} {Q : AV → Tab → Prop} (h : Gr T z v n xs T') (hQ : ∀ v T', Gr T z v n xs T' → Q v T') : finL v Q T' :=
  finL_of T' (fun _ => .inr (.inl rfl)) (hQ v T' h)
theorem Gr.sl {T T' : Tab} {z n : Nat} {v : AV} {xs : List AV} (h : Gr T z v n xs T') : slCells T' z v = some xs ∧ slLen v = n := by
  rcases h with ⟨hx, h⟩ | ⟨rfl, hx, rfl⟩
  · rcases h with ⟨rfl, rfl, rfl⟩ | ⟨id, rfl, hid, rfl⟩
    · have : xs = [] := by simpa using hx
      subst this
      simp [slCells, slLen]
    · simp only [slCells, Tab.put_same, slLen, Nat.zero_add, List.drop_zero, true_and, and_true]
      rw [if_pos (by omega), List.take_of_length_le (by omega)]
  · simp only [slCells, slLen]
    rw [if_pos hx]; exact ⟨rfl, trivial⟩
end Go.Aw

/-
  More: what is handed on inside structs.
-/
namespace Go.Aw
open Go
variable [Glob]
set_option linter.all false

/-- A function's own rows are handed on for good with a call, wherever they stand in its arguments. -/
theorem CallK.owns {P : Program} {f : FuncId} {avs : List AV} {T T' : Tab} {l : List Ow} {R k : AV → Tab → Prop} (h : Owns T l T')
    (hc : ∀ S, (∀ a ∈ l, ∃ cap, frz1 T' S a.v = .fz a.n a.xs cap) → ACalls P f (avs.map (frzv T' S)) T R) (hk : ∀ v T', R v T' → k v T') : CallK P f avs T' k := by
  obtain ⟨S, k1, k2, k3, k4⟩ := h.fin
  unfold CallK
  exact ⟨S, R, k1, fun id hid => (k2 id hid).1, by rw [k3]; exact hc S k4, hk⟩

theorem Own.frzv {T T1 T2 : Tab} {S : List Nat} {z n : Nat} {v : AV} {xs : List AV} (h : Own T z v n xs T1) : Aw.frzv T2 S v = frz1 T2 S v := by
  rcases h.2 with ⟨rfl, _⟩ | ⟨id, rfl, _⟩ <;> rfl

theorem SlotLe.trans {a b c : Slot} (h : SlotLe a b) (k : SlotLe b c) : SlotLe a c := by
  rcases h with rfl | rfl | ⟨z, cs, m, rfl, rfl⟩
  · exact .inl rfl
  · exact k
  · rcases k with k | k | ⟨z', cs', m', rfl, k⟩
    · cases k
    · subst k; exact .inr (.inr ⟨z, cs, m, rfl, rfl⟩)
    · injection k with k1 k2
      subst k1; subst k2
      exact .inr (.inr ⟨z, cs', min m m', rfl, by rw [List.take_take]⟩)
/-- As much, or less, is known. -/
def TabLe (T T' : Tab) : Prop := ∀ j, SlotLe (T j) (T' j)
theorem TabLe.refl (T : Tab) : TabLe T T := fun _ => .inr (.inl rfl)
theorem TabLe.trans {T T1 T2 : Tab} (h : TabLe T T1) (k : TabLe T1 T2) : TabLe T T2 := fun j => (h j).trans (k j)
theorem TabLe.put {T T1 : Tab} {id : Nat} {s : Slot} (h : TabLe T T1) (hid : T id = .unused) : TabLe T (T1.put id s) := fun j => by
  by_cases e : j = id
  · subst e; rw [hid]; exact .inl rfl
  · rw [Tab.put_ne _ _ e]; exact h j
theorem TabLe.unused {T T' : Tab} {id : Nat} (h : TabLe T T') (hid : T' id = .unused) : T id = .unused := by
  rcases h id with e | e | ⟨z, cs, m, e, _⟩
  · exact e
  · rw [e, hid]
  · rw [hid] at e; cases e
theorem TabLe.fin {T T' : Tab} {r : AV} (h : TabLe T T') : finL r (fun v T'' => v = r ∧ T'' = T) T' := finL_of T h ⟨rfl, rfl⟩
theorem Own.sl {T T' : Tab} {z n : Nat} {v : AV} {xs : List AV} (h : Own T z v n xs T') : slCells T' z v = some xs ∧ slLen v = n := Gr.sl (.inl h)
theorem Own.ne {T T' : Tab} {z n : Nat} {v : AV} {xs : List AV} (h : Own T z v n xs T') (hn : 0 < n) : ∃ id, v = .sl id 0 n none ∧ T id = .unused ∧ T' = T.put id (.row z xs) := by
  rcases h.2 with ⟨_, e, _⟩ | h
  · omega
  · exact h
end Go.Aw

/-
  A function that computes may be lent what others own: it leaves all as it was.
-/
namespace Go.Aw
open Go
variable [Glob]
set_option linter.all false

/-- A value that says nothing of places. -/
def Indep (r : AV) : Prop := ∀ X X' w w' v, vr X w r v → vr X' w' r v
theorem Indep.b {x : Bool} : Indep (.b x) := fun _ _ _ _ _ h => by simp only [vr] at h ⊢; exact h
theorem Indep.i {k : IntKind} {n : Int} : Indep (.i k n) := fun _ _ _ _ _ h => by simp only [vr] at h ⊢; exact h
theorem Indep.s {l : List UInt8} : Indep (.s l) := fun _ _ _ _ _ h => by simp only [vr] at h ⊢; exact h
theorem Indep.tup {l : List AV} (h : ∀ x ∈ l, Indep x) : Indep (.tup l) := fun X X' w w' v hv => by
  simp only [vr] at hv ⊢
  obtain ⟨us, h1, h2⟩ := hv
  refine ⟨us, ?_, h2⟩
  clear h2
  induction l generalizing us with
  | nil => simpa [vrs] using h1
  | cons x l ih =>
    simp only [vrs] at h1 ⊢
    obtain ⟨u, us', e, k1, k2⟩ := h1
    exact ⟨u, us', e, h x (List.mem_cons_self ..) _ _ _ _ _ k1, ih (fun y hy => h y (List.mem_cons_of_mem _ hy)) us' k2⟩

end Go.Aw

/-
  More for the walks: weaker cells.
-/
namespace Go.Aw
open Go
variable [Glob]
set_option linter.all false

theorem Wk.fzs {n : Nat} {cells cells' : List AV} {cap : Option Nat} (h : Wks cells cells') : Wk (.fz n cells cap) (.fz n cells' none) := fun X w v hv => by
  have h1 := Wk.fz (n := n) (cells := cells) (cap := cap) X w v hv
  simp only [vr] at h1 ⊢
  obtain ⟨us, h2, h3⟩ := h1
  exact ⟨us, h.vrs h2, h3⟩
theorem Wks.append : ∀ {a b c d : List AV}, Wks a b → Wks c d → Wks (a ++ c) (b ++ d)
  | [], [], _, _, _, h => h
  | _ :: _, _ :: _, _, _, h, k => ⟨h.1, Wks.append h.2 k⟩

/-! Freezing in the midst. -/
section
variable {T : Tab} {S : List Nat}
theorem Own.frX {T0 T1 : Tab} {z n : Nat} {v : AV} {xs : List AV} (h : Own T0 z v n xs T1) : Aw.frX T S v = frz1 T S v := by
  rcases h.2 with ⟨rfl, _⟩ | ⟨id, rfl, _⟩ <;> rfl
end
theorem Own.lenAv {T0 T1 : Tab} {z n : Nat} {v : AV} {xs : List AV} (h : Own T0 z v n xs T1) : Aw.lenAv false v = some (.i .i64 (n : Nat)) := by
  rcases h.2 with ⟨rfl, rfl, _⟩ | ⟨id, rfl, _⟩ <;> rfl
theorem Owns.lenAv {T T' : Tab} {a : Ow} {l : List Ow} (h : Owns T (a :: l) T') : Aw.lenAv false a.v = some (.i .i64 (a.n : Nat)) := by
  obtain ⟨T0, _, ho⟩ := h
  exact ho.lenAv
end Go.Aw

/-
  Numbers as bytes: what the packages' way of writing them makes.
-/
namespace Go.Aw
open Go
set_option linter.all false

def enc (n : Nat) : List UInt8 := if h : n < 128 then [UInt8.ofNat n] else UInt8.ofNat (n % 128 + 128) :: enc (n / 128)
termination_by n
decreasing_by omega

end Go.Aw

/-
  Numbers read from bytes: what the packages' way of reading them makes, and that it is the inverse of writing.
-/
namespace Go.Aw
open Go
set_option linter.all false

/-! Bytes that are read, one thing behind the other. -/
end Go.Aw

/-
  Lists read from bytes.
-/
namespace Go.Aw
open Go
variable [Glob]
set_option linter.all false

theorem Own.at {B T1 : Tab} {id z n : Nat} {v : AV} {xs : List AV} (h : Own B z v n xs T1) (hB : B id ≠ .unused) : T1 id = B id := Owns.base_get hB (Owns.one h)
end Go.Aw

/-
  From what arguments read as to abstract values: integers, truths, texts, slices and structs of such.
-/
namespace Go.Aw
open Go Go.ChangeShapes Go.WideShapes Go.ChangeAt Go.RowKit
variable [Glob]
set_option linter.all false

inductive Ty where
  | int (k : IntKind)
  | bool
  | str
  | sl (e : Ty)
  | st (fs : List Ty)
  | ar (n : Nat) (e : Ty)

mutual
/-- Cells of a type. -/
def Fits : Ty → List AV → Prop
  | .int k, cs => ∃ n, cs = [.i k n] ∧ (Lit.int k n).wf = true
  | .bool, cs => ∃ b, cs = [.b b]
  | .str, cs => ∃ l : List UInt8, cs = [.s l] ∧ l.length ≤ maxLen
  | .sl e, cs => ∃ ps : List (List AV), ps.length ≤ maxLen ∧ (∀ p ∈ ps, Fits e p) ∧ ∃ k, cs = [.fz ps.length ps.flatten k]
  | .st fs, cs => FitsL fs cs
  | .ar n e, cs => ∃ ps : List (List AV), ps.length = n ∧ (∀ p ∈ ps, Fits e p) ∧ cs = ps.flatten
def FitsL : List Ty → List AV → Prop
  | [], cs => cs = []
  | f :: fs, cs => ∃ a b, cs = a ++ b ∧ Fits f a ∧ FitsL fs b
end

mutual
def tyOk (P : Program) : Ty → TypeId → Bool
  | .int k, t => match P.underlying t with
    | some (.int k') => decide (k' = k)
    | _ => false
  | .bool, t => match P.underlying t with
    | some .bool => true
    | _ => false
  | .str, t => match P.underlying t with
    | some .string => true
    | _ => false
  | .sl e, t => match P.underlying t with
    | some (.slice e') => tyOk P e e'
    | _ => false
  | .st fs, t => match P.underlying t with
    | some (.struct gs) => tysOk P fs gs.toList 0 (P.cellsOf t)
    | _ => false
  | .ar n e, t => match P.underlying t with
    | some (.array m e') => decide (m = n) && tyOk P e e' && decide (P.cellsOf t = n * P.cellsOf e')
    | _ => false
def tysOk (P : Program) : List Ty → List Field → Nat → Nat → Bool
  | [], [], o, n => decide (o = n)
  | f :: fs, g :: gs, o, n => decide (g.offset = o) && tyOk P f g.type && tysOk P fs gs (o + P.cellsOf g.type) n
  | _, _, _, _ => false
end

section
variable {P : Program} {X : Cx} {W : World} {H : Type} {enc : TypeId × Value → H} {base : Nat} {sp : Nat → Bool} {held : Bool}

theorem cell_add {a : Addr} {j : Nat} {u : Value} (h : W.cell? (a.add j) = some u) : W.cell? ⟨a.block, a.off + j, none⟩ = some u := by
  by_cases hj : j = 0
  · subst hj
    have e : a.add 0 = a := by simp [Addr.add]
    rw [e] at h
    have hs : a.spot = none := by
      unfold World.cell? at h
      split at h
      · split at h
        · cases h
        · rename_i hs; simpa using hs
      · cases h
    rw [addr_eta hs] at h
    simpa using h
  · simpa [Addr.add, hj] using h

theorem add_add' (a : Addr) (i j : Nat) : (a.add i).add j = a.add (i + j) := by
  unfold Addr.add
  by_cases hi : i = 0 <;> by_cases hj : j = 0 <;> simp [hi, hj, Nat.add_assoc]

theorem cell_lt {a : Addr} {u : Value} (h : W.cell? a = some u) : a.block < W.heap.size := by
  unfold World.cell? at h
  split at h
  · rename_i hb; exact (Array.getElem?_eq_some_iff.1 hb).1
  · cases h

theorem cell_spot {a : Addr} {u : Value} (h : W.cell? a = some u) : a.spot = none := by
  unfold World.cell? at h
  split at h
  · split at h
    · cases h
    · rename_i hs; simpa using hs
  · cases h

theorem vrs_app {l m : List AV} {us vs : List Value} (h : vrs X W l us) (k : vrs X W m vs) : vrs X W (l ++ m) (us ++ vs) := by
  induction l generalizing us with
  | nil => simp only [vrs] at h; subst h; exact k
  | cons x l ih =>
    simp only [vrs] at h
    obtain ⟨u, us', rfl, h1, h2⟩ := h
    exact ⟨u, us' ++ vs, rfl, h1, ih h2⟩

/-- The elements of a slice, one behind the other. -/
theorem elems_of {z : Nat} {e : Ty} {a : Addr} {len : Nat} (h : ∀ i, i < len → ∃ cs ps, cs.length = z ∧ (∀ r, r < z → W.cell? ((a.add (i * z)).add r) = cs[r]?) ∧ vrs X W ps cs ∧ Fits e ps ∧ ∀ u ∈ cs, u.oneCell' = true) :
    ∃ (us : List Value) (ps : List (List AV)), ps.length = len ∧ us.length = len * z ∧ vrs X W ps.flatten us ∧ (∀ p ∈ ps, Fits e p) ∧ (∀ u ∈ us, u.oneCell' = true) ∧ ∀ (j : Nat) u, us[j]? = some u → W.cell? (a.add j) = some u := by
  induction len with
  | zero => exact ⟨[], [], rfl, by simp, by simp [vrs], by simp, by simp, by simp⟩
  | succ n ih =>
    obtain ⟨us, ps, h1, h2, h3, h4, h5, h6⟩ := ih fun i hi => h i (Nat.lt_succ_of_lt hi)
    obtain ⟨cs, p, k1, k2, k3, k4, k5⟩ := h n (Nat.lt_succ_self n)
    refine ⟨us ++ cs, ps ++ [p], by simp [h1], by simp [h2, k1, Nat.succ_mul], ?_, ?_, ?_, ?_⟩
    · rw [List.flatten_append]
      simpa using vrs_app h3 k3
    · intro q hq
      rcases List.mem_append.1 hq with hq | hq
      · exact h4 q hq
      · rw [List.mem_singleton] at hq; subst hq; exact k4
    · intro u hu
      rcases List.mem_append.1 hu with hu | hu
      · exact h5 u hu
      · exact k5 u hu
    · intro j u hj
      by_cases hlt : j < us.length
      · rw [List.getElem?_append_left hlt] at hj; exact h6 j u hj
      · rw [List.getElem?_append_right (by omega)] at hj
        have hr : j - us.length < z := by rw [← k1]; exact (List.getElem?_eq_some_iff.1 hj).1
        have := k2 (j - us.length) hr
        rw [hj, add_add', show n * z + (j - us.length) = j by omega] at this
        exact this

mutual
theorem fits_of (hX : ∀ b, b < W.heap.size → X.fz b) : ∀ (ty : Ty) {t : TypeId} {fuel : Nat} {cs : List Value} {x : DataW H × List MemPlace}, tyOk P ty t = true → DataW.trod enc P W base sp held fuel t cs = some x →
    ∃ avs, vrs X W avs cs ∧ Fits ty avs ∧ ∀ u ∈ cs, u.oneCell' = true
  | .int k, t, fuel, cs, x, ht, h => by
    simp only [tyOk] at ht
    split at ht
    · rename_i k' hu
      have hk : k' = k := of_decide_eq_true ht
      subst hk
      obtain ⟨n, e1, _, hw⟩ := DataW.trod_int hu h
      subst e1
      exact ⟨[.i k' n], by simp [vrs, vr], by simp only [Fits]; exact ⟨n, rfl, hw⟩, by simp [Value.oneCell']⟩
    · cases ht
  | .bool, t, fuel, cs, x, ht, h => by
    simp only [tyOk] at ht
    split at ht
    · rename_i hu
      cases fuel with
      | zero => simp [DataW.trod] at h
      | succ n =>
        unfold DataW.trod at h
        rw [hu] at h
        split at h <;> simp_all
        rename_i b
        exact ⟨[.b b], by simp [vrs, vr], by simp only [Fits]; exact ⟨b, rfl⟩, by simp [Value.oneCell']⟩
    · cases ht
  | .str, t, fuel, cs, x, ht, h => by
    simp only [tyOk] at ht
    split at ht
    · rename_i hu
      cases fuel with
      | zero => simp [DataW.trod] at h
      | succ n =>
        unfold DataW.trod at h
        rw [hu] at h
        split at h <;> simp_all
        rename_i s
        exact ⟨[.s s.data.toList], by simp [vrs, vr], by simp only [Fits]; exact ⟨_, rfl, by have h1 := h.1; rw [Array.length_toList]; exact h1⟩, by simp [Value.oneCell']⟩
    · cases ht
  | .sl e, t, fuel, cs, x, ht, h => by
    simp only [tyOk] at ht
    split at ht
    · rename_i e' hu
      rcases DataW.trod_slice hu h with ⟨rfl, _⟩ | ⟨a, len, cap, elems, rest, n, _, rfl, _, _, hl, hm, hlen, hel, _⟩
      · exact ⟨[.fz 0 [] (some 0)], by simp [vrs, vr, fzSlice, capOk], by simp only [Fits]; exact ⟨[], Nat.zero_le _, by simp, some 0, rfl⟩, by simp [Value.oneCell']⟩
      · obtain ⟨us, ps, h1, h2, h3, h4, h5, h6⟩ := elems_of (X := X) (W := W) (z := P.cellsOf e') (e := e) (a := a) (len := len) (fun i hi => by
          have k := hel i hi
          rw [List.getElem?_eq_getElem (by omega)] at k
          obtain ⟨cs', k1, k2⟩ := Option.bind_eq_some_iff.1 k
          obtain ⟨_, k3, k4⟩ := World.cells?_some k1
          obtain ⟨ps, k5, k6, k7⟩ := fits_of hX e ht k2
          exact ⟨cs', ps, k3, k4, k5, k6, k7⟩)
        refine ⟨[.fz len ps.flatten none], ?_, ?_, by simp [Value.oneCell']⟩
        · simp only [vrs, vr]
          refine ⟨_, [], rfl, ⟨us, h3, .inr ⟨a, cap, rfl, ?_, hl, (fun k hk => by cases hk), ?_⟩⟩, rfl⟩
          · cases us with
            | nil => exact .inl rfl
            | cons u us =>
              have := h6 0 u rfl
              have e0 : a.add 0 = a := by simp [Addr.add]
              rw [e0] at this
              exact .inr (cell_spot this)
          · cases us with
            | nil => exact .inl rfl
            | cons u us =>
              have := h6 0 u rfl
              have e0 : a.add 0 = a := by simp [Addr.add]
              rw [e0] at this
              exact .inr ⟨hX _ (cell_lt this), h5, fun j v hv => cell_add (h6 j v hv)⟩
        · simp only [Fits]
          exact ⟨ps, by omega, h4, none, by rw [h1]⟩
    · cases ht
  | .st fs, t, fuel, cs, x, ht, h => by
    simp only [tyOk] at ht
    split at ht
    · rename_i gs hu
      obtain ⟨xs, n, _, _, hl, hlen, hf⟩ := DataW.trod_struct hu h
      obtain ⟨avs, h1, h2, h3⟩ := fitsL_of hX fs (cs := cs) (o := 0) (n := P.cellsOf t) (m := n) (gs := gs.toList) ht (by omega) (fun g hg => by
        obtain ⟨i, hi, rfl⟩ := List.mem_iff_getElem.1 hg
        have hi' : i < gs.size := by simpa using hi
        have := hf i gs[i] (Array.getElem?_eq_getElem hi')
        rw [List.getElem?_eq_getElem (by omega)] at this
        exact ⟨_, by simpa using this⟩)
      refine ⟨avs, ?_, ?_, ?_⟩
      · simpa using h1
      · simp only [Fits]; exact h2
      · simpa using h3
    · cases ht
  | .ar n e, t, fuel, cs, x, ht, h => by
    simp only [tyOk] at ht
    split at ht
    · rename_i m e' hu
      simp only [Bool.and_eq_true, decide_eq_true_eq] at ht
      obtain ⟨⟨rfl, ht⟩, hc⟩ := ht
      obtain ⟨xs, q, _, _, hl, hlen, hf⟩ := DataW.trod_array hu h
      rw [hc] at hl
      have key : ∀ k, k ≤ m → ∃ ps : List (List AV), ps.length = k ∧ (∀ p ∈ ps, Fits e p) ∧ vrs X W ps.flatten (cs.take (k * P.cellsOf e')) ∧ ∀ u ∈ cs.take (k * P.cellsOf e'), u.oneCell' = true := by
        intro k
        induction k with
        | zero => intro _; exact ⟨[], rfl, by simp, by simp [vrs], by simp⟩
        | succ k ih =>
          intro hk
          obtain ⟨ps, h1, h2, h3, h4⟩ := ih (by omega)
          have hx := hf k (by omega)
          rw [List.getElem?_eq_getElem (by omega)] at hx
          obtain ⟨avs, a1, a2, a3⟩ := fits_of hX e ht hx
          have e1 : cs.take ((k + 1) * P.cellsOf e') = cs.take (k * P.cellsOf e') ++ (cs.drop (k * P.cellsOf e')).take (P.cellsOf e') := by
            rw [Nat.add_mul, Nat.one_mul, List.take_add]
          rw [e1]
          refine ⟨ps ++ [avs], by simp [h1], ?_, ?_, ?_⟩
          · intro p hp
            rcases List.mem_append.1 hp with hp | hp
            · exact h2 p hp
            · rw [List.mem_singleton] at hp; subst hp; exact a2
          · rw [List.flatten_append]; simpa using vrs_app h3 a1
          · intro u hu
            rcases List.mem_append.1 hu with hu | hu
            · exact h4 u hu
            · exact a3 u hu
      obtain ⟨ps, h1, h2, h3, h4⟩ := key m (Nat.le_refl _)
      rw [List.take_of_length_le (by omega)] at h3 h4
      exact ⟨ps.flatten, h3, by simp only [Fits]; exact ⟨ps, h1, h2, rfl⟩, h4⟩
    · cases ht
theorem fitsL_of (hX : ∀ b, b < W.heap.size → X.fz b) : ∀ (fs : List Ty) {gs : List Field} {o n m : Nat} {cs : List Value}, tysOk P fs gs o n = true → cs.length = n →
    (∀ g ∈ gs, ∃ x, DataW.trod enc P W base sp held m g.type ((cs.drop g.offset).take (P.cellsOf g.type)) = some x) →
    ∃ avs, vrs X W avs (cs.drop o) ∧ FitsL fs avs ∧ ∀ u ∈ cs.drop o, u.oneCell' = true
  | [], gs, o, n, m, cs, ht, hn, h => by
    cases gs with
    | cons g gs => simp [tysOk] at ht
    | nil =>
      simp only [tysOk] at ht
      have : o = n := of_decide_eq_true ht
      have e : cs.drop o = [] := List.drop_eq_nil_of_le (by omega)
      rw [e]
      exact ⟨[], by simp [vrs], by simp only [FitsL], by simp⟩
  | f :: fs, gs, o, n, m, cs, ht, hn, h => by
    cases gs with
    | nil => simp [tysOk] at ht
    | cons g gs =>
      simp only [tysOk, Bool.and_eq_true] at ht
      obtain ⟨⟨h1, h2⟩, h3⟩ := ht
      have ho : g.offset = o := of_decide_eq_true h1
      obtain ⟨x, hx⟩ := h g (List.mem_cons_self ..)
      rw [ho] at hx
      obtain ⟨a, a1, a2, a3⟩ := fits_of hX f h2 hx
      obtain ⟨b, b1, b2, b3⟩ := fitsL_of hX fs h3 hn fun g' hg' => h g' (List.mem_cons_of_mem _ hg')
      have e : cs.drop o = (cs.drop o).take (P.cellsOf g.type) ++ cs.drop (o + P.cellsOf g.type) := by
        rw [← List.drop_drop]; exact (List.take_append_drop _ _).symm
      rw [e]
      refine ⟨a ++ b, vrs_app a1 b1, ?_, ?_⟩
      · simp only [FitsL]; exact ⟨a, b, rfl, a2, b2⟩
      · intro u hu
        rcases List.mem_append.1 hu with hu | hu
        · exact a3 u hu
        · exact b3 u hu
end

def FitsV : Ty → AV → Prop
  | .st fs, a => ∃ cells, a = .agg cells ∧ FitsL fs cells
  | .ar n e, a => ∃ cells, a = .agg cells ∧ Fits (.ar n e) cells
  | ty, a => Fits ty [a]
def FitsVs : List Ty → List AV → Prop
  | [], as => as = []
  | t :: ts, as => ∃ a as', as = a :: as' ∧ FitsV t a ∧ FitsVs ts as'
def argsOk (P : Program) : List Ty → List TypeId → Bool
  | [], [] => true
  | ty :: tys, t :: ts => tyOk P ty t && argsOk P tys ts
  | _, _ => false

theorem one_of {v : Value} {avs : List AV} {ty : Ty} (h : ∀ cs, v ≠ .agg cs) (h1 : vrs X W avs v.cells.toList) (h2 : Fits ty avs) : ∃ a, vr X W a v ∧ Fits ty [a] := by
  have e : v.cells = #[v] := by
    cases v <;> first | rfl | exact absurd rfl (h _)
  rw [e] at h1
  match avs, h1 with
  | [a], h1 =>
    simp only [vrs] at h1
    obtain ⟨u, us', hu, h1, rfl⟩ := h1
    injection hu with hu; subst hu
    exact ⟨a, h1, h2⟩
  | [], h1 => simp [vrs] at h1
  | a :: b :: l, h1 =>
    simp only [vrs] at h1
    obtain ⟨u, us', hu, _, u2, us2, rfl, _⟩ := h1
    simp at hu

theorem arg_of (hX : ∀ b, b < W.heap.size → X.fz b) {ty : Ty} {t : TypeId} {v : Value} {d : DataW H} {ps : List MemPlace} {r : Reach} {b0 : Nat} (ht : tyOk P ty t = true) (hval : Value.okWide P W r b0 t v) (hd : DataW.Trod enc P W base sp held t v d ps) :
    ∃ a, vr X W a v ∧ FitsV ty a := by
  obtain ⟨fuel, h⟩ := hd
  obtain ⟨avs, h1, h2, h3⟩ := fits_of hX ty ht h
  cases ty with
  | st fs =>
    simp only [tyOk] at ht
    split at ht
    · rename_i gs hu
      unfold Value.okWide at hval
      rw [hu] at hval
      obtain ⟨cs, rfl, _⟩ := hval
      exact ⟨.agg avs, by simp only [vr]; exact ⟨cs.toList, h1, h3, by simp⟩, avs, rfl, h2⟩
    · cases ht
  | ar n e =>
    simp only [tyOk] at ht
    split at ht
    · rename_i m e' hu
      unfold Value.okWide at hval
      rw [hu] at hval
      obtain ⟨cs, rfl, _⟩ := hval
      exact ⟨.agg avs, by simp only [vr]; exact ⟨cs.toList, h1, h3, by simp⟩, avs, rfl, h2⟩
    · cases ht
  | int k =>
    refine one_of (fun cs e => ?_) h1 h2
    subst e
    simp only [tyOk] at ht
    split at ht
    · rename_i k' hu
      unfold Value.okWide Cell.okWide Cell.ok at hval
      rw [hu] at hval
      exact hval
    · cases ht
  | bool =>
    refine one_of (fun cs e => ?_) h1 h2
    subst e
    simp only [tyOk] at ht
    split at ht
    · rename_i hu
      unfold Value.okWide Cell.okWide Cell.ok at hval
      rw [hu] at hval
      exact hval
    · cases ht
  | str =>
    refine one_of (fun cs e => ?_) h1 h2
    subst e
    simp only [tyOk] at ht
    split at ht
    · rename_i hu
      unfold Value.okWide Cell.okWide Cell.ok at hval
      rw [hu] at hval
      exact hval
    · cases ht
  | sl e =>
    refine one_of (fun cs e => ?_) h1 h2
    subst e
    simp only [tyOk] at ht
    split at ht
    · rename_i e' hu
      unfold Value.okWide Cell.okWide Cell.ok at hval
      rw [hu] at hval
      exact hval
    · cases ht

theorem args_of (hX : ∀ b, b < W.heap.size → X.fz b) {r : Reach} {b0 : Nat} : ∀ {tys : List Ty} {ts : List TypeId} {vs : List Value} {ds : List (DataW H)} {ps : List MemPlace}, argsOk P tys ts = true →
    (∀ (j : Nat) t v, ts[j]? = some t → vs[j]? = some v → Value.okWide P W r b0 t v) → DataW.TrodAll enc P W base sp held ts vs ds ps → ∃ as, vrs X W as vs ∧ FitsVs tys as
  | [], [], vs, ds, ps, _, _, h => by
    obtain ⟨rfl, _, _⟩ := trodAll_nil h
    exact ⟨[], by simp [vrs], by simp only [FitsVs]⟩
  | ty :: tys, t :: ts, vs, ds, ps, ht, hv, h => by
    simp only [argsOk, Bool.and_eq_true] at ht
    obtain ⟨v, vs', d, ds', p, q, rfl, rfl, rfl, hd, hrest⟩ := trodAll_cons h
    obtain ⟨a, h1, h2⟩ := arg_of hX ht.1 (hv 0 t v rfl rfl) hd
    obtain ⟨as, h3, h4⟩ := args_of hX ht.2 (fun j t v h5 h6 => hv (j + 1) t v (by simpa using h5) (by simpa using h6)) hrest
    exact ⟨a :: as, by simp only [vrs]; exact ⟨v, vs', rfl, h1, h3⟩, by simp only [FitsVs]; exact ⟨a, as, rfl, h2, h4⟩⟩
  | [], _ :: _, _, _, _, ht, _, _ => by simp [argsOk] at ht
  | _ :: _, [], _, _, _, ht, _, _ => by simp [argsOk] at ht

theorem trodAll_below (hl : laidOutB P = true) {W' : World} (hb : Below W.heap.size W W') : ∀ {ts : List TypeId} {vs : List Value} {ds : List (DataW H)} {ps : List MemPlace}, (∀ t ∈ ts, P.readableRec t = true ∧ t < P.types.size) →
    DataW.TrodAll enc P W 0 (fun _ => true) true ts vs ds ps → (∀ x ∈ ps, x.block < W.heap.size) → DataW.TrodAll enc P W' 0 (fun b => decide (b < W.heap.size)) true ts vs ds ps
  | [], vs, ds, ps, _, h, _ => by
    obtain ⟨rfl, rfl, rfl⟩ := trodAll_nil h
    simp [DataW.TrodAll]
  | t :: ts, vs, ds, ps, hp, h, hx => by
    obtain ⟨v, vs', d, ds', p, q, rfl, rfl, rfl, hd, hrest⟩ := trodAll_cons h
    have h1 := hp t (List.mem_cons_self ..)
    exact ⟨p, q, Below.trod hl h1.1 h1.2 hd hb (fun x hm => hx x (List.mem_append_left _ hm)), trodAll_below hl hb (fun t ht => hp t (List.mem_cons_of_mem _ ht)) hrest (fun x hm => hx x (List.mem_append_right _ hm)), rfl⟩

/-- At the start all that is there is never written. -/
def cx0 (W : World) : Cx := ⟨fun b => b < W.heap.size, fun _ => default, 0⟩
theorem rel0 (W : World) (hg : ∀ p ∈ Glob.gl, W.cell? ⟨p.1, 0, none⟩ = some p.2) : Rel (cx0 W) Tab.nil [] (fun _ => 0) W := by
  have hn : ∀ id, Tab.nil id = .unused := fun _ => rfl
  refine ⟨fun _ _ => rfl, fun b h => h, fun id z c h => ?_, fun id es h => ?_, fun id h => absurd (hn id) h, fun id id' h => absurd (hn id) h, fun l c h => ?_, fun l c h => ?_, fun l l' c c' h => ?_, fun l c h => ?_, fun p hp => ⟨cell_lt (hg p hp), hg p hp⟩⟩
  · rw [hn] at h; cases h
  · rw [hn] at h; cases h
  · simp [aget] at h
  · simp [aget] at h
  · simp [aget] at h
  · simp [aget] at h

theorem below0 {X' : Cx} {T' : Tab} {W' : World} (h : Step (cx0 W) Tab.nil W X' T' W') : Below W.heap.size W W' :=
  ⟨h.os, h.tape, h.output, h.size, fun k hk => h.kept k hk fun ⟨id, hid, _⟩ => hid rfl⟩

/-- A law that answers true, whatever it is given. -/
theorem true_of {f : FuncId} {fn : Func} {s : ChangeSpec} {tb : TypeId} {apart fresh : Bool} (tys : List Ty) (hty : argsOk P tys fn.params.toList = true) (hr : fn.resultTypes = #[tb]) (htb : P.underlying tb = some .bool) (hvars : s.vars = [])
    (hs : ∀ (ds : List (DataW H)), ds.length = fn.params.size → s.fn H ds = { results := [.lit (.bool true)], args := ds }) (hl : laidOutB P = true) (hp : ∀ t ∈ fn.params.toList, P.readableRec t = true ∧ t < P.types.size)
    (hcall : ∀ as, FitsVs tys as → ACalls P f as Tab.nil (fun v T' => v = .b true ∧ T' = Tab.nil)) (W : World) (hgl : ∀ p ∈ Glob.gl, W.cell? ⟨p.1, 0, none⟩ = some p.2) (base : Nat) (args : Array Value) (ds gs : List (DataW H)) (before : List MemPlace)
    (hval : ∀ (j : Nat) t v, fn.params[j]? = some t → args[j]? = some v → Value.okWide P W .any base t v) (hW : DataW.Whole enc P fn.params.toList s.vars apart W args.toList ds gs before) :
    Calls P f args W fun e W' => ∃ v, e = .returned v ∧ s.post enc P fn apart fresh false false W args v W' := by
  have hlt : ∀ p ∈ before, p.block < W.heap.size := fun p hp => hW.lt p hp
  have hW' := hW
  obtain ⟨p, q, hA, hV, rfl, hfz, hnd⟩ := hW
  rw [hvars] at hV
  obtain ⟨rfl, rfl⟩ := trodVars_none hV
  obtain ⟨as, h1, h2⟩ := args_of (X := cx0 W) (fun b hb => hb) hty (fun j t v h3 h4 => hval j t v (by simpa using h3) (by simpa using h4)) hA
  have hc := hcall as h2 (cx0 W) _ W args.toList (rel0 W hgl) h1
  refine hc.mono fun e W' ⟨v, x, T', X', lam', he, ⟨hx, _⟩, hv, _, hst⟩ => ?_
  subst he; subst hx
  simp only [vr] at hv
  subst hv
  have hb := below0 hst
  have hlen : ds.length = fn.params.size := by
    have key : ∀ {ts : List TypeId} {vs : List Value} {ds : List (DataW H)} {ps : List MemPlace}, DataW.TrodAll enc P W 0 (fun _ => true) true ts vs ds ps → ds.length = ts.length := by
      intro ts
      induction ts with
      | nil => intro vs ds ps h; obtain ⟨_, rfl, _⟩ := trodAll_nil h; rfl
      | cons t ts ih => intro vs ds ps h; obtain ⟨v, vs', d, ds', p, q, rfl, rfl, rfl, hd, hrest⟩ := trodAll_cons h; simp [ih hrest]
    simpa using key hA
  simp only [List.append_nil] at hlt
  have hs' := hs ds hlen
  refine ⟨_, rfl, ds, [], p ++ [], [], p, [], hW', ?_, ?_, ?_, hb.frame _, fun h => nomatch h⟩
  · rw [List.append_nil, hs', hr]
    exact trodAll_mk1 (RowKit.shut_bool htb true)
  · rw [List.append_nil, hs']
    exact trodAll_below hl hb hp hA hlt
  · rw [hvars, List.append_nil, hs']
    rfl
end
end Go.Aw

/-
  Arguments of plain types, as lists.
-/
namespace Go.Aw
open Go
variable [Glob]
set_option linter.all false

theorem wf_bd {k : IntKind} {n : Int} (h : (Lit.int k n).wf = true) : k.min ≤ n ∧ n ≤ k.max := by
  simp [Lit.wf, IntKind.has] at h
  exact h
theorem wf_i64 {n : Int} (h : (Lit.int .i64 n).wf = true) : I64 n := by
  have := wf_bd h
  simp [IntKind.min, IntKind.max, IntKind.signed, IntKind.bits] at this
  unfold I64
  omega
theorem wf_u64 {n : Int} (h : (Lit.int .u64 n).wf = true) : 0 ≤ n ∧ n < 18446744073709551616 := by
  have := wf_bd h
  simp [IntKind.min, IntKind.max, IntKind.signed, IntKind.bits] at this
  omega

/-- The elements of a slice, each told by something. -/
theorem list_of {α : Type} {e : Ty} {cells : α → List AV} {ok : α → Prop} (h : ∀ p, Fits e p → ∃ x, p = cells x ∧ ok x) : ∀ (ps : List (List AV)), (∀ p ∈ ps, Fits e p) → ∃ l : List α, l.length = ps.length ∧ ps.flatten = l.flatMap cells ∧ ∀ x ∈ l, ok x
  | [], _ => ⟨[], rfl, rfl, by simp⟩
  | p :: ps, hp => by
    obtain ⟨l, h1, h2, h3⟩ := list_of h ps fun q hq => hp q (List.mem_cons_of_mem _ hq)
    obtain ⟨x, rfl, hx⟩ := h p (hp p (List.mem_cons_self ..))
    refine ⟨x :: l, by simp [h1], by simp [h2], ?_⟩
    intro y hy
    rcases List.mem_cons.1 hy with rfl | hy
    · exact hx
    · exact h3 y hy
theorem slice_of {α : Type} {e : Ty} {cells : α → List AV} {ok : α → Prop} (h : ∀ p, Fits e p → ∃ x, p = cells x ∧ ok x) {p : List AV} (hp : Fits (.sl e) p) :
    ∃ (l : List α) (k : Option Nat), p = [.fz l.length (l.flatMap cells) k] ∧ Len l.length ∧ ∀ x ∈ l, ok x := by
  simp only [Fits] at hp
  obtain ⟨ps, hps, hf, k, rfl⟩ := hp
  obtain ⟨l, h1, h2, h3⟩ := list_of h ps hf
  refine ⟨l, k, by rw [h1, h2], ?_, h3⟩
  unfold Len
  rw [h1]
  unfold maxLen at hps
  omega
theorem slice_ofV {α : Type} {e : Ty} {cells : α → List AV} {ok : α → Prop} (h : ∀ p, Fits e p → ∃ x, p = cells x ∧ ok x) {a : AV} (ha : FitsV (.sl e) a) :
    ∃ (l : List α) (k : Option Nat), a = .fz l.length (l.flatMap cells) k ∧ Len l.length ∧ ∀ x ∈ l, ok x := by
  have ha' : Fits (.sl e) [a] := ha
  obtain ⟨l, k, h1, h2⟩ := slice_of h ha'
  injection h1 with h1
  exact ⟨l, k, h1, h2⟩

end Go.Aw


