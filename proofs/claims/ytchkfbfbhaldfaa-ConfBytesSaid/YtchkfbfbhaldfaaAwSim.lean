/-
  Equations by which a text is followed.
-/
import Derived.Test.YtchkfbfbhaldfaaAwBody
namespace Go.Aw
set_option linter.all false
open Go

section
variable {P : Program} {R : RPost} {K : Env → Loc → Tab → Prop} {e : Env} {L : Loc} {T : Tab}

theorem AW_skip : AW P .skip R e L T = R .normal e L T := rfl
theorem AW_ops (l : List SOp) : AW P (.ops l) R e L T = opsG P l (R .normal) e L T := rfl
theorem AW_seq (a b : SC) : AW P (.seq a b) R e L T = AW P a (thenR (AW P b R) R) e L T := rfl
theorem AW_block (id : Nat) (c : SC) : AW P (.block id c) R e L T = AW P c (blkR id R) e L T := rfl
theorem AW_exit (id : Nat) : AW P (.exit id) R e L T = R (.exit id) e L T := rfl
theorem AW_ret : AW P .ret R e L T = R .ret e L T := rfl
theorem AW_keep (ts ls : List Nat) : AW P (.keep ts ls) R e L T = R .normal (keepL ts e) (keepL ls L) T := rfl
theorem thenR_normal : thenR K R .normal = K := rfl
theorem thenR_exit (id : Nat) : thenR K R (.exit id) = R (.exit id) := rfl
theorem thenR_ret : thenR K R .ret = R .ret := rfl
theorem blkR_normal (id : Nat) : blkR id R .normal = R .normal := rfl
theorem blkR_exit (id id' : Nat) : blkR id R (.exit id') = if id' = id then R .normal else R (.exit id') := rfl
theorem blkR_ret (id : Nat) : blkR id R .ret = R .ret := rfl
theorem FinX_normal (rs : List SO) (Q : AV → Tab → Prop) : FinX rs Q .normal = FinR rs Q := rfl
theorem FinX_ret (rs : List SO) (Q : AV → Tab → Prop) : FinX rs Q .ret = FinR rs Q := rfl
theorem opsG_nil : opsG P [] K e L T = K e L T := rfl
theorem opsG_cons (o : SOp) (l : List SOp) : opsG P (o :: l) K e L T = gstep P o (opsG P l K) e L T := rfl
theorem eset_some (d : Nat) (x : AV) : eset e (some d) x = aset e d x := rfl
theorem eset_none (x : AV) : eset e none x = e := rfl

variable {d : Option Nat} {rc : RC}
/-- What is not looked into yet. -/
inductive Hold.{u} {α : Sort u} (a : α) : Type
  | mk

/-- An operation that yields a value. -/
def vst (x : Option AV) {K : AV → Prop} (_ : Hold K) : Prop :=
  match x with
  | some x => K x
  | none => False
theorem vst_some (x : AV) (K : AV → Prop) (h : Hold K) : vst (some x) h = K x := rfl

/-- Two ways. -/
def br (x : Bool) {a b : Prop} (_ : Hold a) (_ : Hold b) : Prop := if x = true then a else b
theorem br_true (a b : Prop) (p : Hold a) (q : Hold b) : br true p q = a := rfl
theorem br_false (a b : Prop) (p : Hold a) (q : Hold b) : br false p q = b := rfl
theorem br_split {x : Bool} {a b : Prop} {p : Hold a} {q : Hold b} (ha : x = true → a) (hb : x = false → b) : br x p q := by
  cases x
  · exact hb rfl
  · exact ha rfl

/-- Is a slice nil? -/
def snl (neg : Bool) (x : Option AV) {K : AV → Prop} (_ : Hold K) : Prop := snilStep neg x K
theorem snl_sl (neg : Bool) (id o n : Nat) (cap : Option Nat) (K : AV → Prop) (h : Hold K) : snl neg (some (.sl id o n cap)) h = K (.b neg) := rfl
theorem snl_fz (neg : Bool) (n : Nat) (c : List AV) (cap : Option Nat) (K : AV → Prop) (h : Hold K) : snl neg (some (.fz n c cap)) h = if 0 < n then K (.b neg) else ∀ b, K (.b b) := rfl

/-- Two ways, by a value. -/
def brO (x : Option AV) {a b : Prop} (p : Hold a) (q : Hold b) : Prop :=
  match x with
  | some (.b x) => br x p q
  | _ => False
theorem brO_b (x : Bool) (a b : Prop) (p : Hold a) (q : Hold b) : brO (some (.b x)) p q = br x p q := rfl

def gsO (x : Option AV) {a b : Prop} (p : Hold a) (q : Hold b) : Prop :=
  match x with
  | some (.b x) => br x p q
  | some (.tup []) => b
  | _ => False
theorem gsO_b (x : Bool) (a b : Prop) (p : Hold a) (q : Hold b) : gsO (some (.b x)) p q = br x p q := rfl
theorem gsO_t (a b : Prop) (p : Hold a) (q : Hold b) : gsO (some (.tup [])) p q = b := rfl
def gsN (x : Option AV) {a b : Prop} (p : Hold a) (q : Hold b) : Prop :=
  match x with
  | some (.b x) => br x q p
  | some (.tup []) => b
  | _ => False
theorem gsN_b (x : Bool) (a b : Prop) (p : Hold a) (q : Hold b) : gsN (some (.b x)) p q = br x q p := rfl
theorem gsN_t (a b : Prop) (p : Hold a) (q : Hold b) : gsN (some (.tup [])) p q = b := rfl

/-- What changes local variables. -/
def vs2 (x : Option (Env × Loc)) {K : Env → Loc → Prop} (_ : Hold K) : Prop :=
  match x with
  | some (e, l) => K e l
  | none => False
theorem vs2_some (e : Env) (l : Loc) (K : Env → Loc → Prop) (h : Hold K) : vs2 (some (e, l)) h = K e l := rfl

/-- What may be left out. -/
def gst (e : Env) (k : Nat) (want : Bool) {y n : Prop} (p : Hold y) (q : Hold n) : Prop :=
  match aget e k with
  | some (.b x) => if want then br x p q else br x q p
  | some (.tup []) => n
  | _ => False

theorem g_mv (x) : gstep P ⟨d, .mv x, none, rc⟩ K e L T = vst (opdV e x) (Hold.mk (a := fun v => K (eset e d v) L T)) := rfl
theorem g_pick (c x y) : gstep P ⟨d, .pick c x y, none, rc⟩ K e L T = vst ((opdV e c).bind fun c => pickAv c (opdV e x) (opdV e y)) (Hold.mk (a := fun v => K (eset e d v) L T)) := rfl
theorem g_bin (o x y) : gstep P ⟨d, .bin o x y, none, rc⟩ K e L T = vst ((opdV e x).bind fun x => (opdV e y).bind fun y => binAv o x y) (Hold.mk (a := fun v => K (eset e d v) L T)) := rfl
theorem g_eq (o k x y) : gstep P ⟨d, .eq o k x y, none, rc⟩ K e L T = vst ((opdV e x).bind fun x => (opdV e y).bind fun y => (eqAv k x y).map fun r => .b (if o then !r else r)) (Hold.mk (a := fun v => K (eset e d v) L T)) := rfl
theorem g_snil (neg x) : gstep P ⟨d, .snil neg x, none, rc⟩ K e L T = snl neg (opdV e x) (Hold.mk (a := fun v => K (eset e d v) L T)) := rfl
theorem g_un (o x) : gstep P ⟨d, .un o x, none, rc⟩ K e L T = vst ((opdV e x).bind (unAv o)) (Hold.mk (a := fun v => K (eset e d v) L T)) := rfl
theorem g_cvi (k x) : gstep P ⟨d, .cvi k x, none, rc⟩ K e L T = vst ((opdV e x).bind (wrapAv k)) (Hold.mk (a := fun v => K (eset e d v) L T)) := rfl
theorem g_b2s (x) : gstep P ⟨d, .b2s x, none, rc⟩ K e L T = vst ((opdV e x).bind fun x => (slCells T 1 x).bind fun c => match x with
      | .s _ => none
      | _ => (bytesAv c).map .s) (Hold.mk (a := fun v => K (eset e d v) L T)) := rfl
theorem g_s2b (x) : gstep P ⟨d, .s2b x, none, rc⟩ K e L T = vst ((opdV e x).bind fun x => match x with
    | .s l => some (.fz l.length (byteCells l) none)
    | _ => none) (Hold.mk (a := fun v => K (eset e d v) L T)) := rfl
theorem g_cvs (x) : gstep P ⟨d, .cvs x, none, rc⟩ K e L T = vst ((opdV e x).bind fun x => match x with
      | .s l => some (.s l)
      | _ => none) (Hold.mk (a := fun v => K (eset e d v) L T)) := rfl
theorem g_ifc (t x) : gstep P ⟨d, .ifc t x, none, rc⟩ K e L T = vst ((opdV e x).map (.ifc t)) (Hold.mk (a := fun v => K (eset e d v) L T)) := rfl
theorem g_mkfn (f a c) : gstep P ⟨d, .mkfn f a c, none, rc⟩ K e L T = vst ((opdVs e a).bind fun a => (opdVs e c).map fun b => .fn f a b) (Hold.mk (a := fun v => K (eset e d v) L T)) := rfl
theorem g_slc (z x lo hi mx) : gstep P ⟨d, .slc z x lo hi mx, none, rc⟩ K e L T = vst ((opdV e x).bind fun x => (optOpd e lo).bind fun lo => (optOpd e hi).bind fun hi => (optOpd e mx).bind fun mx => slcAv z T lo hi mx x) (Hold.mk (a := fun v => K (eset e d v) L T)) := rfl
theorem g_slcs (x lo hi) : gstep P ⟨d, .slcs x lo hi, none, rc⟩ K e L T = vst ((opdV e x).bind fun x => (optOpd e lo).bind fun lo => (optOpd e hi).bind fun hi => slcStr lo hi x) (Hold.mk (a := fun v => K (eset e d v) L T)) := rfl
theorem g_fadr (l o x) : gstep P ⟨d, .fadr l o x, none, rc⟩ K e L T = vst ((opdL e l x).bind (fadrAv o)) (Hold.mk (a := fun v => K (eset e d v) L T)) := rfl
theorem g_fld (o z x) : gstep P ⟨d, .fld o z x, none, rc⟩ K e L T = vst ((opdV e x).bind (fldAv o z)) (Hold.mk (a := fun v => K (eset e d v) L T)) := rfl
theorem g_iadr (l z a x i) : gstep P ⟨d, .iadr l z a x i, none, rc⟩ K e L T = vst ((opdL e l x).bind fun x => (opdV e i).bind fun i => iadrAv z a i x) (Hold.mk (a := fun v => K (eset e d v) L T)) := rfl
theorem g_idxs (x i) : gstep P ⟨d, .idxs x i, none, rc⟩ K e L T = vst ((opdV e x).bind fun x => (opdV e i).bind fun i => idxStr i x) (Hold.mk (a := fun v => K (eset e d v) L T)) := rfl
theorem g_ext (i x) : gstep P ⟨d, .ext i x, none, rc⟩ K e L T = vst ((opdV e x).bind (extAv i)) (Hold.mk (a := fun v => K (eset e d v) L T)) := rfl
theorem g_len (s x) : gstep P ⟨d, .len s x, none, rc⟩ K e L T = vst ((opdV e x).bind (lenAv s)) (Hold.mk (a := fun v => K (eset e d v) L T)) := rfl
theorem g_idxa (z l n x i) : gstep P ⟨d, .idxa z l n x i, none, rc⟩ K e L T = vst ((opdV e x).bind fun x => (opdV e i).bind fun i => idxAv z l n i x) (Hold.mk (a := fun v => K (eset e d v) L T)) := rfl
theorem g_cap (x) : gstep P ⟨d, .cap x, none, rc⟩ K e L T = vst ((opdV e x).bind capAv) (Hold.mk (a := fun v => K (eset e d v) L T)) := rfl
theorem g_bad : gstep P ⟨d, .bad, none, rc⟩ K e L T = False := rfl
def mkS (z b : Nat) (zero : List AV) (x y : Option AV) (T : Tab) {k : AV → Tab → Prop} (_ : Hold k) : Prop :=
  match x, y with
  | some (.i _ j), some (.i _ q) => 0 ≤ j ∧ j ≤ q ∧ q.toNat * b ≤ 140737488355328 ∧ q ≤ 9223372036854775807 ∧ ∀ id, T id = .unused → k (.sl id 0 j.toNat none) (T.put id (.row z (rep zero q.toNat)))
  | _, _ => False
theorem mkS_of {z b : Nat} {zero : List AV} {k1 k2 : IntKind} {j q : Int} {T : Tab} {k : AV → Tab → Prop} {h : Hold k} (h1 : 0 ≤ j) (h2 : j ≤ q) (h3 : q.toNat * b ≤ 140737488355328) (h4 : q ≤ 9223372036854775807)
    (hk : ∀ id, T id = .unused → k (.sl id 0 j.toNat none) (T.put id (.row z (rep zero q.toNat)))) : mkS z b zero (some (.i k1 j)) (some (.i k2 q)) T h := ⟨h1, h2, h3, h4, hk⟩
theorem g_mnx (m x y) : gstep P ⟨d, .mnx m x y, none, rc⟩ K e L T = vst ((opdV e x).bind fun x => (opdV e y).bind fun y => mnxAv m x y) (Hold.mk (a := fun v => K (eset e d v) L T)) := rfl
theorem g_nilck (l x) : gstep P ⟨d, .nilck l x, none, rc⟩ K e L T = vst ((opdL e l x).bind nilckAv) (Hold.mk (a := fun v => K (eset e d v) L T)) := rfl
theorem g_bld (z ps) : gstep P ⟨d, .bld z ps, none, rc⟩ K e L T = vst ((bldAv e z ps).map .agg) (Hold.mk (a := fun v => K (eset e d v) L T)) := rfl
theorem g_bsl (n q z ps) : gstep P ⟨d, .bsl n q z ps, none, rc⟩ K e L T = vst ((bldAv e z ps).map fun cells => .fz n cells (some n)) (Hold.mk (a := fun v => K (eset e d v) L T)) := rfl
theorem g_ld (z x) : gstep P ⟨d, .ld z x, none, rc⟩ K e L T = vst ((opdV e x).bind (ldAv z T)) (Hold.mk (a := fun v => K (eset e d v) L T)) := rfl
theorem g_lld (l z x) : gstep P ⟨d, .lld l z x, none, rc⟩ K e L T = vst ((opdL e (some l) x).bind (lldAv l z L)) (Hold.mk (a := fun v => K (eset e d v) L T)) := rfl
theorem g_fbox (x) : gstep P ⟨d, .fbox x, none, rc⟩ K e L T = vst ((opdV e x).bind fun v => if v.sto = true then some (.fptr v.cells) else none) (Hold.mk (a := fun v => K (eset e d v) L T)) := rfl

theorem g_lst (l z x v) : gstep P ⟨d, .lst l z x v, none, rc⟩ K e L T = vs2 ((opdL e (some l) x).bind fun p => (opdV e v).bind fun y => match p with
    | .lp _ o => (aget L l).bind fun cells => if y.sto = true ∧ y.cells.length = z ∧ o + z ≤ cells.length then some (eset e d (.tup []), aset L l (stCells cells o y.cells)) else none
    | _ => none) (Hold.mk (a := fun e l => K e l T)) := rfl
theorem g_lalloc (k : Nat) (z) : gstep P ⟨some k, .lalloc z, none, rc⟩ K e L T = K (aset (dropLp e k) k (.lp k 0)) (aset L k z) T := rfl
theorem g_lbox (k : Nat) (x) : gstep P ⟨some k, .lbox x, none, rc⟩ K e L T = vs2 ((opdV e x).bind fun v => if v.sto = true then some (aset (dropLp e k) k (.lp k 0), aset L k v.cells) else none) (Hold.mk (a := fun e l => K e l T)) := rfl

/-- A call. -/
def CallK (P : Program) (f : FuncId) (avs : List AV) (T : Tab) (k : AV → Tab → Prop) : Prop :=
  ∃ S R, S.Nodup ∧ (∀ id ∈ S, T id ≠ .unused) ∧ ACalls P f (avs.map (frzv T S)) (kill T S) R ∧ ∀ v T', R v T' → k v T'

/-- What is done behind an operation on the table. -/
def aft (K : Env → Loc → Tab → Prop) (e : Env) (L : Loc) (d : Option Nat) (rc : RC) : AV → Tab → Prop := fun v T' => v.isLp = false → rcOk (eset e d v) L T' rc ∧ K (eset e d v) L T'

def calS (P : Program) (f : FuncId) (avs : Option (List AV)) (T : Tab) {k : AV → Tab → Prop} (_ : Hold k) : Prop :=
  match avs with
  | some avs => CallK P f avs T k
  | none => False
theorem calS_some (f : FuncId) (avs : List AV) (k : AV → Tab → Prop) (h : Hold k) : calS P f (some avs) T h = CallK P f avs T k := rfl
def calV (P : Program) (x : Option AV) (avs : Option (List AV)) (T : Tab) {k : AV → Tab → Prop} (_ : Hold k) : Prop :=
  match x, avs with
  | some (.fn (.func f) first cap), some avs => callable P f = true ∧ CallK P f (first ++ avs ++ cap) T k
  | _, _ => False
theorem calV_some (f : FuncId) (first cap avs : List AV) (k : AV → Tab → Prop) (h : Hold k) (hc : callable P f = true) : calV P (some (.fn (.func f) first cap)) (some avs) T h = CallK P f (first ++ avs ++ cap) T k := by
  simp [calV, hc]

theorem g_call (f args) (hc : callable P f = true) : gstep P ⟨d, .call f args, none, rc⟩ K e L T = calS P f (opdVs e args) T (Hold.mk (a := aft K e L d rc)) := by
  have : gstep P ⟨d, .call f args, none, rc⟩ K e L T = (callable P f = true ∧ match opdVs e args with
    | some avs => CallK P f avs T (aft K e L d rc)
    | none => False) := rfl
  rw [this]; simp only [hc, true_and]; rfl
theorem g_callv (x args) : gstep P ⟨d, .callv x args, none, rc⟩ K e L T = calV P (opdV e x) (opdVs e args) T (Hold.mk (a := aft K e L d rc)) := rfl
theorem g_halloc (z c) : gstep P ⟨d, .halloc z c, none, rc⟩ K e L T = ∀ id, T id = .unused → aft K e L d rc (.ptr id 0) (T.put id (.row z c)) := rfl
def hbS (z : Nat) (x : Option AV) (T : Tab) {k : AV → Tab → Prop} (_ : Hold k) : Prop :=
  match x with
  | some v => v.sto = true ∧ ∀ id, T id = .unused → k (.ptr id 0) (T.put id (.row z v.cells))
  | none => False
theorem hbS_some (z : Nat) (v : AV) (k : AV → Tab → Prop) (h : Hold k) (hv : v.sto = true) : hbS z (some v) T h = ∀ id, T id = .unused → k (.ptr id 0) (T.put id (.row z v.cells)) := by simp [hbS, hv]
theorem g_hbox (z x) : gstep P ⟨d, .hbox z x, none, rc⟩ K e L T = hbS z (opdV e x) T (Hold.mk (a := aft K e L d rc)) := rfl
def stS (z : Nat) (x y : Option AV) (T : Tab) {k : AV → Tab → Prop} (_ : Hold k) : Prop :=
  match x, y with
  | some (.ptr id o), some y => match T id with
    | .row q cells => y.sto = true ∧ y.cells.length = z ∧ o + z ≤ cells.length ∧ k (.tup []) (T.put id (.row q (stCells cells o y.cells)))
    | _ => False
  | _, _ => False
theorem stS_row {z id o q : Nat} {y : AV} {cells : List AV} {k : AV → Tab → Prop} {h : Hold k} (hT : T id = .row q cells) (h1 : y.sto = true) (h2 : y.cells.length = z) (h3 : o + z ≤ cells.length)
    (hk : k (.tup []) (T.put id (.row q (stCells cells o y.cells)))) : stS z (some (.ptr id o)) (some y) T h := by
  unfold stS; simp only [hT]; exact ⟨h1, h2, h3, hk⟩
theorem g_st (z x v) : gstep P ⟨d, .st z x v, none, rc⟩ K e L T = stS z (opdV e x) (opdV e v) T (Hold.mk (a := aft K e L d rc)) := rfl
def apS (z b : Nat) (x y : Option AV) (T : Tab) {k : AV → Tab → Prop} (_ : Hold k) : Prop :=
  match x, y with
  | some x, some y => appStep z b T x y k
  | _, _ => False
theorem apS_some (z b : Nat) (x y : AV) (k : AV → Tab → Prop) (h : Hold k) : apS z b (some x) (some y) T h = appStep z b T x y k := rfl
theorem g_app (z b x y) : gstep P ⟨d, .app z b x y, none, rc⟩ K e L T = apS z b (opdV e x) (opdV e y) T (Hold.mk (a := aft K e L d rc)) := rfl
def clS (z : Nat) (zero : List AV) (x : Option AV) (T : Tab) {k : AV → Tab → Prop} (_ : Hold k) : Prop :=
  match x with
  | some (.fz 0 _ _) => k (.tup []) T
  | some (.sl id o n _) => match T id with
    | .row q cells => q = z ∧ zero.length = z ∧ o + n * z ≤ cells.length ∧ k (.tup []) (T.put id (.row q (stCells cells o (rep zero n))))
    | _ => False
  | _ => False
theorem g_clr (z zero x) : gstep P ⟨d, .clr z zero x, none, rc⟩ K e L T = clS z zero (opdV e x) T (Hold.mk (a := aft K e L d rc)) := rfl

def hbsS (n z : Nat) (x : Option (List AV)) (T : Tab) {k : AV → Tab → Prop} (_ : Hold k) : Prop :=
  match x with
  | some cells => ∀ id, T id = .unused → k (.sl id 0 n (some n)) (T.put id (.row z cells))
  | none => False
theorem hbsS_some (n z : Nat) (cells : List AV) (k : AV → Tab → Prop) (h : Hold k) : hbsS n z (some cells) T h = ∀ id, T id = .unused → k (.sl id 0 n (some n)) (T.put id (.row z cells)) := rfl
theorem g_hbs (n z zero ps) : gstep P ⟨d, .hbs n z zero ps, none, rc⟩ K e L T = hbsS n z (bldAv e zero ps) T (Hold.mk (a := aft K e L d rc)) := rfl
def cvmS (x : Option AV) (T : Tab) {k : AV → Tab → Prop} (_ : Hold k) : Prop :=
  match x with
  | some (.sl id o n cap) => match T id with
    | .row z cells => z = 1 ∧ o + n ≤ cells.length ∧ k (.fz n ((cells.drop o).take n) cap) (T.put id .unused)
    | _ => False
  | _ => False
theorem cvmS_row {id o n : Nat} {cells : List AV} {cap : Option Nat} {k : AV → Tab → Prop} {h : Hold k} (hT : T id = .row 1 cells) (h2 : o + n ≤ cells.length)
    (hk : k (.fz n ((cells.drop o).take n) cap) (T.put id .unused)) : cvmS (some (.sl id o n cap)) T h := by
  unfold cvmS; simp only [hT]; exact ⟨trivial, h2, hk⟩
theorem g_cvm (x) : gstep P ⟨d, .cvm x, none, rc⟩ K e L T = cvmS (opdV e x) T (Hold.mk (a := aft K e L d rc)) := rfl
def apzS (z b : Nat) (zero : List AV) (x y : Option AV) (T : Tab) {k : AV → Tab → Prop} (_ : Hold k) : Prop :=
  match x, y with
  | some (.fz 0 [] (some 0)), some (.i _ q) => 0 < q ∧ q.toNat * b ≤ 140737488355328 ∧ q ≤ 9223372036854775807 ∧ ∀ id, T id = .unused → k (.sl id 0 q.toNat none) (T.put id (.row z (rep zero q.toNat)))
  | _, _ => False
theorem apzS_of {z b : Nat} {zero : List AV} {k2 : IntKind} {q : Int} {k : AV → Tab → Prop} {h : Hold k} (h2 : 0 < q) (h3 : q.toNat * b ≤ 140737488355328) (h4 : q ≤ 9223372036854775807)
    (hk : ∀ id, T id = .unused → k (.sl id 0 q.toNat none) (T.put id (.row z (rep zero q.toNat)))) : apzS z b zero (some (.fz 0 [] (some 0))) (some (.i k2 q)) T h := ⟨h2, h3, h4, hk⟩
theorem g_apz (z b zero x y) : gstep P ⟨d, .apz z b zero x y, none, rc⟩ K e L T = apzS z b zero (opdV e x) (opdV e y) T (Hold.mk (a := aft K e L d rc)) := rfl
theorem g_mkm : gstep P ⟨d, .mkm, none, rc⟩ K e L T = ∀ id, T id = .unused → aft K e L d rc (.mp id) (T.put id (.mapo [])) := rfl
def lkuS (m : MK) (ok : Bool) (zero : AV) (x y : Option AV) (T : Tab) {k : AV → Tab → Prop} (_ : Hold k) : Prop :=
  match x, y with
  | some (.mp id), some kv => match T id with
    | .mapo es => isKeyAv m kv = true ∧ match mget m kv es with
      | some (some v) => k (if ok then .tup [v, .b true] else v) T
      | some none => k (if ok then .tup [zero, .b false] else zero) T
      | none => False
    | _ => False
  | _, _ => False
theorem lkuS_has {m : MK} {ok : Bool} {zero kv v : AV} {id : Nat} {es : List (AV × AV)} {k : AV → Tab → Prop} {h : Hold k} (hT : T id = .mapo es) (h1 : isKeyAv m kv = true) (h2 : mget m kv es = some (some v))
    (hk : k (if ok then .tup [v, .b true] else v) T) : lkuS m ok zero (some (.mp id)) (some kv) T h := by
  unfold lkuS; simp only [hT, h2]; exact ⟨h1, hk⟩
theorem lkuS_not {m : MK} {ok : Bool} {zero kv : AV} {id : Nat} {es : List (AV × AV)} {k : AV → Tab → Prop} {h : Hold k} (hT : T id = .mapo es) (h1 : isKeyAv m kv = true) (h2 : mget m kv es = some none)
    (hk : k (if ok then .tup [zero, .b false] else zero) T) : lkuS m ok zero (some (.mp id)) (some kv) T h := by
  unfold lkuS; simp only [hT, h2]; exact ⟨h1, hk⟩
theorem g_lku (m ok zero x y) : gstep P ⟨d, .lku m ok zero x y, none, rc⟩ K e L T = lkuS m ok zero (opdV e x) (opdV e y) T (Hold.mk (a := aft K e L d rc)) := rfl
def mupS (m : MK) (x y z : Option AV) (T : Tab) {k : AV → Tab → Prop} (_ : Hold k) : Prop :=
  match x, y, z with
  | some (.mp id), some kv, some y => match T id with
    | .mapo es => isKeyAv m kv = true ∧ (mget m kv es).isSome = true ∧ k (.tup []) (T.put id (.mapo (mput kv y es)))
    | _ => False
  | _, _, _ => False
theorem mupS_of {m : MK} {kv y : AV} {id : Nat} {es : List (AV × AV)} {k : AV → Tab → Prop} {h : Hold k} (hT : T id = .mapo es) (h1 : isKeyAv m kv = true) (h2 : (mget m kv es).isSome = true)
    (hk : k (.tup []) (T.put id (.mapo (mput kv y es)))) : mupS m (some (.mp id)) (some kv) (some y) T h := by
  unfold mupS; simp only [hT]; exact ⟨h1, h2, hk⟩
theorem g_mup (m x y z) : gstep P ⟨d, .mup m x y z, none, rc⟩ K e L T = mupS m (opdV e x) (opdV e y) (opdV e z) T (Hold.mk (a := aft K e L d rc)) := rfl
theorem g_mksl (z b zero x y) : gstep P ⟨d, .mksl z b zero x y, none, rc⟩ K e L T = mkS z b zero (opdV e x) (opdV e y) T (Hold.mk (a := aft K e L d rc)) := rfl

theorem aft_nil {v : AV} {T' : Tab} (h : K (eset e d v) L T') : aft K e L d [] v T' := fun _ => ⟨trivial, h⟩
theorem aft_rc {v : AV} {T' : Tab} (h : v.isLp = false → rcOk (eset e d v) L T' rc) (k : K (eset e d v) L T') : aft K e L d rc v T' := fun hv => ⟨h hv, k⟩

theorem gst_eq (k : Nat) (want : Bool) {y n : Prop} (p : Hold y) (q : Hold n) : gst e k want p q = gdd e (some (k, want)) y n False := by
  unfold gst gdd
  simp only
  rcases aget e k with _ | x
  · rfl
  · cases x with
    | b x => cases x <;> cases want <;> rfl
    | tup l => cases l <;> rfl
    | _ => rfl

theorem g_gd (o : SO) (k : Nat) (want : Bool) : gstep P ⟨d, o, some (k, want), []⟩ K e L T = gst e k want (Hold.mk (a := gstep P ⟨d, o, none, []⟩ K e L T)) (Hold.mk (a := K (eset e d (.tup [])) L T)) := by
  rw [gst_eq]
  have hm0 : ∀ {α : Type} (f : α → Prop) (y n z : α), f (gdd e (some (k, want)) y n z) = gdd e (some (k, want)) (f y) (f n) (f z) := fun f y n z => by
    unfold gdd
    simp only
    split <;> (try split) <;> rfl
  cases hk : o.kind with
  | val =>
    have e1 : ∀ gd, gstep P ⟨d, o, gd, []⟩ K e L T = vst (gvev o gd e L T) (Hold.mk (a := fun v => K (eset e d v) L T)) := fun gd => by unfold gstep; simp only [hk]; rfl
    rw [e1, e1]
    exact hm0 (fun x => vst x (Hold.mk (a := fun v => K (eset e d v) L T))) _ _ _
  | snil => unfold gstep; simp only [hk]; rfl
  | leff =>
    have e1 : ∀ gd, gstep P ⟨d, o, gd, []⟩ K e L T = (fun x : Option (Env × Loc) => match x with | some (e, l) => K e l T | none => False) (gdd e gd (lev o d e L) (some (eset e d (.tup []), L)) none) := fun gd => by unfold gstep; simp only [hk]; rfl
    rw [e1, e1]
    exact hm0 (fun x : Option (Env × Loc) => match x with | some (e, l) => K e l T | none => False) _ _ _
  | teff => unfold gstep; simp only [hk, rcOk, true_and]; rfl

theorem g_gdrc (o : SO) (ho : o.kind = .teff) (k : Nat) (want : Bool) : gstep P ⟨d, o, some (k, want), rc⟩ K e L T = gdd e (some (k, want)) (gstep P ⟨d, o, none, rc⟩ K e L T) (rcOk (eset e d (.tup [])) L T rc ∧ K (eset e d (.tup [])) L T) False := by
  unfold gstep
  simp only [ho, gdd]

theorem gdd_some (k : Nat) (want : Bool) (y n z : Prop) : gdd e (some (k, want)) y n z = match aget e k with
    | some (.b x) => if x = want then y else n
    | some (.tup []) => n
    | _ => z := rfl

/-- A loop, by its name. -/
theorem AW_loopD {l c : SC} (hl : l = .loop c) (hR : ExtR R) (h : AW P c (thenR (AW P l R) R) e L T) : AW P l R e L T := by
  subst hl; exact AW_loop hR h

/-! ### Calls -/
theorem frzv_nil (x : AV) : frzv T [] x = x := by
  have h1 : ∀ y, frz1 T [] y = y := fun y => by cases y <;> simp [frz1]
  have : (frz1 T []) = id := funext h1
  cases x <;> simp [frzv, h1, this]

theorem frzt_nil (x : AV) : frzt T [] x = x := by
  have : (frzv T []) = id := funext frzv_nil
  cases x <;> simp [frzt, frzv_nil, this]

theorem CallK.of {f : FuncId} {avs : List AV} {k : AV → Tab → Prop} {Q : AV → Tab → Prop} (h : ACalls P f avs T Q) (hk : ∀ v T', Q v T' → k v T') : CallK P f avs T k := by
  have : (frzv T []) = id := funext frzv_nil
  refine ⟨[], Q, List.nodup_nil, by simp, ?_, hk⟩
  rw [this, List.map_id]
  exact h

theorem CallK.pure {f : FuncId} {avs : List AV} {k : AV → Tab → Prop} {r : AV} (h : PCalls P f avs r) (hk : k r T) : CallK P f avs T k :=
  .of (h T) fun v T' h => by rw [h.1, h.2]; exact hk

theorem pcalls_of (hm : P.follows .mixedOrders = true) {f : FuncId} {n : Nat} {sc : SC} {rs : List SO} (ht : FnTxt P f n sc rs) {args : List AV} {r : AV} (hl : args.length ≤ n)
    (h : ∀ T, AW P sc (FinX rs fun v T' => v = r ∧ T' = T) (aenv 0 args) [] T) : PCalls P f args r := fun T => acalls_of hm ht hl (h T)

theorem Wk.refl (x : AV) : Wk x x := fun _ _ _ h => h
theorem Wk.trans {x y z : AV} (h : Wk x y) (k : Wk y z) : Wk x z := fun X w v hv => k X w v (h X w v hv)
theorem Wk.fz {n : Nat} {cells : List AV} {cap : Option Nat} : Wk (.fz n cells cap) (.fz n cells none) := fun X w v h => by
  simp only [vr] at h ⊢
  obtain ⟨us, h1, h2⟩ := h
  refine ⟨us, h1, ?_⟩
  rcases h2 with ⟨a, b, c, _⟩ | ⟨a, c, h3, h4, h5, _, h6⟩
  · exact .inl ⟨a, b, c, fun k hk => by cases hk⟩
  · exact .inr ⟨a, c, h3, h4, h5, (fun k hk => by cases hk), h6⟩
def Wks : List AV → List AV → Prop
  | [], [] => True
  | x :: l, y :: m => Wk x y ∧ Wks l m
  | _, _ => False
theorem Wks.vrs {X : Cx} {w : World} : ∀ {l m : List AV}, Wks l m → ∀ {us}, Aw.vrs X w l us → Aw.vrs X w m us
  | [], [], _, us, h => h
  | x :: l, y :: m, h, us, hv => by
    simp only [Aw.vrs] at hv ⊢
    obtain ⟨u, us', rfl, h2, h3⟩ := hv
    exact ⟨u, us', rfl, h.1 _ _ _ h2, Wks.vrs h.2 h3⟩
  | [], _ :: _, h, _, _ => h.elim
  | _ :: _, [], h, _, _ => h.elim
theorem Wks.refl : ∀ l, Wks l l
  | [] => trivial
  | x :: l => ⟨.refl x, Wks.refl l⟩
theorem Wk.agg {l m : List AV} (h : Wks l m) : Wk (.agg l) (.agg m) := fun X w v hv => by
  simp only [vr] at hv ⊢
  obtain ⟨us, h1, h2⟩ := hv
  exact ⟨us, h.vrs h1, h2⟩
theorem Wk.tup {l m : List AV} (h : Wks l m) : Wk (.tup l) (.tup m) := fun X w v hv => by
  simp only [vr] at hv ⊢
  obtain ⟨us, h1, h2⟩ := hv
  exact ⟨us, h.vrs h1, h2⟩

theorem FinR_eq (rs : List SO) (Q : AV → Tab → Prop) : FinR rs Q e L T = fin (resAvs rs e L T) Q T := rfl
theorem fin_some (l : List AV) (Q : AV → Tab → Prop) : fin (some l) Q T = finL (oneOr l) Q T := rfl
theorem oneOr_one (x : AV) : oneOr [x] = x := rfl
theorem oneOr_nil : oneOr [] = .tup [] := rfl
theorem oneOr_two (x y : AV) (l : List AV) : oneOr (x :: y :: l) = .tup (x :: y :: l) := rfl

/-- At the end: nothing is frozen, the table is as it was. -/
theorem finL_pure {r r' : AV} (hr : r' = r) : finL r' (fun v T' => v = r ∧ T' = T) T :=
  ⟨[], T, r, List.nodup_nil, by simp, fun _ => .inr (.inl rfl), by rw [frzt_nil, hr]; exact .refl r, rfl, rfl⟩

/-- At the end: what was made is forgotten. -/
theorem finL_of {r : AV} {Q : AV → Tab → Prop} (T' : Tab) (hT : ∀ id, SlotLe (T' id) (T id)) (hQ : Q r T') : finL r Q T :=
  ⟨[], T', r, List.nodup_nil, by simp, hT, by rw [frzt_nil]; exact .refl r, hQ⟩

theorem AW_cond (c : Operand) (a b : SC) : AW P (.cond c a b) R e L T = brO (opdV e c) (Hold.mk (a := AW P a R e L T)) (Hold.mk (a := AW P b R e L T)) := rfl
theorem gst_t (k : Nat) (y n : Prop) (p : Hold y) (q : Hold n) : gst e k true p q = gsO (aget e k) p q := rfl
theorem gst_f (k : Nat) (y n : Prop) (p : Hold y) (q : Hold n) : gst e k false p q = gsN (aget e k) p q := rfl

end

theorem pl_b {x : Bool} : AV.plain (.b x) = true := rfl
theorem lpq_b {x : Bool} : AV.isLp (.b x) = false := rfl
theorem one_b {x : Bool} : AV.isOne (.b x) = true := rfl
theorem sto_b {x : Bool} : AV.sto (.b x) = true := rfl
theorem cel_b {x : Bool} : AV.cells (.b x) = [(.b x)] := rfl
theorem off_b {x : Bool} (j : Nat) : AV.offLp j (.b x) = (.b x) := rfl
theorem pl_i {k : IntKind} {n : Int} : AV.plain (.i k n) = true := rfl
theorem lpq_i {k : IntKind} {n : Int} : AV.isLp (.i k n) = false := rfl
theorem one_i {k : IntKind} {n : Int} : AV.isOne (.i k n) = true := rfl
theorem sto_i {k : IntKind} {n : Int} : AV.sto (.i k n) = true := rfl
theorem cel_i {k : IntKind} {n : Int} : AV.cells (.i k n) = [(.i k n)] := rfl
theorem off_i {k : IntKind} {n : Int} (j : Nat) : AV.offLp j (.i k n) = (.i k n) := rfl
theorem pl_s {l : List UInt8} : AV.plain (.s l) = true := rfl
theorem lpq_s {l : List UInt8} : AV.isLp (.s l) = false := rfl
theorem one_s {l : List UInt8} : AV.isOne (.s l) = true := rfl
theorem sto_s {l : List UInt8} : AV.sto (.s l) = true := rfl
theorem cel_s {l : List UInt8} : AV.cells (.s l) = [(.s l)] := rfl
theorem off_s {l : List UInt8} (j : Nat) : AV.offLp j (.s l) = (.s l) := rfl
theorem pl_np  : AV.plain .nilptr = true := rfl
theorem lpq_np  : AV.isLp .nilptr = false := rfl
theorem one_np  : AV.isOne .nilptr = true := rfl
theorem sto_np  : AV.sto .nilptr = true := rfl
theorem cel_np  : AV.cells .nilptr = [.nilptr] := rfl
theorem off_np  (j : Nat) : AV.offLp j .nilptr = .nilptr := rfl
theorem pl_ptr {id o : Nat} : AV.plain (.ptr id o) = true := rfl
theorem lpq_ptr {id o : Nat} : AV.isLp (.ptr id o) = false := rfl
theorem one_ptr {id o : Nat} : AV.isOne (.ptr id o) = true := rfl
theorem sto_ptr {id o : Nat} : AV.sto (.ptr id o) = true := rfl
theorem cel_ptr {id o : Nat} : AV.cells (.ptr id o) = [(.ptr id o)] := rfl
theorem off_ptr {id o : Nat} (j : Nat) : AV.offLp j (.ptr id o) = (.ptr id o) := rfl
theorem pl_fp {c : List AV} : AV.plain (.fptr c) = true := rfl
theorem lpq_fp {c : List AV} : AV.isLp (.fptr c) = false := rfl
theorem one_fp {c : List AV} : AV.isOne (.fptr c) = true := rfl
theorem sto_fp {c : List AV} : AV.sto (.fptr c) = true := rfl
theorem cel_fp {c : List AV} : AV.cells (.fptr c) = [(.fptr c)] := rfl
theorem off_fp {c : List AV} (j : Nat) : AV.offLp j (.fptr c) = (.fptr c) := rfl
theorem pl_fz {n : Nat} {c : List AV} {k : Option Nat} : AV.plain (.fz n c k) = true := rfl
theorem lpq_fz {n : Nat} {c : List AV} {k : Option Nat} : AV.isLp (.fz n c k) = false := rfl
theorem one_fz {n : Nat} {c : List AV} {k : Option Nat} : AV.isOne (.fz n c k) = true := rfl
theorem sto_fz {n : Nat} {c : List AV} {k : Option Nat} : AV.sto (.fz n c k) = true := rfl
theorem cel_fz {n : Nat} {c : List AV} {k : Option Nat} : AV.cells (.fz n c k) = [(.fz n c k)] := rfl
theorem off_fz {n : Nat} {c : List AV} {k : Option Nat} (j : Nat) : AV.offLp j (.fz n c k) = (.fz n c k) := rfl
theorem pl_sl {id o n : Nat} {k : Option Nat} : AV.plain (.sl id o n k) = true := rfl
theorem lpq_sl {id o n : Nat} {k : Option Nat} : AV.isLp (.sl id o n k) = false := rfl
theorem one_sl {id o n : Nat} {k : Option Nat} : AV.isOne (.sl id o n k) = true := rfl
theorem sto_sl {id o n : Nat} {k : Option Nat} : AV.sto (.sl id o n k) = true := rfl
theorem cel_sl {id o n : Nat} {k : Option Nat} : AV.cells (.sl id o n k) = [(.sl id o n k)] := rfl
theorem off_sl {id o n : Nat} {k : Option Nat} (j : Nat) : AV.offLp j (.sl id o n k) = (.sl id o n k) := rfl
theorem pl_nm  : AV.plain .nilmap = true := rfl
theorem lpq_nm  : AV.isLp .nilmap = false := rfl
theorem one_nm  : AV.isOne .nilmap = true := rfl
theorem sto_nm  : AV.sto .nilmap = true := rfl
theorem cel_nm  : AV.cells .nilmap = [.nilmap] := rfl
theorem off_nm  (j : Nat) : AV.offLp j .nilmap = .nilmap := rfl
theorem pl_mp {id : Nat} : AV.plain (.mp id) = true := rfl
theorem lpq_mp {id : Nat} : AV.isLp (.mp id) = false := rfl
theorem one_mp {id : Nat} : AV.isOne (.mp id) = true := rfl
theorem sto_mp {id : Nat} : AV.sto (.mp id) = true := rfl
theorem cel_mp {id : Nat} : AV.cells (.mp id) = [(.mp id)] := rfl
theorem off_mp {id : Nat} (j : Nat) : AV.offLp j (.mp id) = (.mp id) := rfl
theorem pl_fn {f : Fn} {a b : List AV} : AV.plain (.fn f a b) = true := rfl
theorem lpq_fn {f : Fn} {a b : List AV} : AV.isLp (.fn f a b) = false := rfl
theorem one_fn {f : Fn} {a b : List AV} : AV.isOne (.fn f a b) = true := rfl
theorem sto_fn {f : Fn} {a b : List AV} : AV.sto (.fn f a b) = true := rfl
theorem cel_fn {f : Fn} {a b : List AV} : AV.cells (.fn f a b) = [(.fn f a b)] := rfl
theorem off_fn {f : Fn} {a b : List AV} (j : Nat) : AV.offLp j (.fn f a b) = (.fn f a b) := rfl
theorem pl_nf  : AV.plain .nilfn = true := rfl
theorem lpq_nf  : AV.isLp .nilfn = false := rfl
theorem one_nf  : AV.isOne .nilfn = true := rfl
theorem sto_nf  : AV.sto .nilfn = true := rfl
theorem cel_nf  : AV.cells .nilfn = [.nilfn] := rfl
theorem off_nf  (j : Nat) : AV.offLp j .nilfn = .nilfn := rfl
theorem pl_if {t : TypeId} {x : AV} : AV.plain (.ifc t x) = true := rfl
theorem lpq_if {t : TypeId} {x : AV} : AV.isLp (.ifc t x) = false := rfl
theorem one_if {t : TypeId} {x : AV} : AV.isOne (.ifc t x) = true := rfl
theorem sto_if {t : TypeId} {x : AV} : AV.sto (.ifc t x) = true := rfl
theorem cel_if {t : TypeId} {x : AV} : AV.cells (.ifc t x) = [(.ifc t x)] := rfl
theorem off_if {t : TypeId} {x : AV} (j : Nat) : AV.offLp j (.ifc t x) = (.ifc t x) := rfl
theorem pl_ni  : AV.plain .nilifc = true := rfl
theorem lpq_ni  : AV.isLp .nilifc = false := rfl
theorem one_ni  : AV.isOne .nilifc = true := rfl
theorem sto_ni  : AV.sto .nilifc = true := rfl
theorem cel_ni  : AV.cells .nilifc = [.nilifc] := rfl
theorem off_ni  (j : Nat) : AV.offLp j .nilifc = .nilifc := rfl
theorem pl_ag {l : List AV} : AV.plain (.agg l) = true := rfl
theorem lpq_ag {l : List AV} : AV.isLp (.agg l) = false := rfl
theorem one_ag {l : List AV} : AV.isOne (.agg l) = false := rfl
theorem sto_ag {l : List AV} : AV.sto (.agg l) = true := rfl
theorem cel_ag {l : List AV} : AV.cells (.agg l) = l := rfl
theorem off_ag {l : List AV} (j : Nat) : AV.offLp j (.agg l) = (.agg l) := rfl
theorem pl_tp {l : List AV} : AV.plain (.tup l) = true := rfl
theorem lpq_tp {l : List AV} : AV.isLp (.tup l) = false := rfl
theorem one_tp {l : List AV} : AV.isOne (.tup l) = false := rfl
theorem sto_tp {l : List AV} : AV.sto (.tup l) = false := rfl
theorem cel_tp {l : List AV} : AV.cells (.tup l) = [(.tup l)] := rfl
theorem off_tp {l : List AV} (j : Nat) : AV.offLp j (.tup l) = (.tup l) := rfl
theorem pl_lp {l o : Nat} : AV.plain (.lp l o) = false := rfl
theorem lpq_lp {l o : Nat} : AV.isLp (.lp l o) = true := rfl
theorem one_lp {l o : Nat} : AV.isOne (.lp l o) = false := rfl
theorem sto_lp {l o : Nat} : AV.sto (.lp l o) = false := rfl
theorem cel_lp {l o : Nat} : AV.cells (.lp l o) = [(.lp l o)] := rfl
theorem off_lp {l o : Nat} (j : Nat) : AV.offLp j (.lp l o) = if l = j then .any else .lp l o := rfl
theorem pl_rw {v : Value} : AV.plain (.raw v) = true := rfl
theorem lpq_rw {v : Value} : AV.isLp (.raw v) = false := rfl
theorem one_rw {v : Value} : AV.isOne (.raw v) = true := rfl
theorem sto_rw {v : Value} : AV.sto (.raw v) = true := rfl
theorem cel_rw {v : Value} : AV.cells (.raw v) = [(.raw v)] := rfl
theorem off_rw {v : Value} (j : Nat) : AV.offLp j (.raw v) = (.raw v) := rfl

attribute [irreducible] vst br brO gsO gsN vs2 snl calS calV hbS stS apS clS CallK aft
attribute [go_sem ↓] AW_skip AW_ops AW_seq AW_cond AW_block AW_exit AW_ret AW_keep thenR_normal thenR_exit thenR_ret blkR_normal blkR_exit blkR_ret FinX_normal FinX_ret opsG_nil opsG_cons g_mv g_pick g_bin g_eq g_snil g_un g_cvi g_b2s g_s2b g_cvs g_ifc g_mkfn g_slc g_slcs g_fadr g_fld g_iadr g_idxs g_idxa g_cap g_bad g_mksl g_hbs g_cvm g_apz g_mkm g_lku g_mup hbsS_some g_ext g_len g_mnx g_nilck g_bld g_bsl g_ld g_lld g_fbox g_lst g_lalloc g_lbox g_callv g_halloc g_hbox g_st g_app g_gd gst_t gst_f FinR_eq g_clr
attribute [go_sem] eset_some eset_none vst_some aenv aget aset keepL dropLp opdV opd opdL opdVs optOpd cav pickAv binAv binInt binShift binStr unAv eqAv wrapAv fadrAv iadrAv fldAv idxAv capAv extAv lenAv mnxAv nilckAv bldAv setAll ldAv lldAv ldCells plainO stCells slcAv slcStr idxStr bnd slCells bytesAv byteAv snl_sl Option.bind_some Option.bind_none Option.map_some Option.map_none List.getElem?_cons_zero List.getElem?_cons_succ List.getElem?_nil List.drop_zero List.drop_succ_cons List.take_zero List.take_succ_cons List.drop_nil List.take_nil List.length_cons List.length_nil List.set_cons_zero List.set_cons_succ List.append_nil List.nil_append List.cons_append if_true if_false ite_true ite_false and_true true_and and_self Bool.not_true Bool.not_false Bool.false_eq_true decide_true decide_false fin_some oneOr_one oneOr_two oneOr_nil resAvs vev pev br_true br_false Nat.zero_mul Nat.sub_zero Nat.mul_one Nat.zero_add Nat.add_zero brO_b gsO_b gsO_t gsN_b gsN_t vs2_some calS_some hbS_some apS_some pl_b lpq_b one_b sto_b cel_b off_b pl_i lpq_i one_i sto_i cel_i off_i pl_s lpq_s one_s sto_s cel_s off_s pl_np lpq_np one_np sto_np cel_np off_np pl_ptr lpq_ptr one_ptr sto_ptr cel_ptr off_ptr pl_fp lpq_fp one_fp sto_fp cel_fp off_fp pl_fz lpq_fz one_fz sto_fz cel_fz off_fz pl_sl lpq_sl one_sl sto_sl cel_sl off_sl pl_nm lpq_nm one_nm sto_nm cel_nm off_nm pl_mp lpq_mp one_mp sto_mp cel_mp off_mp pl_fn lpq_fn one_fn sto_fn cel_fn off_fn pl_nf lpq_nf one_nf sto_nf cel_nf off_nf pl_if lpq_if one_if sto_if cel_if off_if pl_ni lpq_ni one_ni sto_ni cel_ni off_ni pl_ag lpq_ag one_ag sto_ag cel_ag off_ag pl_tp lpq_tp one_tp sto_tp cel_tp off_tp pl_lp lpq_lp one_lp sto_lp cel_lp off_lp pl_rw lpq_rw one_rw sto_rw cel_rw off_rw
end Go.Aw
