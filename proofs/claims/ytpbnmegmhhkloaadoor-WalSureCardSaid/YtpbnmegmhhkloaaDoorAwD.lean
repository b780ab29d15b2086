import Derived.Test.YtpbnmegmhhkloaaDoorAwC
import Derived.IntWalk
import Derived.ProofKit
import Derived.OpenShut
namespace Go.Aw
open Go
set_option linter.all false
variable [Glob]
section
variable {P : Program} {R : Z1} {K : Env -> Loc -> Tab -> Prop} {e : Env} {L : Loc} {T : Tab}
theorem qnl : AW P .skip R e L T = R .normal e L T := rfl
theorem qpk (l : List SOp) : AW P (.ops l) R e L T = qcx P l (R .normal) e L T := rfl
theorem qpl (a b : SC) : AW P (.seq a b) R e L T = AW P a (q34 (AW P b R) R) e L T := rfl
theorem qlg (id : Nat) (c : SC) : AW P (.block id c) R e L T = AW P c (qhi id R) e L T := rfl
theorem qnm (id : Nat) : AW P (.exit id) R e L T = R (.exit id) e L T := rfl
theorem qpm : AW P .ret R e L T = R .ret e L T := rfl
theorem qnn (ts ls : List Nat) : AW P (.keep ts ls) R e L T = R .normal (q3y ts e) (q3y ls L) T := rfl
theorem qd5 : q34 K R .normal = K := rfl
theorem qgk (id : Nat) : q34 K R (.exit id) = R (.exit id) := rfl
theorem qim : q34 K R .ret = R .ret := rfl
theorem qe6 (id : Nat) : qhi id R .normal = R .normal := rfl
theorem qin (id id' : Nat) : qhi id R (.exit id') = if id' = id then R .normal else R (.exit id') := rfl
theorem qlh (id : Nat) : qhi id R .ret = R .ret := rfl
theorem qe7 (rs : List SO) (Q : AV -> Tab -> Prop) : qpj rs Q .normal = ql3 rs Q := rfl
theorem qli (rs : List SO) (Q : AV -> Tab -> Prop) : qpj rs Q .ret = ql3 rs Q := rfl
theorem qlj : qcx P [] K e L T = K e L T := rfl
theorem qio (o : SOp) (l : List SOp) : qcx P (o :: l) K e L T = K4 P o (qcx P l K) e L T := rfl
theorem qip (d : Nat) (x : AV) : N5 e (some d) x = q1v e d x := rfl
theorem qiq (x : AV) : N5 e none x = e := rfl
variable {d : Option Nat} {rc : RC}
inductive Hold.{u} {α : Sort u} (a : α) : Type
 | mk
def vst (x : Option AV) {K : AV -> Prop} (_ : Hold K) : Prop :=
 match x with
 | some x => K x
 | none => False
def gzS (e : Env) (L : Loc) (T : Tab) {K : Env -> Loc -> Tab -> Prop} (_ : Hold K) : Prop := ∃ (S : List Nat) (T' : Tab) (E' : Env), S.Nodup /\ (∀ id ∈ S, T id ≠ .unused) /\ (∀ j, qfe T S (T' j) (q75 T S j)) /\ qgh T S e E' /\ K E' L T'
theorem qpn : AW P .gfz R e L T = gzS e L T (Hold.mk (a := R .normal)) := rfl
theorem qn0 {K : Env -> Loc -> Tab -> Prop} {h : Hold K} (S : List Nat) (h1 : S.Nodup) (h2 : ∀ id ∈ S, T id ≠ .unused) (h3 : K (frE T S e) L (q75 T S)) : gzS e L T h := ⟨S, _, _, h1, h2, fun _ => .inl rfl, qik, h3⟩
theorem qir {K : Env -> Loc -> Tab -> Prop} {h : Hold K} (S : List Nat) (E' : Env) (h1 : S.Nodup) (h2 : ∀ id ∈ S, T id ≠ .unused) (h4 : qgh T S e E') (h3 : K E' L (q75 T S)) : gzS e L T h := ⟨S, _, E', h1, h2, fun _ => .inl rfl, h4, h3⟩
theorem qlk (x : AV) (K : AV -> Prop) (h : Hold K) : vst (some x) h = K x := rfl
def br (x : Bool) {a b : Prop} (_ : Hold a) (_ : Hold b) : Prop := if x = true then a else b
theorem qno (a b : Prop) (p : Hold a) (q : Hold b) : br true p q = a := rfl
theorem qll (a b : Prop) (p : Hold a) (q : Hold b) : br false p q = b := rfl
theorem V6 {x : Bool} {a b : Prop} {p : Hold a} {q : Hold b} (ha : x = true -> a) (hb : x = false -> b) : br x p q := by
 cases x
 ·exact hb rfl
 ·exact ha rfl
def snl (neg : Bool) (x : Option AV) {K : AV -> Prop} (_ : Hold K) : Prop := q32 neg x K
theorem qpo (neg : Bool) (id o n : Nat) (cap : Option Nat) (K : AV -> Prop) (h : Hold K) : snl neg (some (.sl id o n cap)) h = K (.b neg) := rfl
theorem qis (neg : Bool) (n : Nat) (c : List AV) (cap : Option Nat) (K : AV -> Prop) (h : Hold K) : snl neg (some (.fz n c cap)) h = if 0 < n then K (.b neg) else ∀ b, K (.b b) := rfl
def brO (x : Option AV) {a b : Prop} (p : Hold a) (q : Hold b) : Prop :=
 match x with
 | some (.b x) => br x p q
 | _ => False
theorem qtc (x : Bool) (a b : Prop) (p : Hold a) (q : Hold b) : brO (some (.b x)) p q = br x p q := rfl
def gsO (x : Option AV) {a b : Prop} (p : Hold a) (q : Hold b) : Prop :=
 match x with
 | some (.b x) => br x p q
 | some (.tup []) => b
 | _ => False
theorem qtd (x : Bool) (a b : Prop) (p : Hold a) (q : Hold b) : gsO (some (.b x)) p q = br x p q := rfl
theorem qte (a b : Prop) (p : Hold a) (q : Hold b) : gsO (some (.tup [])) p q = b := rfl
def gsN (x : Option AV) {a b : Prop} (p : Hold a) (q : Hold b) : Prop :=
 match x with
 | some (.b x) => br x q p
 | some (.tup []) => b
 | _ => False
theorem qtf (x : Bool) (a b : Prop) (p : Hold a) (q : Hold b) : gsN (some (.b x)) p q = br x q p := rfl
theorem qtg (a b : Prop) (p : Hold a) (q : Hold b) : gsN (some (.tup [])) p q = b := rfl
def vs2 (x : Option (Env × Loc)) {K : Env -> Loc -> Prop} (_ : Hold K) : Prop :=
 match x with
 | some (e, l) => K e l
 | none => False
theorem qlm (e : Env) (l : Loc) (K : Env -> Loc -> Prop) (h : Hold K) : vs2 (some (e, l)) h = K e l := rfl
def gst (e : Env) (k : Nat) (want : Bool) {y n : Prop} (p : Hold y) (q : Hold n) : Prop :=
 match O7 e k with
 | some (.b x) => if want then br x p q else br x q p
 | some (.tup []) => n
 | _ => False
theorem qvs (x) : K4 P ⟨d, .mv x, none, rc⟩ K e L T = vst (K5 e x) (Hold.mk (a := fun v => K (N5 e d v) L T)) := rfl
theorem qpp (c x y) : K4 P ⟨d, .pick c x y, none, rc⟩ K e L T = vst ((K5 e c).bind fun c => qcw c (K5 e x) (K5 e y)) (Hold.mk (a := fun v => K (N5 e d v) L T)) := rfl
theorem qth (o x y) : K4 P ⟨d, .bin o x y, none, rc⟩ K e L T = vst ((K5 e x).bind fun x => (K5 e y).bind fun y => qdr o x y) (Hold.mk (a := fun v => K (N5 e d v) L T)) := rfl
theorem qvt (o k x y) : K4 P ⟨d, .eq o k x y, none, rc⟩ K e L T = vst ((K5 e x).bind fun x => (K5 e y).bind fun y => (q7p k x y).map fun r => .b (if o then !r else r)) (Hold.mk (a := fun v => K (N5 e d v) L T)) := rfl
theorem qpq (neg x) : K4 P ⟨d, .snil neg x, none, rc⟩ K e L T = snl neg (K5 e x) (Hold.mk (a := fun v => K (N5 e d v) L T)) := rfl
theorem qvu (o x) : K4 P ⟨d, .un o x, none, rc⟩ K e L T = vst ((K5 e x).bind (qp8 o)) (Hold.mk (a := fun v => K (N5 e d v) L T)) := rfl
theorem qti (k x) : K4 P ⟨d, .cvi k x, none, rc⟩ K e L T = vst ((K5 e x).bind (qaq k)) (Hold.mk (a := fun v => K (N5 e d v) L T)) := rfl
theorem qtj (x) : K4 P ⟨d, .b2s x, none, rc⟩ K e L T = vst ((K5 e x).bind fun x => (N1 T 1 x).bind fun c => match x with
   | .s _ => none
   | _ => (q0v c).map .s) (Hold.mk (a := fun v => K (N5 e d v) L T)) := rfl
theorem qtk (x) : K4 P ⟨d, .s2b x, none, rc⟩ K e L T = vst ((K5 e x).bind fun x => match x with
  | .s l => some (.fz l.length (J1 l) none)
  | _ => none) (Hold.mk (a := fun v => K (N5 e d v) L T)) := rfl
theorem qtl (x) : K4 P ⟨d, .cvs x, none, rc⟩ K e L T = vst ((K5 e x).bind fun x => match x with
   | .s l => some (.s l)
   | _ => none) (Hold.mk (a := fun v => K (N5 e d v) L T)) := rfl
theorem qtm (t x) : K4 P ⟨d, .ifc t x, none, rc⟩ K e L T = vst ((K5 e x).map (.ifc t)) (Hold.mk (a := fun v => K (N5 e d v) L T)) := rfl
theorem qpr (f a c) : K4 P ⟨d, .mkfn f a c, none, rc⟩ K e L T = vst ((q1j e a).bind fun a => (q1j e c).map fun b => .fn f a b) (Hold.mk (a := fun v => K (N5 e d v) L T)) := rfl
theorem qtn (z x lo hi mx) : K4 P ⟨d, .slc z x lo hi mx, none, rc⟩ K e L T = vst ((K5 e x).bind fun x => (q01 e lo).bind fun lo => (q01 e hi).bind fun hi => (q01 e mx).bind fun mx => qdv z T lo hi mx x) (Hold.mk (a := fun v => K (N5 e d v) L T)) := rfl
theorem qps (x lo hi) : K4 P ⟨d, .slcs x lo hi, none, rc⟩ K e L T = vst ((K5 e x).bind fun x => (q01 e lo).bind fun lo => (q01 e hi).bind fun hi => q8w lo hi x) (Hold.mk (a := fun v => K (N5 e d v) L T)) := rfl
theorem qpt (l o x) : K4 P ⟨d, .fadr l o x, none, rc⟩ K e L T = vst ((q87 e l x).bind (q8u o)) (Hold.mk (a := fun v => K (N5 e d v) L T)) := rfl
theorem qto (o z x) : K4 P ⟨d, .fld o z x, none, rc⟩ K e L T = vst ((K5 e x).bind (qg0 o z)) (Hold.mk (a := fun v => K (N5 e d v) L T)) := rfl
theorem qpu (l z a x i) : K4 P ⟨d, .iadr l z a x i, none, rc⟩ K e L T = vst ((q87 e l x).bind fun x => (K5 e i).bind fun i => q8v z a i x) (Hold.mk (a := fun v => K (N5 e d v) L T)) := rfl
theorem qpv (x i) : K4 P ⟨d, .idxs x i, none, rc⟩ K e L T = vst ((K5 e x).bind fun x => (K5 e i).bind fun i => qam i x) (Hold.mk (a := fun v => K (N5 e d v) L T)) := rfl
theorem qtp (i x) : K4 P ⟨d, .ext i x, none, rc⟩ K e L T = vst ((K5 e x).bind (qg1 i)) (Hold.mk (a := fun v => K (N5 e d v) L T)) := rfl
theorem qtq (s x) : K4 P ⟨d, .len s x, none, rc⟩ K e L T = vst ((K5 e x).bind (q50 s)) (Hold.mk (a := fun v => K (N5 e d v) L T)) := rfl
theorem qpw (z l n x i) : K4 P ⟨d, .idxa z l n x i, none, rc⟩ K e L T = vst ((K5 e x).bind fun x => (K5 e i).bind fun i => qg2 z l n i x) (Hold.mk (a := fun v => K (N5 e d v) L T)) := rfl
theorem qtr (x) : K4 P ⟨d, .cap x, none, rc⟩ K e L T = vst ((K5 e x).bind qg3) (Hold.mk (a := fun v => K (N5 e d v) L T)) := rfl
theorem qts : K4 P ⟨d, .bad, none, rc⟩ K e L T = False := rfl
def mkS (z b : Nat) (zero : List AV) (x y : Option AV) (T : Tab) {k : AV -> Tab -> Prop} (_ : Hold k) : Prop :=
 match x, y with
 | some (.i _ j), some (.i _ q) => 0 <= j /\ j <= q /\ q.toNat * b <= 140737488355328 /\ q <= 9223372036854775807 /\ ∀ id, T id = .unused -> k (.sl id 0 j.toNat none) (T.put id (.row z (rep zero q.toNat)))
 | _, _ => False
theorem qtt (m x y) : K4 P ⟨d, .mnx m x y, none, rc⟩ K e L T = vst ((K5 e x).bind fun x => (K5 e y).bind fun y => qdw m x y) (Hold.mk (a := fun v => K (N5 e d v) L T)) := rfl
theorem qnp (l x) : K4 P ⟨d, .nilck l x, none, rc⟩ K e L T = vst ((q87 e l x).bind q76) (Hold.mk (a := fun v => K (N5 e d v) L T)) := rfl
theorem qtu (z ps) : K4 P ⟨d, .bld z ps, none, rc⟩ K e L T = vst ((q1w e z ps).map .agg) (Hold.mk (a := fun v => K (N5 e d v) L T)) := rfl
theorem qtv (n q z ps) : K4 P ⟨d, .bsl n q z ps, none, rc⟩ K e L T = vst ((q1w e z ps).map fun cells => .fz n cells (some n)) (Hold.mk (a := fun v => K (N5 e d v) L T)) := rfl
theorem qvv (z x) : K4 P ⟨d, .ld z x, none, rc⟩ K e L T = vst ((K5 e x).bind (qp9 z T)) (Hold.mk (a := fun v => K (N5 e d v) L T)) := rfl
theorem qtw (l z x) : K4 P ⟨d, .lld l z x, none, rc⟩ K e L T = vst ((q87 e (some l) x).bind (qdu l z L)) (Hold.mk (a := fun v => K (N5 e d v) L T)) := rfl
theorem qpx (x) : K4 P ⟨d, .fbox x, none, rc⟩ K e L T = vst ((K5 e x).bind fun v => if v.sto = true then some (.fptr v.cells) else none) (Hold.mk (a := fun v => K (N5 e d v) L T)) := rfl
theorem qtx (l z x v) : K4 P ⟨d, .lst l z x v, none, rc⟩ K e L T = vs2 ((q87 e (some l) x).bind fun p => (K5 e v).bind fun y => match p with
  | .lp _ o => (O7 L l).bind fun cells => if y.sto = true /\ y.cells.length = z /\ o + z <= cells.length then some (N5 e d (.tup []), q1v L l (N0 cells o y.cells)) else none
  | _ => none) (Hold.mk (a := fun e l => K e l T)) := rfl
theorem qln (k : Nat) (z) : K4 P ⟨some k, .lalloc z, none, rc⟩ K e L T = K (q1v (U6 e k) k (.lp k 0)) (q1v L k z) T := rfl
theorem qpy (k : Nat) (x) : K4 P ⟨some k, .lbox x, none, rc⟩ K e L T = vs2 ((K5 e x).bind fun v => if v.sto = true then some (q1v (U6 e k) k (.lp k 0), q1v L k v.cells) else none) (Hold.mk (a := fun e l => K e l T)) := rfl
def CallK (P : Program) (f : FuncId) (avs : List AV) (T : Tab) (k : AV -> Tab -> Prop) : Prop :=
 ∃ S R, S.Nodup /\ (∀ id ∈ S, T id ≠ .unused) /\ ACalls P f (avs.map (q65 T S)) (q75 T S) R /\ ∀ v T', R v T' -> k v T'
def aft (K : Env -> Loc -> Tab -> Prop) (e : Env) (L : Loc) (d : Option Nat) (rc : RC) : AV -> Tab -> Prop := fun v T' => v.isLp = false -> q31 (N5 e d v) L T' rc /\ K (N5 e d v) L T'
def qty (P : Program) (f : FuncId) (avs : Option (List AV)) (T : Tab) {k : AV -> Tab -> Prop} (_ : Hold k) : Prop :=
 match avs with
 | some avs => CallK P f avs T k
 | none => False
theorem qit (f : FuncId) (avs : List AV) (k : AV -> Tab -> Prop) (h : Hold k) : qty P f (some avs) T h = CallK P f avs T k := rfl
def qvk (P : Program) (x : Option AV) (avs : Option (List AV)) (T : Tab) {k : AV -> Tab -> Prop} (_ : Hold k) : Prop :=
 match x, avs with
 | some (.fn (.func f) first cap), some avs => J4 P f = true /\ CallK P f (first ++ avs ++ cap) T k
 | _, _ => False
theorem J2 (f args) (hc : J4 P f = true) : K4 P ⟨d, .call f args, none, rc⟩ K e L T = qty P f (q1j e args) T (Hold.mk (a := aft K e L d rc)) := by
 have : K4 P ⟨d, .call f args, none, rc⟩ K e L T = (J4 P f = true /\ match q1j e args with
  | some avs => CallK P f avs T (aft K e L d rc)
  | none => False) := rfl
 rw [this]; simp only [hc, true_and]; rfl
theorem qnq (x args) : K4 P ⟨d, .callv x args, none, rc⟩ K e L T = qvk P (K5 e x) (q1j e args) T (Hold.mk (a := aft K e L d rc)) := rfl
theorem qlo (z c) : K4 P ⟨d, .halloc z c, none, rc⟩ K e L T = ∀ id, T id = .unused -> aft K e L d rc (.ptr id 0) (T.put id (.row z c)) := rfl
def hbS (z : Nat) (x : Option AV) (T : Tab) {k : AV -> Tab -> Prop} (_ : Hold k) : Prop :=
 match x with
 | some v => v.sto = true /\ ∀ id, T id = .unused -> k (.ptr id 0) (T.put id (.row z v.cells))
 | none => False
theorem qlp (z : Nat) (v : AV) (k : AV -> Tab -> Prop) (h : Hold k) (hv : v.sto = true) : hbS z (some v) T h = ∀ id, T id = .unused -> k (.ptr id 0) (T.put id (.row z v.cells)) := by simp [hbS, hv]
theorem qpz (z x) : K4 P ⟨d, .hbox z x, none, rc⟩ K e L T = hbS z (K5 e x) T (Hold.mk (a := aft K e L d rc)) := rfl
def stS (z : Nat) (x y : Option AV) (T : Tab) {k : AV -> Tab -> Prop} (_ : Hold k) : Prop :=
 match x, y with
 | some (.ptr id o), some y => match T id with
  | .row q cells => y.sto = true /\ y.cells.length = z /\ o + z <= cells.length /\ k (.tup []) (T.put id (.row q (N0 cells o y.cells)))
  | _ => False
 | _, _ => False
theorem O6 {z id o q : Nat} {y : AV} {cells : List AV} {k : AV -> Tab -> Prop} {h : Hold k} (hT : T id = .row q cells) (h1 : y.sto = true) (h2 : y.cells.length = z) (h3 : o + z <= cells.length)
  (hk : k (.tup []) (T.put id (.row q (N0 cells o y.cells)))) : stS z (some (.ptr id o)) (some y) T h := by
 unfold stS; simp only [hT]; exact ⟨h1, h2, h3, hk⟩
theorem qvw (z x v) : K4 P ⟨d, .st z x v, none, rc⟩ K e L T = stS z (K5 e x) (K5 e v) T (Hold.mk (a := aft K e L d rc)) := rfl
def apS (z b : Nat) (x y : Option AV) (T : Tab) {k : AV -> Tab -> Prop} (_ : Hold k) : Prop :=
 match x, y with
 | some x, some y => Z0 z b T x y k
 | _, _ => False
theorem qlq (z b : Nat) (x y : AV) (k : AV -> Tab -> Prop) (h : Hold k) : apS z b (some x) (some y) T h = Z0 z b T x y k := rfl
theorem qtz (z b x y) : K4 P ⟨d, .app z b x y, none, rc⟩ K e L T = apS z b (K5 e x) (K5 e y) T (Hold.mk (a := aft K e L d rc)) := rfl
def clS (z : Nat) (zero : List AV) (x : Option AV) (T : Tab) {k : AV -> Tab -> Prop} (_ : Hold k) : Prop :=
 match x with
 | some (.fz 0 _ _) => k (.tup []) T
 | some (.sl id o n _) => match T id with
  | .row q cells => q = z /\ zero.length = z /\ o + n * z <= cells.length /\ k (.tup []) (T.put id (.row q (N0 cells o (rep zero n))))
  | _ => False
 | _ => False
theorem qu0 (z zero x) : K4 P ⟨d, .clr z zero x, none, rc⟩ K e L T = clS z zero (K5 e x) T (Hold.mk (a := aft K e L d rc)) := rfl
def qvl (n z : Nat) (x : Option (List AV)) (T : Tab) {k : AV -> Tab -> Prop} (_ : Hold k) : Prop :=
 match x with
 | some cells => ∀ id, T id = .unused -> k (.sl id 0 n (some n)) (T.put id (.row z cells))
 | none => False
theorem qiu (n z : Nat) (cells : List AV) (k : AV -> Tab -> Prop) (h : Hold k) : qvl n z (some cells) T h = ∀ id, T id = .unused -> k (.sl id 0 n (some n)) (T.put id (.row z cells)) := rfl
theorem qu1 (n z zero ps) : K4 P ⟨d, .hbs n z zero ps, none, rc⟩ K e L T = qvl n z (q1w e zero ps) T (Hold.mk (a := aft K e L d rc)) := rfl
def qu2 (x : Option AV) (T : Tab) {k : AV -> Tab -> Prop} (_ : Hold k) : Prop :=
 match x with
 | some (.sl id o n cap) => match T id with
  | .row z cells => z = 1 /\ o + n <= cells.length /\ k (.fz n ((cells.drop o).take n) cap) (T.put id .unused)
  | _ => False
 | _ => False
theorem qfg {id o n : Nat} {cells : List AV} {cap : Option Nat} {k : AV -> Tab -> Prop} {h : Hold k} (hT : T id = .row 1 cells) (h2 : o + n <= cells.length)
  (hk : k (.fz n ((cells.drop o).take n) cap) (T.put id .unused)) : qu2 (some (.sl id o n cap)) T h := by
 unfold qu2; simp only [hT]; exact ⟨trivial, h2, hk⟩
theorem qu3 (x) : K4 P ⟨d, .cvm x, none, rc⟩ K e L T = qu2 (K5 e x) T (Hold.mk (a := aft K e L d rc)) := rfl
def qvm (z b : Nat) (zero : List AV) (x y : Option AV) (T : Tab) {k : AV -> Tab -> Prop} (_ : Hold k) : Prop :=
 match x, y with
 | some (.fz 0 [] (some 0)), some (.i _ q) => 0 < q /\ q.toNat * b <= 140737488355328 /\ q <= 9223372036854775807 /\ ∀ id, T id = .unused -> k (.sl id 0 q.toNat none) (T.put id (.row z (rep zero q.toNat)))
 | _, _ => False
theorem qnr {z b : Nat} {zero : List AV} {k2 : IntKind} {q : Int} {k : AV -> Tab -> Prop} {h : Hold k} (h2 : 0 < q) (h3 : q.toNat * b <= 140737488355328) (h4 : q <= 9223372036854775807)
  (hk : ∀ id, T id = .unused -> k (.sl id 0 q.toNat none) (T.put id (.row z (rep zero q.toNat)))) : qvm z b zero (some (.fz 0 [] (some 0))) (some (.i k2 q)) T h := ⟨h2, h3, h4, hk⟩
theorem qu4 (z b zero x y) : K4 P ⟨d, .apz z b zero x y, none, rc⟩ K e L T = qvm z b zero (K5 e x) (K5 e y) T (Hold.mk (a := aft K e L d rc)) := rfl
theorem qu5 : K4 P ⟨d, .mkm, none, rc⟩ K e L T = ∀ id, T id = .unused -> aft K e L d rc (.mp id) (T.put id (.mapo [])) := rfl
def qvx (m : MK) (ok : Bool) (zero : AV) (x y : Option AV) (T : Tab) {k : AV -> Tab -> Prop} (_ : Hold k) : Prop :=
 match x, y with
 | some (.mp id), some kv => match T id with
  | .mapo es => G2 m kv = true /\ match qg7 m kv es with
   | some (some v) => k (if ok then .tup [v, .b true] else v) T
   | some none => k (if ok then .tup [zero, .b false] else zero) T
   | none => False
  | _ => False
 | _, _ => False
theorem qu6 (m ok zero x y) : K4 P ⟨d, .lku m ok zero x y, none, rc⟩ K e L T = qvx m ok zero (K5 e x) (K5 e y) T (Hold.mk (a := aft K e L d rc)) := rfl
def qvy (m : MK) (x y z : Option AV) (T : Tab) {k : AV -> Tab -> Prop} (_ : Hold k) : Prop :=
 match x, y, z with
 | some (.mp id), some kv, some y => match T id with
  | .mapo es => G2 m kv = true /\ (qg7 m kv es).isSome = true /\ k (.tup []) (T.put id (.mapo (qg8 kv y es)))
  | _ => False
 | _, _, _ => False
theorem qu7 (m x y z) : K4 P ⟨d, .mup m x y z, none, rc⟩ K e L T = qvy m (K5 e x) (K5 e y) (K5 e z) T (Hold.mk (a := aft K e L d rc)) := rfl
theorem qq0 (z b zero x y) : K4 P ⟨d, .mksl z b zero x y, none, rc⟩ K e L T = mkS z b zero (K5 e x) (K5 e y) T (Hold.mk (a := aft K e L d rc)) := rfl
theorem J7 {v : AV} {T' : Tab} (h : K (N5 e d v) L T') : aft K e L d [] v T' := fun _ => ⟨trivial, h⟩
theorem qn1 (k : Nat) (want : Bool) {y n : Prop} (p : Hold y) (q : Hold n) : gst e k want p q = gdd e (some (k, want)) y n False := by
 unfold gst gdd
 simp only
 rcases O7 e k with _ | x
 ·rfl
 ·cases x with
  | b x => cases x <;> cases want <;> rfl
  | tup l => cases l <;> rfl
  | _ => rfl
theorem qvz (o : SO) (k : Nat) (want : Bool) : K4 P ⟨d, o, some (k, want), []⟩ K e L T = gst e k want (Hold.mk (a := K4 P ⟨d, o, none, []⟩ K e L T)) (Hold.mk (a := K (N5 e d (.tup [])) L T)) := by
 rw [qn1]
 have hm0 : ∀ {α : Type} (f : α -> Prop) (y n z : α), f (gdd e (some (k, want)) y n z) = gdd e (some (k, want)) (f y) (f n) (f z) := fun f y n z => by
  unfold gdd
  simp only
  split <;> (try split) <;> rfl
 cases hk : o.kind with
 | val =>
  have e1 : ∀ gd, K4 P ⟨d, o, gd, []⟩ K e L T = vst (q3r o gd e L T) (Hold.mk (a := fun v => K (N5 e d v) L T)) := fun gd => by unfold K4; simp only [hk]; rfl
  rw [e1, e1]
  exact hm0 (fun x => vst x (Hold.mk (a := fun v => K (N5 e d v) L T))) _ _ _
 | snil => unfold K4; simp only [hk]; rfl
 | leff =>
  have e1 : ∀ gd, K4 P ⟨d, o, gd, []⟩ K e L T = (fun x : Option (Env × Loc) => match x with | some (e, l) => K e l T | none => False) (gdd e gd (lev o d e L) (some (N5 e d (.tup []), L)) none) := fun gd => by unfold K4; simp only [hk]; rfl
  rw [e1, e1]
  exact hm0 (fun x : Option (Env × Loc) => match x with | some (e, l) => K e l T | none => False) _ _ _
 | teff => unfold K4; simp only [hk, q31, true_and]; rfl
theorem qq1 (o : SO) (ho : o.kind = .teff) (k : Nat) (want : Bool) : K4 P ⟨d, o, some (k, want), rc⟩ K e L T = gdd e (some (k, want)) (K4 P ⟨d, o, none, rc⟩ K e L T) (q31 (N5 e d (.tup [])) L T rc /\ K (N5 e d (.tup [])) L T) False := by
 unfold K4
 simp only [ho, gdd]
theorem N6 {l c : SC} (hl : l = .loop c) (hR : ExtR R) (h : AW P c (q34 (AW P l R) R) e L T) : AW P l R e L T := by
 subst hl; exact q27 hR h
theorem qbv (x : AV) : q65 T [] x = x := by
 have h1 : ∀ y, q64 T [] y = y := fun y => by cases y <;> simp [q64]
 have : (q64 T []) = id := funext h1
 cases x <;> simp [q65, h1, this]
theorem q4r (x : AV) : qf6 T [] x = x := by
 have : (q65 T []) = id := funext qbv
 cases x <;> simp [qf6, qbv, this]
theorem CallK.of {f : FuncId} {avs : List AV} {k : AV -> Tab -> Prop} {Q : AV -> Tab -> Prop} (h : ACalls P f avs T Q) (hk : ∀ v T', Q v T' -> k v T') : CallK P f avs T k := by
 have : (q65 T []) = id := funext qbv
 refine ⟨[], Q, List.nodup_nil, by simp, ?_, hk⟩
 rw [this, List.map_id]
 exact h
theorem CallK.pure {f : FuncId} {avs : List AV} {k : AV -> Tab -> Prop} {r : AV} (h : PCalls P f avs r) (hk : k r T) : CallK P f avs T k :=
 .of (h T) fun v T' h => by rw [h.1, h.2]; exact hk
theorem K7 (hm : P.follows .mixedOrders = true) {f : FuncId} {n : Nat} {sc : SC} {rs : List SO} (ht : FnTxt P f n sc rs) {args : List AV} {r : AV} (hl : args.length <= n)
  (h : ∀ T, AW P sc (qpj rs fun v T' => v = r /\ T' = T) (qmz 0 args) [] T) : PCalls P f args r := fun T => K1 hm ht hl (h T)
theorem Wk.refl (x : AV) : Wk x x := fun _ _ _ h => h
theorem Wk.trans {x y z : AV} (h : Wk x y) (k : Wk y z) : Wk x z := fun X w v hv => k X w v (h X w v hv)
theorem Wk.fz {n : Nat} {cells : List AV} {cap : Option Nat} : Wk (.fz n cells cap) (.fz n cells none) := fun X w v h => by
 simp only [vr] at h ⊢
 obtain ⟨us, h1, h2⟩ := h
 refine ⟨us, h1, ?_⟩
 rcases h2 with ⟨a, b, c, _⟩ | ⟨a, c, h3, h4, h5, _, h6⟩
 ·exact .inl ⟨a, b, c, fun k hk => by cases hk⟩
 ·exact .inr ⟨a, c, h3, h4, h5, (fun k hk => by cases hk), h6⟩
def Wks : List AV -> List AV -> Prop
 | [], [] => True
 | x :: l, y :: m => Wk x y /\ Wks l m
 | _, _ => False
theorem Wks.vrs {X : Cx} {w : World} : ∀ {l m : List AV}, Wks l m -> ∀ {us}, Aw.vrs X w l us -> Aw.vrs X w m us
 | [], [], _, us, h => h
 | x :: l, y :: m, h, us, hv => by
  simp only [Aw.vrs] at hv ⊢
  obtain ⟨u, us', rfl, h2, h3⟩ := hv
  exact ⟨u, us', rfl, h.1 _ _ _ h2, Wks.vrs h.2 h3⟩
 | [], _ :: _, h, _, _ => h.elim
 | _ :: _, [], h, _, _ => h.elim
theorem Wks.refl : ∀ l, Wks l l
 | [] => trivial
 | x :: l => ⟨.refl x, Wks.refl l⟩
theorem Wk.agg {l m : List AV} (h : Wks l m) : Wk (.agg l) (.agg m) := fun X w v hv => by
 simp only [vr] at hv ⊢
 obtain ⟨us, h1, h2⟩ := hv
 exact ⟨us, h.vrs h1, h2⟩
theorem Wk.tup {l m : List AV} (h : Wks l m) : Wk (.tup l) (.tup m) := fun X w v hv => by
 simp only [vr] at hv ⊢
 obtain ⟨us, h1, h2⟩ := hv
 exact ⟨us, h.vrs h1, h2⟩
theorem qns (rs : List SO) (Q : AV -> Tab -> Prop) : ql3 rs Q e L T = fin (q3g rs e L T) Q T := rfl
theorem qlr (l : List AV) (Q : AV -> Tab -> Prop) : fin (some l) Q T = qdq (qbt l) Q T := rfl
theorem qiv (x : AV) : qbt [x] = x := rfl
theorem qiw : qbt [] = .tup [] := rfl
theorem qix (x y : AV) (l : List AV) : qbt (x :: y :: l) = .tup (x :: y :: l) := rfl
theorem J8 {r r' : AV} (hr : r' = r) : qdq r' (fun v T' => v = r /\ T' = T) T :=
 ⟨[], T, r, List.nodup_nil, by simp, fun _ => .inr (.inl rfl), by rw [q4r, hr]; exact .refl r, rfl, rfl⟩
theorem q19 {r : AV} {Q : AV -> Tab -> Prop} (T' : Tab) (hT : ∀ id, SlotLe (T' id) (T id)) (hQ : Q r T') : qdq r Q T :=
 ⟨[], T', r, List.nodup_nil, by simp, hT, by rw [q4r]; exact .refl r, hQ⟩
theorem qnt (c : Operand) (a b : SC) : AW P (.cond c a b) R e L T = brO (K5 e c) (Hold.mk (a := AW P a R e L T)) (Hold.mk (a := AW P b R e L T)) := rfl
theorem qu8 (k : Nat) (y n : Prop) (p : Hold y) (q : Hold n) : gst e k true p q = gsO (O7 e k) p q := rfl
theorem qu9 (k : Nat) (y n : Prop) (p : Hold y) (q : Hold n) : gst e k false p q = gsN (O7 e k) p q := rfl
end
theorem qw0 {x : Bool} : AV.plain (.b x) = true := rfl
theorem qua {x : Bool} : AV.isLp (.b x) = false := rfl
theorem qub {x : Bool} : AV.isOne (.b x) = true := rfl
theorem quc {x : Bool} : AV.sto (.b x) = true := rfl
theorem qud {x : Bool} : AV.cells (.b x) = [(.b x)] := rfl
theorem que {x : Bool} (j : Nat) : AV.offLp j (.b x) = (.b x) := rfl
theorem qw1 {k : IntKind} {n : Int} : AV.plain (.i k n) = true := rfl
theorem quf {k : IntKind} {n : Int} : AV.isLp (.i k n) = false := rfl
theorem qug {k : IntKind} {n : Int} : AV.isOne (.i k n) = true := rfl
theorem quh {k : IntKind} {n : Int} : AV.sto (.i k n) = true := rfl
theorem qui {k : IntKind} {n : Int} : AV.cells (.i k n) = [(.i k n)] := rfl
theorem quj {k : IntKind} {n : Int} (j : Nat) : AV.offLp j (.i k n) = (.i k n) := rfl
theorem qw2 {l : List UInt8} : AV.plain (.s l) = true := rfl
theorem quk {l : List UInt8} : AV.isLp (.s l) = false := rfl
theorem qul {l : List UInt8} : AV.isOne (.s l) = true := rfl
theorem qum {l : List UInt8} : AV.sto (.s l) = true := rfl
theorem qun {l : List UInt8} : AV.cells (.s l) = [(.s l)] := rfl
theorem qup {l : List UInt8} (j : Nat) : AV.offLp j (.s l) = (.s l) := rfl
theorem quq  : AV.plain .nilptr = true := rfl
theorem qq2  : AV.isLp .nilptr = false := rfl
theorem qq3  : AV.isOne .nilptr = true := rfl
theorem qq4  : AV.sto .nilptr = true := rfl
theorem qq5  : AV.cells .nilptr = [.nilptr] := rfl
theorem qq6  (j : Nat) : AV.offLp j .nilptr = .nilptr := rfl
theorem qq7 {id o : Nat} : AV.plain (.ptr id o) = true := rfl
theorem qnu {id o : Nat} : AV.isLp (.ptr id o) = false := rfl
theorem qnv {id o : Nat} : AV.isOne (.ptr id o) = true := rfl
theorem qnw {id o : Nat} : AV.sto (.ptr id o) = true := rfl
theorem qnx {id o : Nat} : AV.cells (.ptr id o) = [(.ptr id o)] := rfl
theorem qny {id o : Nat} (j : Nat) : AV.offLp j (.ptr id o) = (.ptr id o) := rfl
theorem qur {c : List AV} : AV.plain (.fptr c) = true := rfl
theorem qq8 {c : List AV} : AV.isLp (.fptr c) = false := rfl
theorem qq9 {c : List AV} : AV.isOne (.fptr c) = true := rfl
theorem qqa {c : List AV} : AV.sto (.fptr c) = true := rfl
theorem qqb {c : List AV} : AV.cells (.fptr c) = [(.fptr c)] := rfl
theorem qqc {c : List AV} (j : Nat) : AV.offLp j (.fptr c) = (.fptr c) := rfl
theorem qus {n : Nat} {c : List AV} {k : Option Nat} : AV.plain (.fz n c k) = true := rfl
theorem qqd {n : Nat} {c : List AV} {k : Option Nat} : AV.isLp (.fz n c k) = false := rfl
theorem qqe {n : Nat} {c : List AV} {k : Option Nat} : AV.isOne (.fz n c k) = true := rfl
theorem qqf {n : Nat} {c : List AV} {k : Option Nat} : AV.sto (.fz n c k) = true := rfl
theorem qqg {n : Nat} {c : List AV} {k : Option Nat} : AV.cells (.fz n c k) = [(.fz n c k)] := rfl
theorem qqh {n : Nat} {c : List AV} {k : Option Nat} (j : Nat) : AV.offLp j (.fz n c k) = (.fz n c k) := rfl
theorem qut {id o n : Nat} {k : Option Nat} : AV.plain (.sl id o n k) = true := rfl
theorem qqi {id o n : Nat} {k : Option Nat} : AV.isLp (.sl id o n k) = false := rfl
theorem qqj {id o n : Nat} {k : Option Nat} : AV.isOne (.sl id o n k) = true := rfl
theorem qqk {id o n : Nat} {k : Option Nat} : AV.sto (.sl id o n k) = true := rfl
theorem qql {id o n : Nat} {k : Option Nat} : AV.cells (.sl id o n k) = [(.sl id o n k)] := rfl
theorem qqm {id o n : Nat} {k : Option Nat} (j : Nat) : AV.offLp j (.sl id o n k) = (.sl id o n k) := rfl
theorem quu  : AV.plain .nilmap = true := rfl
theorem qqn  : AV.isLp .nilmap = false := rfl
theorem qqo  : AV.isOne .nilmap = true := rfl
theorem qqp  : AV.sto .nilmap = true := rfl
theorem qqq  : AV.cells .nilmap = [.nilmap] := rfl
theorem qqr  (j : Nat) : AV.offLp j .nilmap = .nilmap := rfl
theorem quv {id : Nat} : AV.plain (.mp id) = true := rfl
theorem qqs {id : Nat} : AV.isLp (.mp id) = false := rfl
theorem qqt {id : Nat} : AV.isOne (.mp id) = true := rfl
theorem qqu {id : Nat} : AV.sto (.mp id) = true := rfl
theorem qqv {id : Nat} : AV.cells (.mp id) = [(.mp id)] := rfl
theorem qqw {id : Nat} (j : Nat) : AV.offLp j (.mp id) = (.mp id) := rfl
theorem quw {f : Fn} {a b : List AV} : AV.plain (.fn f a b) = true := rfl
theorem qqx {f : Fn} {a b : List AV} : AV.isLp (.fn f a b) = false := rfl
theorem qqy {f : Fn} {a b : List AV} : AV.isOne (.fn f a b) = true := rfl
theorem qqz {f : Fn} {a b : List AV} : AV.sto (.fn f a b) = true := rfl
theorem qr0 {f : Fn} {a b : List AV} : AV.cells (.fn f a b) = [(.fn f a b)] := rfl
theorem qr1 {f : Fn} {a b : List AV} (j : Nat) : AV.offLp j (.fn f a b) = (.fn f a b) := rfl
theorem qux  : AV.plain .nilfn = true := rfl
theorem qr2  : AV.isLp .nilfn = false := rfl
theorem qr3  : AV.isOne .nilfn = true := rfl
theorem qr4  : AV.sto .nilfn = true := rfl
theorem qr5  : AV.cells .nilfn = [.nilfn] := rfl
theorem qr6  (j : Nat) : AV.offLp j .nilfn = .nilfn := rfl
theorem quy {t : TypeId} {x : AV} : AV.plain (.ifc t x) = true := rfl
theorem qr7 {t : TypeId} {x : AV} : AV.isLp (.ifc t x) = false := rfl
theorem qr8 {t : TypeId} {x : AV} : AV.isOne (.ifc t x) = true := rfl
theorem qr9 {t : TypeId} {x : AV} : AV.sto (.ifc t x) = true := rfl
theorem qra {t : TypeId} {x : AV} : AV.cells (.ifc t x) = [(.ifc t x)] := rfl
theorem qrb {t : TypeId} {x : AV} (j : Nat) : AV.offLp j (.ifc t x) = (.ifc t x) := rfl
theorem quz  : AV.plain .nilifc = true := rfl
theorem qrc  : AV.isLp .nilifc = false := rfl
theorem qrd  : AV.isOne .nilifc = true := rfl
theorem qre  : AV.sto .nilifc = true := rfl
theorem qrf  : AV.cells .nilifc = [.nilifc] := rfl
theorem qrg  (j : Nat) : AV.offLp j .nilifc = .nilifc := rfl
theorem qv0 {l : List AV} : AV.plain (.agg l) = true := rfl
theorem qrh {l : List AV} : AV.isLp (.agg l) = false := rfl
theorem qri {l : List AV} : AV.isOne (.agg l) = false := rfl
theorem qrj {l : List AV} : AV.sto (.agg l) = true := rfl
theorem qrk {l : List AV} : AV.cells (.agg l) = l := rfl
theorem qrl {l : List AV} (j : Nat) : AV.offLp j (.agg l) = (.agg l) := rfl
theorem qv1 {l : List AV} : AV.plain (.tup l) = true := rfl
theorem qrm {l : List AV} : AV.isLp (.tup l) = false := rfl
theorem qrn {l : List AV} : AV.isOne (.tup l) = false := rfl
theorem qro {l : List AV} : AV.sto (.tup l) = false := rfl
theorem qrp {l : List AV} : AV.cells (.tup l) = [(.tup l)] := rfl
theorem qrq {l : List AV} (j : Nat) : AV.offLp j (.tup l) = (.tup l) := rfl
theorem qv2 {l o : Nat} : AV.plain (.lp l o) = false := rfl
theorem qrr {l o : Nat} : AV.isLp (.lp l o) = true := rfl
theorem qrs {l o : Nat} : AV.isOne (.lp l o) = false := rfl
theorem qrt {l o : Nat} : AV.sto (.lp l o) = false := rfl
theorem qru {l o : Nat} : AV.cells (.lp l o) = [(.lp l o)] := rfl
theorem qrv {l o : Nat} (j : Nat) : AV.offLp j (.lp l o) = if l = j then .any else .lp l o := rfl
theorem qv3 {v : Value} : AV.plain (.raw v) = true := rfl
theorem qrw {v : Value} : AV.isLp (.raw v) = false := rfl
theorem qrx {v : Value} : AV.isOne (.raw v) = true := rfl
theorem qry {v : Value} : AV.sto (.raw v) = true := rfl
theorem qrz {v : Value} : AV.cells (.raw v) = [(.raw v)] := rfl
theorem qs0 {v : Value} (j : Nat) : AV.offLp j (.raw v) = (.raw v) := rfl
attribute [irreducible] gzS vst br brO gsO gsN vs2 snl qty qvk hbS stS apS clS CallK aft
attribute [go_sem ↓] qpn qnl qpk qpl qnt qlg qnm qpm qnn qd5 qgk qim qe6 qin qlh qe7 qli qlj qio qvs qpp qth qvt qpq qvu qti qtj qtk qtl qtm qpr qtn qps qpt qto qpu qpv qpw qtr qts qq0 qu1 qu3 qu4 qu5 qu6 qu7 qiu qtp qtq qtt qnp qtu qtv qvv qtw qpx qtx qln qpy qnq qlo qpz qvw qtz qvz qu8 qu9 qns qu0
attribute [go_sem] qip qiq qlk qmz O7 q1v q3y U6 K5 opd q87 q1j q01 cav qcw qdr qcp q4k qcq qp8 q7p qaq q8u q8v qg0 qg2 qg3 qg1 q50 qdw q76 q1w q7t qp9 qdu G7 qal N0 qdv q8w qam bnd N1 q0v q90 qpo Option.bind_some Option.bind_none Option.map_some Option.map_none List.getElem?_cons_zero List.getElem?_cons_succ List.getElem?_nil List.drop_zero List.drop_succ_cons List.take_zero List.take_succ_cons List.drop_nil List.take_nil List.length_cons List.length_nil List.set_cons_zero List.set_cons_succ List.append_nil List.nil_append List.cons_append if_true if_false ite_true ite_false and_true true_and and_self Bool.not_true Bool.not_false Bool.false_eq_true decide_true decide_false qlr qiv qix qiw q3g vev pev qno qll Nat.zero_mul Nat.sub_zero Nat.mul_one Nat.zero_add Nat.add_zero qtc qtd qte qtf qtg qlm qit qlp qlq qw0 qua qub quc qud que qw1 quf qug quh qui quj qw2 quk qul qum qun qup quq qq2 qq3 qq4 qq5 qq6 qq7 qnu qnv qnw qnx qny qur qq8 qq9 qqa qqb qqc qus qqd qqe qqf qqg qqh qut qqi qqj qqk qql qqm quu qqn qqo qqp qqq qqr quv qqs qqt qqu qqv qqw quw qqx qqy qqz qr0 qr1 qux qr2 qr3 qr4 qr5 qr6 quy qr7 qr8 qr9 qra qrb quz qrc qrd qre qrf qrg qv0 qrh qri qrj qrk qrl qv1 qrm qrn qro qrp qrq qv2 qrr qrs qrt qru qrv qv3 qrw qrx qry qrz qs0
end Go.Aw
namespace Go.Aw
open Go
set_option linter.all false
variable [Glob]
def I64 (n : Int) : Prop := -9223372036854775808 <= n /\ n <= 9223372036854775807
instance (n : Int) : Decidable (I64 n) := inferInstanceAs (Decidable (_ /\ _))
theorem K8 {n : Int} (h : I64 n) : IntKind.i64.wrap n = n := IntWalk.i64_in n h
def Len (n : Nat) : Prop := n < 9223372036854775808
theorem q03 {k : Nat} (h : k < 9223372036854775807) : IntKind.i64.wrap ((k : Int) + 1) = ((k + 1 : Nat) : Int) := by
 rw [K8 (by unfold I64; omega)]; simp
end Go.Aw
namespace Go.Aw
open Go
set_option linter.all false
variable [Glob]
def Own (T : Tab) (z : Nat) (v : AV) (n : Nat) (xs : List AV) (T' : Tab) : Prop :=
 xs.length = n * z /\ ((v = .fz 0 [] (some 0) /\ n = 0 /\ T' = T) \/ ∃ id, v = .sl id 0 n none /\ T id = .unused /\ T' = T.put id (.row z xs))
theorem Tab.put_put (T : Tab) (id : Nat) (a b : Slot) : (T.put id a).put id b = T.put id b := by
 funext j; simp only [Tab.put]; split <;> rfl
theorem Tab.put_comm (T : Tab) {id id' : Nat} (h : id ≠ id') (a b : Slot) : (T.put id a).put id' b = (T.put id' b).put id a := by
 funext j; simp only [Tab.put]; split
 ·rename_i e; subst e; rw [if_neg (Ne.symm h)]
 ·rfl
theorem Tab.put_self {T : Tab} {id : Nat} {a : Slot} (h : T id = a) : T.put id a = T := by
 funext j; simp only [Tab.put]; split
 ·rename_i e; subst e; exact h.symm
 ·rfl
theorem Tab.unused_put {T : Tab} {id j z : Nat} {c : List AV} (h : T.put id (.row z c) j = .unused) : j ≠ id /\ T j = .unused := by
 simp only [Tab.put] at h
 split at h
 ·cases h
 ·rename_i e; exact ⟨e, h⟩
theorem Own.nil (T : Tab) (z : Nat) : Own T z (.fz 0 [] (some 0)) 0 [] T := ⟨by simp, .inl ⟨rfl, rfl, rfl⟩⟩
theorem q5i {T : Tab} {z : Nat} {y : AV} {news : List AV} (h : N1 T z y = some news) : news.length = O0 y * z := by
 cases y <;> simp only [N1] at h <;> first
  | (cases h; done)
  | skip
 ·split at h
  ·rename_i e; subst e; injection h with h; subst h; simp [O0]
  ·cases h
 ·split at h
  ·injection h with h; subst h; assumption
  ·cases h
 ·split at h
  ·split at h
   ·rename_i hle; injection h with h; subst h; rw [List.length_take, List.length_drop]; simp only [O0]; omega
   ·cases h
  ·cases h
theorem Own.app {T T1 : Tab} {z b n m : Nat} {v y : AV} {xs news : List AV} {K : AV -> Tab -> Prop} (h : Own T z v n xs T1) (hy : N1 T1 z y = some news) (hm : O0 y = m)
  (h1 : (n + m) * b <= 140737488355328) (h2 : n + m <= 9223372036854775807) (hk : ∀ v' T2, Own T z v' (n + m) (xs ++ news) T2 -> K v' T2) : Z0 z b T1 v y K := by
 have hlen := q5i hy
 rw [hm] at hlen
 obtain ⟨hx, h⟩ := h
 have hsum : (xs ++ news).length = (n + m) * z := by rw [List.length_append, hx, hlen, Nat.add_mul]
 unfold Z0
 rw [hy]
 simp only
 rcases h with ⟨rfl, rfl, rfl⟩ | ⟨id, rfl, hid, rfl⟩
 ·have : xs = [] := by simpa using hx
  subst this
  simp only [hm]
  split
  ·rename_i e
   subst e
   have : news = [] := by simpa using hlen
   subst this
   exact hk _ _ ⟨by simp, .inl ⟨rfl, rfl, rfl⟩⟩
  ·refine ⟨by simp, by omega, h1, h2, fun id hid => ?_⟩
   exact hk _ _ ⟨hsum, .inr ⟨id, by simp, hid, rfl⟩⟩
 ·simp only [Tab.put_same, hm, true_and]
  rw [if_pos (by omega)]
  refine ⟨h1, h2, fun id' hid' => ?_⟩
  obtain ⟨_, hid'⟩ := Tab.unused_put hid'
  rw [Tab.put_put, Tab.put_self hid, List.drop_zero]
  exact hk _ _ ⟨hsum, .inr ⟨id', rfl, hid', rfl⟩⟩
theorem Own.form {T T1 : Tab} {z n : Nat} {v : AV} {xs : List AV} (h : Own T z v n xs T1) : v.plain = true /\ v.isOne = true /\ v.sto = true /\ v.cells = [v] /\ v.isLp = false /\ ∀ k, v.offLp k = v := by
 rcases h.2 with ⟨rfl, _⟩ | ⟨id, rfl, _⟩ <;> exact ⟨rfl, rfl, rfl, rfl, rfl, fun _ => rfl⟩
section
variable {T : Tab} {S : List Nat}
theorem qnz {n : Nat} {c : List AV} {k : Option Nat} : q64 T S (.fz n c k) = .fz n c k := rfl
end
structure Ow where
 z : Nat
 v : AV
 n : Nat
 xs : List AV
def Owns (T : Tab) : List Ow -> Tab -> Prop
 | [], T' => T' = T
 | a :: l, T' => ∃ T1, Owns T l T1 /\ Own T1 a.z a.v a.n a.xs T'
theorem Owns.swap {T T' : Tab} {a b : Ow} {l : List Ow} (h : Owns T (a :: b :: l) T') : Owns T (b :: a :: l) T' := by
 obtain ⟨T2, ⟨T1, h1, hb, hb'⟩, ha, ha'⟩ := h
 rcases hb' with ⟨e1, e2, rfl⟩ | ⟨id, e1, e2, rfl⟩ <;> rcases ha' with ⟨e3, e4, rfl⟩ | ⟨id', e3, e4, rfl⟩
 ·exact ⟨_, ⟨_, h1, ha, .inl ⟨e3, e4, rfl⟩⟩, hb, .inl ⟨e1, e2, rfl⟩⟩
 ·exact ⟨_, ⟨_, h1, ha, .inr ⟨id', e3, e4, rfl⟩⟩, hb, .inl ⟨e1, e2, rfl⟩⟩
 ·exact ⟨_, ⟨_, h1, ha, .inl ⟨e3, e4, rfl⟩⟩, hb, .inr ⟨id, e1, e2, rfl⟩⟩
 ·obtain ⟨hne, hu⟩ := Tab.unused_put e4
  refine ⟨_, ⟨_, h1, ha, .inr ⟨id', e3, hu, rfl⟩⟩, hb, .inr ⟨id, e1, ?_, ?_⟩⟩
  ·rw [Tab.put_ne _ _ (Ne.symm hne)]; exact e2
  ·exact Tab.put_comm _ (Ne.symm hne) _ _
theorem Owns.app {T T1 : Tab} {a : Ow} {l : List Ow} {b m : Nat} {y : AV} {news : List AV} {K : AV -> Tab -> Prop} (h : Owns T (a :: l) T1) (hy : N1 T1 a.z y = some news) (hm : O0 y = m)
  (h1 : (a.n + m) * b <= 140737488355328) (h2 : a.n + m <= 9223372036854775807) (hk : ∀ v' T2, Owns T (⟨a.z, v', a.n + m, a.xs ++ news⟩ :: l) T2 -> K v' T2) : Z0 a.z b T1 a.v y K := by
 obtain ⟨T0, h0, ho⟩ := h
 exact ho.app hy hm h1 h2 fun v' T2 h' => hk v' T2 ⟨T0, h0, h'⟩
theorem Owns.form {T : Tab} {a : Ow} : ∀ {l : List Ow} {T1 : Tab}, Owns T l T1 -> a ∈ l -> a.v.plain = true /\ a.v.isOne = true /\ a.v.sto = true /\ a.v.cells = [a.v] /\ a.v.isLp = false /\ ∀ k, a.v.offLp k = a.v
 | b :: l, T1, ⟨T0, h0, ho⟩, hm => by
  rcases List.mem_cons.1 hm with rfl | hm
  ·exact ho.form
  ·exact Owns.form h0 hm
theorem Owns.one {T T' : Tab} {z n : Nat} {v : AV} {xs : List AV} (h : Own T z v n xs T') : Owns T [⟨z, v, n, xs⟩] T' := ⟨T, rfl, h⟩
theorem Owns.fin {T : Tab} : ∀ {l : List Ow} {T' : Tab}, Owns T l T' -> ∃ S, S.Nodup /\ (∀ id ∈ S, T' id ≠ .unused /\ T id = .unused) /\ q75 T' S = T /\ ∀ a ∈ l, ∃ cap, q64 T' S a.v = .fz a.n a.xs cap
 | [], T', h => ⟨[], List.nodup_nil, by simp, h, by simp⟩
 | a :: l, T', h => by
  obtain ⟨T1, h1, hx, h2⟩ := h
  obtain ⟨S, k1, k2, k3, k4⟩ := Owns.fin h1
  rcases h2 with ⟨e1, e2, rfl⟩ | ⟨id, e1, e2, rfl⟩
  ·refine ⟨S, k1, k2, k3, fun b hb => ?_⟩
   rcases List.mem_cons.1 hb with rfl | hb
   ·have : b.xs = [] := by rw [e2] at hx; simpa using hx
    rw [e1, e2, this]; exact ⟨some 0, rfl⟩
   ·exact k4 b hb
  ·have hid : id ∉ S := fun e => (k2 id e).1 e2
   have hkill : ∀ (S' : List Nat) (T2 : Tab), id ∉ S' -> q75 (T2.put id (.row a.z a.xs)) S' = (q75 T2 S').put id (.row a.z a.xs) := by
    intro S'
    induction S' with
    | nil => intro T2 _; rfl
    | cons j S' ih =>
     intro T2 hj
     simp only [List.mem_cons, not_or] at hj
     simp only [q75]
     rw [ih T2 hj.2, Tab.put_comm _ hj.1]
   have hTid : T id = .unused := by
    rw [<- k3, q5e hid]; exact e2
   refine ⟨id :: S, List.nodup_cons.2 ⟨hid, k1⟩, fun j hj => ?_, ?_, fun b hb => ?_⟩
   ·rcases List.mem_cons.1 hj with rfl | hj
    ·exact ⟨by rw [Tab.put_same]; simp, hTid⟩
    ·refine ⟨?_, (k2 j hj).2⟩
     rw [Tab.put_ne _ _ (fun e => hid (by rw [<- e]; exact hj))]; exact (k2 j hj).1
   ·simp only [q75]
    rw [hkill S T1 hid, Tab.put_put, k3, Tab.put_self hTid]
   ·rcases List.mem_cons.1 hb with rfl | hb
    ·refine ⟨none, ?_⟩
     rw [e1]
     simp only [q64, List.mem_cons, true_or, if_true, Tab.put_same, Nat.zero_add, List.drop_zero]
     rw [if_pos (by omega), List.take_of_length_le (by omega)]
    ·obtain ⟨cap, hc⟩ := k4 b hb
     refine ⟨cap, ?_⟩
     rw [<- hc]
     cases hv : b.v with
     | sl id' o n cap' =>
      have hne : id' ≠ id := by
       rintro rfl
       rw [hv] at hc
       simp only [q64] at hc
       rw [if_neg hid] at hc
       cases hc
      simp only [q64, List.mem_cons, hne, false_or, Tab.put_ne _ _ hne]
     | ptr id' o => rw [hv] at hc; simp only [q64] at hc; split at hc <;> (try split at hc) <;> cases hc
     | _ => rfl
theorem q6g {T T' : Tab} {l : List Ow} {r r' : AV} (h : Owns T l T') (hr : ∀ S, (∀ a ∈ l, ∃ cap, q64 T' S a.v = .fz a.n a.xs cap) -> Wk (qf6 T' S r) r') : qdq r (fun v T'' => v = r' /\ T'' = T) T' := by
 obtain ⟨S, k1, k2, k3, k4⟩ := h.fin
 unfold qdq
 exact ⟨S, T, r', k1, fun id hid => (k2 id hid).1, fun id => .inr (.inl (by rw [k3])), hr S k4, rfl, rfl⟩
end Go.Aw
namespace Go.Aw
open Go
variable [Glob]
set_option linter.all false
theorem q7d {α : Type} {xs ys : List α} {y : α} {k : Nat} (hk : xs.drop k = y :: ys) : k < xs.length /\ xs[k]? = some y /\ xs.drop (k + 1) = ys := by
 refine ⟨?_, ?_, by rw [<- List.drop_drop, hk]; rfl⟩
 ·have : (xs.drop k).length = ys.length + 1 := by rw [hk]; rfl
  rw [List.length_drop] at this; omega
 ·have : (xs.drop k)[0]? = some y := by rw [hk]; rfl
  simpa using this
theorem q35 {α : Type} {xs : List α} {k : Nat} (hk : xs.drop k = []) (hle : k <= xs.length) : xs.length = k := by have := List.drop_eq_nil_iff.1 hk; omega
theorem Own.fin {T T' : Tab} {z n : Nat} {v : AV} {xs : List AV} {Q : AV -> Tab -> Prop} (h : Own T z v n xs T') (hQ : ∀ v T', Own T z v n xs T' -> Q v T') : qdq v Q T' :=
 q19 T' (fun _ => .inr (.inl rfl)) (hQ v T' h)
theorem CallK.as {P : Program} {f : FuncId} {avs : List AV} {T T1 : Tab} {k : AV -> Tab -> Prop} {r : AV} (h : ACalls P f avs T (fun v T' => v = r /\ T' = T1)) (hk : k r T1) : CallK P f avs T k :=
 .of h fun v T' h => by rw [h.1, h.2]; exact hk
theorem K6 {T T1 : Tab} {r r' : AV} (h : Wk r r') (hT : T = T1) : qdq r (fun v T' => v = r' /\ T' = T1) T := by
 subst hT
 exact ⟨[], T, r', List.nodup_nil, by simp, fun _ => .inr (.inl rfl), by rw [q4r]; exact h, rfl, rfl⟩
theorem q1m {P : Program} {d : Option Nat} {f : FuncId} {args : List Operand} {k : Nat} {want : Bool} {rc : RC} {K : Env -> Loc -> Tab -> Prop} {e : Env} {L : Loc} {T : Tab} : K4 P ⟨d, .call f args, some (k, want), rc⟩ K e L T =
  gst e k want (Hold.mk (a := K4 P ⟨d, .call f args, none, rc⟩ K e L T)) (Hold.mk (a := q31 (N5 e d (.tup [])) L T rc /\ K (N5 e d (.tup [])) L T)) := by
 rw [qq1 _ rfl, qn1]
theorem Owns.base_get {T : Tab} {id : Nat} (hid : T id ≠ .unused) : ∀ {l : List Ow} {T' : Tab}, Owns T l T' -> T' id = T id
 | [], T', h => by rw [show T' = T from h]
 | a :: l, T', ⟨T1, h1, hx, h2⟩ => by
  have ih := Owns.base_get hid h1
  rcases h2 with ⟨_, _, rfl⟩ | ⟨j, _, hj, rfl⟩
  ·exact ih
  ·have hne : id ≠ j := fun e => by subst e; rw [ih] at hj; exact hid hj
   rw [Tab.put_ne _ _ hne]; exact ih
theorem Owns.le {T : Tab} : ∀ {l : List Ow} {T' : Tab}, Owns T l T' -> ∀ j, SlotLe (T j) (T' j)
 | [], T', h, j => by rw [show T' = T from h]; exact .inr (.inl rfl)
 | a :: l, T', ⟨T1, h1, hx, h2⟩, j => by
  have ih := Owns.le h1 j
  rcases h2 with ⟨_, _, rfl⟩ | ⟨i, _, hi, rfl⟩
  ·exact ih
  ·by_cases e : j = i
   ·subst e
    rw [hi] at ih
    rcases ih with h | h | ⟨_, _, _, h, _⟩
    ·exact .inl h
    ·exact .inl h
    ·cases h
   ·rw [Tab.put_ne _ _ e]; exact ih
theorem Owns.get {T : Tab} {a : Ow} : ∀ {l : List Ow} {T' : Tab}, Owns T l T' -> a ∈ l -> 0 < a.n -> ∃ id, a.v = .sl id 0 a.n none /\ T' id = .row a.z a.xs /\ T id = .unused
 | b :: l, T', ⟨T1, h1, hx, h2⟩, hm, hn => by
  rcases List.mem_cons.1 hm with rfl | hm
  ·rcases h2 with ⟨_, e, _⟩ | ⟨i, e1, hi, rfl⟩
   ·omega
   ·refine ⟨i, e1, Tab.put_same .., ?_⟩
    have hle := h1.le i
    rw [hi] at hle
    rcases hle with h | h | ⟨_, _, _, h, _⟩
    ·exact h
    ·exact h
    ·cases h
  ·obtain ⟨id, e1, e2, e3⟩ := Owns.get h1 hm hn
   rcases h2 with ⟨_, _, rfl⟩ | ⟨i, _, hi, rfl⟩
   ·exact ⟨id, e1, e2, e3⟩
   ·refine ⟨id, e1, ?_, e3⟩
    have hne : id ≠ i := fun e => by subst e; rw [hi] at e2; cases e2
    rw [Tab.put_ne _ _ hne]; exact e2
theorem SlotLe.refl (s : Slot) : SlotLe s s := .inr (.inl rfl)
theorem qe8 {α : Type} {f : α -> List AV} {z : Nat} (hf : ∀ x, (f x).length = z) (l : List α) : (l.flatMap f).length = l.length * z := by
 induction l with
 | nil => simp
 | cons c l ih => simp only [List.flatMap_cons, List.length_append, List.length_cons, ih, hf, Nat.add_mul]; omega
theorem qo0 {α : Type} {f : α -> List AV} {z : Nat} (hf : ∀ x, (f x).length = z) {l : List α} {k : Nat} {x : α} (h : l[k]? = some x) : (l.flatMap f).drop (k * z) = f x ++ (l.drop (k + 1)).flatMap f := by
 induction l generalizing k with
 | nil => simp at h
 | cons a l ih =>
  cases k with
  | zero => simp at h; subst h; simp
  | succ k =>
   have := ih (k := k) (by simpa using h)
   rw [List.flatMap_cons, List.drop_succ_cons, <- this, show (k + 1) * z = (f a).length + k * z by rw [hf, Nat.add_mul]; omega, List.drop_length_add_append]
theorem Own.fzn {T T' : Tab} {z n : Nat} {v : AV} {xs : List AV} (h : Own T z v n xs T') : qdq v (fun x T'' => x = .fz n xs none /\ T'' = T) T' := by
 have h' := h
 refine q6g (Owns.one h) fun S hS => ?_
 obtain ⟨c, e⟩ := hS _ (List.mem_cons_self ..)
 simp only at e
 rcases h'.2 with ⟨rfl, _⟩ | ⟨id, rfl, _⟩ <;>
 ·simp only [qf6, q65, e]
  exact Wk.fz
theorem qls {T : Tab} {z b n m : Nat} {cells news : List AV} {y : AV} {K : AV -> Tab -> Prop} (hy : N1 T z y = some news) (hm : O0 y = m) (h0 : 0 < m) (hn : cells.length = n * z)
  (h1 : (n + m) * b <= 140737488355328) (h2 : n + m <= 9223372036854775807) (hk : ∀ v T2, Own T z v (n + m) (cells ++ news) T2 -> K v T2) : Z0 z b T (.fz n cells (some n)) y K := by
 have hlen := q5i hy
 rw [hm] at hlen
 unfold Z0
 rw [hy]
 simp only [hm]
 rw [if_neg (by omega)]
 refine ⟨hn, by omega, h1, h2, fun id hid => hk _ _ ⟨?_, .inr ⟨id, rfl, hid, rfl⟩⟩⟩
 rw [List.length_append, hn, hlen, Nat.add_mul]
def Gr (T : Tab) (z : Nat) (v : AV) (n : Nat) (xs : List AV) (T' : Tab) : Prop := Own T z v n xs T' \/ (v = .fz n xs (some n) /\ xs.length = n * z /\ T' = T)
theorem Gr.form {T T1 : Tab} {z n : Nat} {v : AV} {xs : List AV} (h : Gr T z v n xs T1) : v.plain = true /\ v.isOne = true /\ v.sto = true /\ v.cells = [v] /\ v.isLp = false /\ ∀ k, v.offLp k = v := by
 rcases h with h | ⟨rfl, _⟩
 ·exact h.form
 ·exact ⟨rfl, rfl, rfl, rfl, rfl, fun _ => rfl⟩
theorem Gr.app {T T1 : Tab} {z b n m : Nat} {v y : AV} {xs news : List AV} {K : AV -> Tab -> Prop} (h : Gr T z v n xs T1) (hy : N1 T1 z y = some news) (hm : O0 y = m) (h0 : 0 < m)
  (h1 : (n + m) * b <= 140737488355328) (h2 : n + m <= 9223372036854775807) (hk : ∀ v' T2, Own T z v' (n + m) (xs ++ news) T2 -> K v' T2) : Z0 z b T1 v y K := by
 rcases h with h | ⟨rfl, hx, rfl⟩
 ·exact h.app hy hm h1 h2 hk
 ·exact qls hy hm h0 hx h1 h2 hk
theorem Gr.fzn {T T' : Tab} {z n : Nat} {v : AV} {xs : List AV} (h : Gr T z v n xs T') : qdq v (fun x T'' => x = .fz n xs none /\ T'' = T) T' := by
 rcases h with h | ⟨rfl, hx, rfl⟩
 ·exact h.fzn
 ·exact K6 .fz rfl
theorem Gr.fin {T T' : Tab} {z n : Nat} {v : AV} {xs : List AV} {Q : AV -> Tab -> Prop} (h : Gr T z v n xs T') (hQ : ∀ v T', Gr T z v n xs T' -> Q v T') : qdq v Q T' :=
 q19 T' (fun _ => .inr (.inl rfl)) (hQ v T' h)
theorem Gr.sl {T T' : Tab} {z n : Nat} {v : AV} {xs : List AV} (h : Gr T z v n xs T') : N1 T' z v = some xs /\ O0 v = n := by
 rcases h with ⟨hx, h⟩ | ⟨rfl, hx, rfl⟩
 ·rcases h with ⟨rfl, rfl, rfl⟩ | ⟨id, rfl, hid, rfl⟩
  ·have : xs = [] := by simpa using hx
   subst this
   simp [N1, O0]
  ·simp only [N1, Tab.put_same, O0, Nat.zero_add, List.drop_zero, true_and, and_true]
   rw [if_pos (by omega), List.take_of_length_le (by omega)]
 ·simp only [N1, O0]
  rw [if_pos hx]; exact ⟨rfl, trivial⟩
theorem Gr.app0 {T T1 : Tab} {z b n m : Nat} {v y : AV} {xs news : List AV} {K : AV -> Tab -> Prop} (h : Gr T z v n xs T1) (hy : N1 T1 z y = some news) (hm : O0 y = m)
  (h1 : (n + m) * b <= 140737488355328) (h2 : n + m <= 9223372036854775807) (hk : ∀ v' T2, Gr T z v' (n + m) (xs ++ news) T2 -> K v' T2) : Z0 z b T1 v y K := by
 by_cases h0 : 0 < m
 ·exact h.app hy hm h0 h1 h2 fun v' T2 h => hk v' T2 (.inl h)
 ·have hm0 : m = 0 := by omega
  subst hm0
  have hl := q5i hy
  rw [hm, Nat.zero_mul] at hl
  have : news = [] := List.length_eq_zero_iff.1 hl
  subst this
  rcases h with h | ⟨rfl, hx, rfl⟩
  ·exact h.app hy hm h1 h2 fun v' T2 h => hk v' T2 (.inl h)
  ·unfold Z0
   rw [hy]
   simp only [hm, if_true]
   exact hk _ _ (.inr ⟨by simp, by simpa using hx, rfl⟩)
end Go.Aw
namespace Go.Aw
open Go
variable [Glob]
set_option linter.all false
theorem CallK.owns {P : Program} {f : FuncId} {avs : List AV} {T T' : Tab} {l : List Ow} {R k : AV -> Tab -> Prop} (h : Owns T l T')
  (hc : ∀ S, (∀ a ∈ l, ∃ cap, q64 T' S a.v = .fz a.n a.xs cap) -> ACalls P f (avs.map (q65 T' S)) T R) (hk : ∀ v T', R v T' -> k v T') : CallK P f avs T' k := by
 obtain ⟨S, k1, k2, k3, k4⟩ := h.fin
 unfold CallK
 exact ⟨S, R, k1, fun id hid => (k2 id hid).1, by rw [k3]; exact hc S k4, hk⟩
theorem Own.frzv {T T1 T2 : Tab} {S : List Nat} {z n : Nat} {v : AV} {xs : List AV} (h : Own T z v n xs T1) : Aw.q65 T2 S v = q64 T2 S v := by
 rcases h.2 with ⟨rfl, _⟩ | ⟨id, rfl, _⟩ <;> rfl
theorem SlotLe.trans {a b c : Slot} (h : SlotLe a b) (k : SlotLe b c) : SlotLe a c := by
 rcases h with rfl | rfl | ⟨z, cs, m, rfl, rfl⟩
 ·exact .inl rfl
 ·exact k
 ·rcases k with k | k | ⟨z', cs', m', rfl, k⟩
  ·cases k
  ·subst k; exact .inr (.inr ⟨z, cs, m, rfl, rfl⟩)
  ·injection k with k1 k2
   subst k1; subst k2
   exact .inr (.inr ⟨z, cs', min m m', rfl, by rw [List.take_take]⟩)
def TabLe (T T' : Tab) : Prop := ∀ j, SlotLe (T j) (T' j)
theorem TabLe.refl (T : Tab) : TabLe T T := fun _ => .inr (.inl rfl)
theorem TabLe.trans {T T1 T2 : Tab} (h : TabLe T T1) (k : TabLe T1 T2) : TabLe T T2 := fun j => (h j).trans (k j)
theorem TabLe.put {T T1 : Tab} {id : Nat} {s : Slot} (h : TabLe T T1) (hid : T id = .unused) : TabLe T (T1.put id s) := fun j => by
 by_cases e : j = id
 ·subst e; rw [hid]; exact .inl rfl
 ·rw [Tab.put_ne _ _ e]; exact h j
theorem Own.tabLe {T T' : Tab} {z n : Nat} {v : AV} {xs : List AV} (h : Own T z v n xs T') : TabLe T T' := (Owns.one h).le
theorem TabLe.unused {T T' : Tab} {id : Nat} (h : TabLe T T') (hid : T' id = .unused) : T id = .unused := by
 rcases h id with e | e | ⟨z, cs, m, e, _⟩
 ·exact e
 ·rw [e, hid]
 ·rw [hid] at e; cases e
theorem TabLe.fin {T T' : Tab} {r : AV} (h : TabLe T T') : qdq r (fun v T'' => v = r /\ T'' = T) T' := q19 T h ⟨rfl, rfl⟩
theorem Own.sl {T T' : Tab} {z n : Nat} {v : AV} {xs : List AV} (h : Own T z v n xs T') : N1 T' z v = some xs /\ O0 v = n := Gr.sl (.inl h)
theorem Own.ne {T T' : Tab} {z n : Nat} {v : AV} {xs : List AV} (h : Own T z v n xs T') (hn : 0 < n) : ∃ id, v = .sl id 0 n none /\ T id = .unused /\ T' = T.put id (.row z xs) := by
 rcases h.2 with ⟨_, e, _⟩ | h
 ·omega
 ·exact h
end Go.Aw
namespace Go.Aw
open Go
variable [Glob]
set_option linter.all false
def Indep (r : AV) : Prop := ∀ X X' w w' v, vr X w r v -> vr X' w' r v
theorem Indep.b {x : Bool} : Indep (.b x) := fun _ _ _ _ _ h => by simp only [vr] at h ⊢; exact h
theorem Indep.i {k : IntKind} {n : Int} : Indep (.i k n) := fun _ _ _ _ _ h => by simp only [vr] at h ⊢; exact h
theorem Indep.s {l : List UInt8} : Indep (.s l) := fun _ _ _ _ _ h => by simp only [vr] at h ⊢; exact h
theorem Indep.tup {l : List AV} (h : ∀ x ∈ l, Indep x) : Indep (.tup l) := fun X X' w w' v hv => by
 simp only [vr] at hv ⊢
 obtain ⟨us, h1, h2⟩ := hv
 refine ⟨us, ?_, h2⟩
 clear h2
 induction l generalizing us with
 | nil => simpa [vrs] using h1
 | cons x l ih =>
  simp only [vrs] at h1 ⊢
  obtain ⟨u, us', e, k1, k2⟩ := h1
  exact ⟨u, us', e, h x (List.mem_cons_self ..) _ _ _ _ _ k1, ih (fun y hy => h y (List.mem_cons_of_mem _ hy)) us' k2⟩
theorem ACalls.borrow {P : Program} {f : FuncId} {avs : List AV} {T : Tab} {S : List Nat} {r : AV} (hn : S.Nodup) (hS : ∀ id ∈ S, T id ≠ .unused) (h : PCalls P f (avs.map (q65 T S)) r) (hr : Indep r) :
  ACalls P f avs T (fun v T' => v = r /\ T' = T) := by
 intro X lam w cargs hrel hv
 have h0 : SR X T w X lam [] [] T { tmps := #[], defers := [] } w := ⟨hrel, .refl X T w, fun l c hc => by simp [O7] at hc, fun s x hs => by simp [O7] at hs, rfl⟩
 have h1 := h0.freezes S hn hS
 have h2 := h1.sub (T' := Tab.nil) (fun id => .inl rfl)
 have hv' : vrs (X.addFzs S) w (avs.map (q65 T S)) cargs := hv.map fun x v hx => q4m hrel hx
 have hc := h Tab.nil (X.addFzs S) lam w cargs h2.rel hv'
 refine hc.mono fun e w' ⟨v, x, T', X', lam', he, ⟨hx, hT⟩, hvr, hrel', hst⟩ => ?_
 subst hx; subst hT
 have hk : ∀ b, b < w.heap.size -> w'.heap[b]? = w.heap[b]? := fun b hb => hst.kept b hb fun ⟨id, hid, _⟩ => hid rfl
 have hfz : q0i X w w' := fun b hb => hk b (hrel.fzlt b hb)
 have hlt : ∀ id, T id ≠ .unused -> (X.β id).blk < w.heap.size := fun id hid => hrel.live_lt ⟨id, hid, rfl⟩
 refine ⟨v, x, T, X, lam, he, ⟨rfl, rfl⟩, hr _ _ _ _ _ hvr, ⟨hrel.fresh, fun b hb => Nat.lt_of_lt_of_le (hrel.fzlt b hb) hst.size, fun id esz cells hT => ?_, fun id es hT => ?_, hrel.live_fz, hrel.live_inj, fun l c hc => by simp [O7] at hc, fun l c hc => by simp [O7] at hc, fun l l' c c' hc => by simp [O7] at hc, fun l c hc => by simp [O7] at hc, Q8 (.refl X) hfz hrel.glob⟩,
  ⟨.refl X, hst.os, hst.tape, hst.output, hst.size, fun b hb _ => hk b hb, fun _ _ hf => .inl hf, fun _ _ hl => hl, fun _ _ hT => hT⟩⟩
 ·exact (hrel.row id esz cells hT).mono (.refl X) hfz (hrel.id_lt (by simp [hT])) (hk _ (hlt id (by simp [hT])))
 ·exact (hrel.map id es hT).mono (.refl X) hfz (hrel.id_lt (by simp [hT])) (hk _ (hlt id (by simp [hT])))
theorem CallK.borrow {P : Program} {f : FuncId} {avs : List AV} {T T' : Tab} {l : List Ow} {r : AV} {k : AV -> Tab -> Prop} (h : Owns T l T')
  (hc : ∀ S, (∀ a ∈ l, ∃ cap, q64 T' S a.v = .fz a.n a.xs cap) -> PCalls P f (avs.map (q65 T' S)) r) (hr : Indep r) (hk : k r T') : CallK P f avs T' k := by
 obtain ⟨S, k1, k2, k3, k4⟩ := h.fin
 exact CallK.as (ACalls.borrow k1 (fun id hid => (k2 id hid).1) (hc S k4) hr) hk
end Go.Aw
namespace Go.Aw
open Go
variable [Glob]
set_option linter.all false
theorem Wk.fzs {n : Nat} {cells cells' : List AV} {cap : Option Nat} (h : Wks cells cells') : Wk (.fz n cells cap) (.fz n cells' none) := fun X w v hv => by
 have h1 := Wk.fz (n := n) (cells := cells) (cap := cap) X w v hv
 simp only [vr] at h1 ⊢
 obtain ⟨us, h2, h3⟩ := h1
 exact ⟨us, h.vrs h2, h3⟩
theorem Wks.append : ∀ {a b c d : List AV}, Wks a b -> Wks c d -> Wks (a ++ c) (b ++ d)
 | [], [], _, _, _, h => h
 | _ :: _, _ :: _, _, _, h, k => ⟨h.1, Wks.append h.2 k⟩
section
variable {T : Tab} {S : List Nat}
theorem qs1 {k : IntKind} {n : Int} : frX T S (.i k n) = .i k n := rfl
theorem qs2 {x : Bool} : frX T S (.b x) = .b x := rfl
theorem qn2 {l o : Nat} : frX T S (.lp l o) = .lp l o := rfl
theorem Own.frX {T0 T1 : Tab} {z n : Nat} {v : AV} {xs : List AV} (h : Own T0 z v n xs T1) : Aw.frX T S v = q64 T S v := by
 rcases h.2 with ⟨rfl, _⟩ | ⟨id, rfl, _⟩ <;> rfl
end
theorem Own.lenAv {T0 T1 : Tab} {z n : Nat} {v : AV} {xs : List AV} (h : Own T0 z v n xs T1) : Aw.q50 false v = some (.i .i64 (n : Nat)) := by
 rcases h.2 with ⟨rfl, rfl, _⟩ | ⟨id, rfl, _⟩ <;> rfl
theorem Owns.lenAv {T T' : Tab} {a : Ow} {l : List Ow} (h : Owns T (a :: l) T') : Aw.q50 false a.v = some (.i .i64 (a.n : Nat)) := by
 obtain ⟨T0, _, ho⟩ := h
 exact ho.lenAv
theorem qbw {T : Tab} {S : List Nat} {id o : Nat} (h : id ∉ S) : frX T S (.ptr id o) = .ptr id o := by simp [frX, qf6, q65, q64, h]
end Go.Aw
namespace Go.Aw
open Go
set_option linter.all false
def enc (n : Nat) : List UInt8 := if h : n < 128 then [UInt8.ofNat n] else UInt8.ofNat (n % 128 + 128) :: enc (n / 128)
termination_by n
decreasing_by omega
theorem q04 {n : Nat} (h : n < 128) : enc n = [UInt8.ofNat n] := by rw [enc, dif_pos h]
theorem qbx {n : Nat} (h : ¬ n < 128) : enc n = UInt8.ofNat (n % 128 + 128) :: enc (n / 128) := by rw [enc, dif_neg h]
theorem qv4 : ∀ m : Fin 256, (BitVec.ofInt 8 (m.val : Int) ||| BitVec.ofInt 8 128).toNat = m.val % 128 + 128 := by decide +kernel
theorem qs3 : ∀ m : Fin 256, (BitVec.ofInt 8 (m.val : Int) &&& BitVec.ofInt 8 127).toNat = m.val % 128 := by decide +kernel
theorem qby (n : Int) : IntKind.u8.wrap n = n % 256 := by
 simp [IntKind.wrap, IntKind.signed, IntKind.bits]
theorem qo1 (n : Nat) : IntKind.u8.wrap ((BitVec.ofInt 8 (IntKind.u8.wrap (n : Int)) ||| BitVec.ofInt 8 128).toNat : Nat) = ((n % 128 + 128 : Nat) : Int) := by
 have h := qv4 ⟨n % 256, Nat.mod_lt _ (by decide)⟩
 simp only at h
 rw [qby (n : Int), show (n : Int) % 256 = ((n % 256 : Nat) : Int) by omega, h, qby]
 omega
end Go.Aw
namespace Go.Aw
open Go
set_option linter.all false
def dec : Nat -> Nat -> List UInt8 -> Option (Nat × Nat)
 | _, _, [] => none
 | i, a, c :: cs => if 9 < i \/ (i = 9 /\ 1 < c.toNat) then none else
   if c.toNat < 128 then (if c.toNat = 0 /\ 0 < i then none else some (a + c.toNat % 128 * 128 ^ i, i + 1)) else dec (i + 1) (a + c.toNat % 128 * 128 ^ i) cs
theorem qn3 (i : Nat) : 128 ^ i = 2 ^ (7 * i) := by rw [show 128 = 2 ^ 7 from rfl, <- Nat.pow_mul]
theorem qs4 (m : Nat) : enc m ≠ [] := by rw [enc]; split <;> simp
theorem qiy : ∀ (k m : Nat), m < 128 ^ (k + 1) -> (enc m).length <= k + 1
 | 0, m, h => by rw [q04 (by omega)]; simp
 | k + 1, m, h => by
  by_cases h1 : m < 128
  ·rw [q04 h1]; simp
  ·rw [qbx h1]
   have := qiy k (m / 128) (by rw [Nat.div_lt_iff_lt_mul (by decide)]; rw [Nat.pow_succ] at h; omega)
   simp; omega
theorem q6h {m : Nat} (h : m < 18446744073709551616) : (enc m).length <= 10 := qiy 9 m (by omega)
theorem qiz : ∀ (k n i a : Nat) (rest : List UInt8), i + k = 9 -> n < 128 ^ (k + 1) -> n * 128 ^ i < 18446744073709551616 -> (0 < i -> 0 < n) -> dec i a (enc n ++ rest) = some (a + n * 128 ^ i, i + (enc n).length)
 | k, n, i, a, rest, hk, hn, hb, h0 => by
  by_cases hs : n < 128
  ·rw [q04 hs]
   have e : (UInt8.ofNat n).toNat = n := by rw [UInt8.toNat_ofNat_of_lt' (by show n < 256; omega)]
   simp only [List.cons_append, List.nil_append, dec, e, List.length_cons, List.length_nil, Nat.zero_add]
   rw [if_neg, if_pos hs, if_neg, Nat.mod_eq_of_lt hs]
   ·rintro ⟨h1, h2⟩; have := h0 h2; omega
   ·rintro (h | ⟨rfl, h⟩)
    ·omega
    ·have : (128 : Nat) ^ 9 = 9223372036854775808 := by decide
     rw [this] at hb
     omega
  ·rw [qbx hs]
   have e : (UInt8.ofNat (n % 128 + 128)).toNat = n % 128 + 128 := by rw [UInt8.toNat_ofNat_of_lt' (by show n % 128 + 128 < 256; omega)]
   have hk0 : k ≠ 0 := by rintro rfl; simp at hn; omega
   obtain ⟨j, rfl⟩ := Nat.exists_eq_succ_of_ne_zero hk0
   have hp : 0 < 128 ^ i := Nat.pow_pos (by decide)
   have hdiv : n / 128 * 128 + n % 128 = n := by omega
   have hsplit : n * 128 ^ i = n % 128 * 128 ^ i + n / 128 * 128 ^ (i + 1) := by
    rw [Nat.pow_succ]
    calc n * 128 ^ i = (n / 128 * 128 + n % 128) * 128 ^ i := by rw [hdiv]
     _ = n % 128 * 128 ^ i + n / 128 * (128 ^ i * 128) := by rw [Nat.add_mul, Nat.add_comm, Nat.mul_assoc, Nat.mul_comm 128]
   simp only [List.cons_append, dec, e, List.length_cons]
   rw [if_neg (by omega), if_neg (by omega), qiz j (n / 128) (i + 1) _ rest (by omega) (by rw [Nat.div_lt_iff_lt_mul (by decide)]; rw [Nat.pow_succ] at hn; omega) (by omega) (by intro _; omega)]
   rw [show (n % 128 + 128) % 128 = n % 128 by omega, hsplit]
   congr 2
   ·omega
   ·omega
theorem qo2 {n : Nat} (h : n < 18446744073709551616) (rest : List UInt8) : dec 0 0 (enc n ++ rest) = some (n, (enc n).length) := by
 rw [qiz 9 n 0 0 rest rfl (by omega) (by simpa using h) (by omega)]; simp
theorem qj0 : ∀ (bs : List UInt8) (i a n z : Nat), i <= 10 -> a < 128 ^ i -> dec i a bs = some (n, z) -> ∃ m, n = a + m * 128 ^ i /\ z = i + (enc m).length /\ (enc m).length <= bs.length /\ bs.take (enc m).length = enc m /\ n < 18446744073709551616 /\ (0 < i -> 0 < m)
 | [], _, _, _, _, _, _, h => by simp [dec] at h
 | c :: cs, i, a, n, z, hi, ha, h => by
  simp only [dec] at h
  have hc := c.toNat_lt
  split at h
  ·cases h
  ·rename_i hn
   have hi9 : i <= 9 := by omega
   have hp : 0 < 128 ^ i := Nat.pow_pos (by decide)
   split at h
   ·rename_i hs
    split at h
    ·cases h
    ·rename_i hz
     injection h with h; injection h with h1 h2
     subst h1; subst h2
     have e : UInt8.ofNat c.toNat = c := by simp
     refine ⟨c.toNat, by rw [Nat.mod_eq_of_lt hs], by rw [q04 hs]; rfl, by rw [q04 hs]; simp, by rw [q04 hs]; simp, ?_, by omega⟩
     rw [Nat.mod_eq_of_lt hs]
     by_cases h9 : i = 9
     ·subst h9
      have : (128 : Nat) ^ 9 = 9223372036854775808 := by decide
      rw [this] at ha ⊢
      have : c.toNat <= 1 := by omega
      omega
     ·have h8 : 128 ^ i <= 128 ^ 8 := Nat.pow_le_pow_right (by decide) (by omega)
      have h88 : (128 : Nat) ^ 8 = 72057594037927936 := by decide
      have : c.toNat * 128 ^ i <= 127 * 128 ^ i := Nat.mul_le_mul_right _ (by omega)
      omega
   ·rename_i hs
    have hn9 : i ≠ 9 := by omega
    have ha' : a + c.toNat % 128 * 128 ^ i < 128 ^ (i + 1) := by
     have : c.toNat % 128 * 128 ^ i <= 127 * 128 ^ i := Nat.mul_le_mul_right _ (by omega)
     rw [Nat.pow_succ]; omega
    obtain ⟨m, h1, h2, h3, h4, h5, h6⟩ := qj0 cs (i + 1) _ n z (by omega) ha' h
    have hm := h6 (by omega)
    have hbig : ¬ (m * 128 + c.toNat % 128 < 128) := by omega
    have e1 : (m * 128 + c.toNat % 128) % 128 = c.toNat % 128 := by omega
    have e2 : (m * 128 + c.toNat % 128) / 128 = m := by omega
    have e3 : UInt8.ofNat (c.toNat % 128 + 128) = c := by
     apply UInt8.toNat_inj.1
     rw [UInt8.toNat_ofNat_of_lt' (by show c.toNat % 128 + 128 < 256; omega)]; omega
    have henc : enc (m * 128 + c.toNat % 128) = c :: enc m := by rw [qbx hbig, e1, e2, e3]
    refine ⟨m * 128 + c.toNat % 128, ?_, by rw [henc, h2, List.length_cons]; omega, by rw [henc, List.length_cons, List.length_cons]; omega, by rw [henc, List.length_cons, List.take_succ_cons, h4], h5, by omega⟩
    rw [h1, Nat.pow_succ, Nat.add_mul, Nat.mul_assoc, Nat.mul_comm 128 (128 ^ i)]; omega
theorem qfh {bs : List UInt8} {n z : Nat} (h : dec 0 0 bs = some (n, z)) : z = (enc n).length /\ z <= bs.length /\ bs = enc n ++ bs.drop z /\ n < 18446744073709551616 := by
 obtain ⟨m, h1, h2, h3, h4, h5, _⟩ := qj0 bs 0 0 n z (by omega) (by decide) h
 have e : n = m := by omega
 subst e
 have hz : z = (enc n).length := by omega
 refine ⟨hz, by omega, ?_, h5⟩
 have h6 := (List.take_append_drop z bs).symm
 rw [hz, h4] at h6
 rw [hz]
 exact h6
abbrev RS := List UInt8 × Bool
def q1a (k : Nat) (s : RS) : Nat × RS :=
 if s.2 = true then (0, s) else match dec 0 0 s.1 with
  | some (n, z) => if n <= k then (n, (s.1.drop z, false)) else (0, (s.1, true))
  | none => (0, (s.1, true))
theorem qj1 {k : Nat} {s : RS} (h : s.2 = true) : q1a k s = (0, s) := by simp [q1a, h]
theorem qj2 (k : Nat) (s : RS) : (q1a k s).2.1.length <= s.1.length := by
 unfold q1a
 split
 ·exact Nat.le_refl _
 ·split
  ·split
   ·simp
   ·exact Nat.le_refl _
  ·exact Nat.le_refl _
theorem qd6 {k n : Nat} (h : n <= k) (hk : n < 18446744073709551616) (rest : List UInt8) : q1a k (enc n ++ rest, false) = (n, (rest, false)) := by
 simp only [q1a, Bool.false_eq_true, if_false, qo2 hk, if_pos h]
 rw [List.drop_left' rfl]
end Go.Aw
namespace Go.Aw
open Go
variable [Glob]
set_option linter.all false
theorem qs5 {a b : Nat} (h : a <= b) (hb : Len b) : Len a := by unfold Len at *; omega
theorem Own.at {B T1 : Tab} {id z n : Nat} {v : AV} {xs : List AV} (h : Own B z v n xs T1) (hB : B id ≠ .unused) : T1 id = B id := Owns.base_get hB (Owns.one h)
end Go.Aw
namespace Go.Aw
open Go Go.ChangeShapes Go.WideShapes Go.ChangeAt Go.RowKit
variable [Glob]
set_option linter.all false
inductive Ty where
 | int (k : IntKind)
 | bool
 | str
 | sl (e : Ty)
 | st (fs : List Ty)
 | ar (n : Nat) (e : Ty)
mutual
def q40 : Ty -> List AV -> Prop
 | .int k, cs => ∃ n, cs = [.i k n] /\ (Lit.int k n).wf = true
 | .bool, cs => ∃ b, cs = [.b b]
 | .str, cs => ∃ l : List UInt8, cs = [.s l] /\ l.length <= maxLen
 | .sl e, cs => ∃ ps : List (List AV), ps.length <= maxLen /\ (∀ p ∈ ps, q40 e p) /\ ∃ k, cs = [.fz ps.length ps.flatten k]
 | .st fs, cs => q89 fs cs
 | .ar n e, cs => ∃ ps : List (List AV), ps.length = n /\ (∀ p ∈ ps, q40 e p) /\ cs = ps.flatten
def q89 : List Ty -> List AV -> Prop
 | [], cs => cs = []
 | f :: fs, cs => ∃ a b, cs = a ++ b /\ q40 f a /\ q89 fs b
end
mutual
def qcm (P : Program) : Ty -> TypeId -> Bool
 | .int k, t => match P.underlying t with
  | some (.int k') => decide (k' = k)
  | _ => false
 | .bool, t => match P.underlying t with
  | some .bool => true
  | _ => false
 | .str, t => match P.underlying t with
  | some .string => true
  | _ => false
 | .sl e, t => match P.underlying t with
  | some (.slice e') => qcm P e e'
  | _ => false
 | .st fs, t => match P.underlying t with
  | some (.struct gs) => qe9 P fs gs.toList 0 (P.cellsOf t)
  | _ => false
 | .ar n e, t => match P.underlying t with
  | some (.array m e') => decide (m = n) && qcm P e e' && decide (P.cellsOf t = n * P.cellsOf e')
  | _ => false
def qe9 (P : Program) : List Ty -> List Field -> Nat -> Nat -> Bool
 | [], [], o, n => decide (o = n)
 | f :: fs, g :: gs, o, n => decide (g.offset = o) && qcm P f g.type && qe9 P fs gs (o + P.cellsOf g.type) n
 | _, _, _, _ => false
end
section
variable {P : Program} {X : Cx} {W : World} {H : Type} {enc : TypeId × Value -> H} {base : Nat} {sp : Nat -> Bool} {held : Bool}
theorem qlt {a : Addr} {j : Nat} {u : Value} (h : W.cell? (a.add j) = some u) : W.cell? ⟨a.block, a.off + j, none⟩ = some u := by
 by_cases hj : j = 0
 ·subst hj
  have e : a.add 0 = a := by simp [Addr.add]
  rw [e] at h
  have hs : a.spot = none := by
   unfold World.cell? at h
   split at h
   ·split at h
    ·cases h
    ·rename_i hs; simpa using hs
   ·cases h
  rw [q4l hs] at h
  simpa using h
 ·simpa [Addr.add, hj] using h
theorem add_add' (a : Addr) (i j : Nat) : (a.add i).add j = a.add (i + j) := by
 unfold Addr.add
 by_cases hi : i = 0 <;> by_cases hj : j = 0 <;> simp [hi, hj, Nat.add_assoc]
theorem qj3 {a : Addr} {u : Value} (h : W.cell? a = some u) : a.block < W.heap.size := by
 unfold World.cell? at h
 split at h
 ·rename_i hb; exact (Array.getElem?_eq_some_iff.1 hb).1
 ·cases h
theorem qj4 {a : Addr} {u : Value} (h : W.cell? a = some u) : a.spot = none := by
 unfold World.cell? at h
 split at h
 ·split at h
  ·cases h
  ·rename_i hs; simpa using hs
 ·cases h
theorem qea {l m : List AV} {us vs : List Value} (h : vrs X W l us) (k : vrs X W m vs) : vrs X W (l ++ m) (us ++ vs) := by
 induction l generalizing us with
 | nil => simp only [vrs] at h; subst h; exact k
 | cons x l ih =>
  simp only [vrs] at h
  obtain ⟨u, us', rfl, h1, h2⟩ := h
  exact ⟨u, us' ++ vs, rfl, h1, ih h2⟩
theorem qlu {z : Nat} {e : Ty} {a : Addr} {len : Nat} (h : ∀ i, i < len -> ∃ cs ps, cs.length = z /\ (∀ r, r < z -> W.cell? ((a.add (i * z)).add r) = cs[r]?) /\ vrs X W ps cs /\ q40 e ps /\ ∀ u ∈ cs, u.oneCell' = true) :
  ∃ (us : List Value) (ps : List (List AV)), ps.length = len /\ us.length = len * z /\ vrs X W ps.flatten us /\ (∀ p ∈ ps, q40 e p) /\ (∀ u ∈ us, u.oneCell' = true) /\ ∀ (j : Nat) u, us[j]? = some u -> W.cell? (a.add j) = some u := by
 induction len with
 | zero => exact ⟨[], [], rfl, by simp, by simp [vrs], by simp, by simp, by simp⟩
 | succ n ih =>
  obtain ⟨us, ps, h1, h2, h3, h4, h5, h6⟩ := ih fun i hi => h i (Nat.lt_succ_of_lt hi)
  obtain ⟨cs, p, k1, k2, k3, k4, k5⟩ := h n (Nat.lt_succ_self n)
  refine ⟨us ++ cs, ps ++ [p], by simp [h1], by simp [h2, k1, Nat.succ_mul], ?_, ?_, ?_, ?_⟩
  ·rw [List.flatten_append]
   simpa using qea h3 k3
  ·intro q hq
   rcases List.mem_append.1 hq with hq | hq
   ·exact h4 q hq
   ·rw [List.mem_singleton] at hq; subst hq; exact k4
  ·intro u hu
   rcases List.mem_append.1 hu with hu | hu
   ·exact h5 u hu
   ·exact k5 u hu
  ·intro j u hj
   by_cases hlt : j < us.length
   ·rw [List.getElem?_append_left hlt] at hj; exact h6 j u hj
   ·rw [List.getElem?_append_right (by omega)] at hj
    have hr : j - us.length < z := by rw [<- k1]; exact (List.getElem?_eq_some_iff.1 hj).1
    have := k2 (j - us.length) hr
    rw [hj, add_add', show n * z + (j - us.length) = j by omega] at this
    exact this
mutual
theorem qbz (hX : ∀ b, b < W.heap.size -> X.fz b) : ∀ (ty : Ty) {t : TypeId} {fuel : Nat} {cs : List Value} {x : DataW H × List MemPlace}, qcm P ty t = true -> DataW.trod enc P W base sp held fuel t cs = some x ->
  ∃ avs, vrs X W avs cs /\ q40 ty avs /\ ∀ u ∈ cs, u.oneCell' = true
 | .int k, t, fuel, cs, x, ht, h => by
  simp only [qcm] at ht
  split at ht
  ·rename_i k' hu
   have hk : k' = k := of_decide_eq_true ht
   subst hk
   obtain ⟨n, e1, _, hw⟩ := DataW.trod_int hu h
   subst e1
   exact ⟨[.i k' n], by simp [vrs, vr], by simp only [q40]; exact ⟨n, rfl, hw⟩, by simp [Value.oneCell']⟩
  ·cases ht
 | .bool, t, fuel, cs, x, ht, h => by
  simp only [qcm] at ht
  split at ht
  ·rename_i hu
   cases fuel with
   | zero => simp [DataW.trod] at h
   | succ n =>
    unfold DataW.trod at h
    rw [hu] at h
    split at h <;> simp_all
    rename_i b
    exact ⟨[.b b], by simp [vrs, vr], by simp only [q40]; exact ⟨b, rfl⟩, by simp [Value.oneCell']⟩
  ·cases ht
 | .str, t, fuel, cs, x, ht, h => by
  simp only [qcm] at ht
  split at ht
  ·rename_i hu
   cases fuel with
   | zero => simp [DataW.trod] at h
   | succ n =>
    unfold DataW.trod at h
    rw [hu] at h
    split at h <;> simp_all
    rename_i s
    exact ⟨[.s s.data.toList], by simp [vrs, vr], by simp only [q40]; exact ⟨_, rfl, by have h1 := h.1; rw [Array.length_toList]; exact h1⟩, by simp [Value.oneCell']⟩
  ·cases ht
 | .sl e, t, fuel, cs, x, ht, h => by
  simp only [qcm] at ht
  split at ht
  ·rename_i e' hu
   rcases DataW.trod_slice hu h with ⟨rfl, _⟩ | ⟨a, len, cap, elems, rest, n, _, rfl, _, _, hl, hm, hlen, hel, _⟩
   ·exact ⟨[.fz 0 [] (some 0)], by simp [vrs, vr, fzSlice, qcn], by simp only [q40]; exact ⟨[], Nat.zero_le _, by simp, some 0, rfl⟩, by simp [Value.oneCell']⟩
   ·obtain ⟨us, ps, h1, h2, h3, h4, h5, h6⟩ := qlu (X := X) (W := W) (z := P.cellsOf e') (e := e) (a := a) (len := len) (fun i hi => by
     have k := hel i hi
     rw [List.getElem?_eq_getElem (by omega)] at k
     obtain ⟨cs', k1, k2⟩ := Option.bind_eq_some_iff.1 k
     obtain ⟨_, k3, k4⟩ := World.cells?_some k1
     obtain ⟨ps, k5, k6, k7⟩ := qbz hX e ht k2
     exact ⟨cs', ps, k3, k4, k5, k6, k7⟩)
    refine ⟨[.fz len ps.flatten none], ?_, ?_, by simp [Value.oneCell']⟩
    ·simp only [vrs, vr]
     refine ⟨_, [], rfl, ⟨us, h3, .inr ⟨a, cap, rfl, ?_, hl, (fun k hk => by cases hk), ?_⟩⟩, rfl⟩
     ·cases us with
      | nil => exact .inl rfl
      | cons u us =>
       have := h6 0 u rfl
       have e0 : a.add 0 = a := by simp [Addr.add]
       rw [e0] at this
       exact .inr (qj4 this)
     ·cases us with
      | nil => exact .inl rfl
      | cons u us =>
       have := h6 0 u rfl
       have e0 : a.add 0 = a := by simp [Addr.add]
       rw [e0] at this
       exact .inr ⟨hX _ (qj3 this), h5, fun j v hv => qlt (h6 j v hv)⟩
    ·simp only [q40]
     exact ⟨ps, by omega, h4, none, by rw [h1]⟩
  ·cases ht
 | .st fs, t, fuel, cs, x, ht, h => by
  simp only [qcm] at ht
  split at ht
  ·rename_i gs hu
   obtain ⟨xs, n, _, _, hl, hlen, hf⟩ := DataW.trod_struct hu h
   obtain ⟨avs, h1, h2, h3⟩ := qfi hX fs (cs := cs) (o := 0) (n := P.cellsOf t) (m := n) (gs := gs.toList) ht (by omega) (fun g hg => by
    obtain ⟨i, hi, rfl⟩ := List.mem_iff_getElem.1 hg
    have hi' : i < gs.size := by simpa using hi
    have := hf i gs[i] (Array.getElem?_eq_getElem hi')
    rw [List.getElem?_eq_getElem (by omega)] at this
    exact ⟨_, by simpa using this⟩)
   refine ⟨avs, ?_, ?_, ?_⟩
   ·simpa using h1
   ·simp only [q40]; exact h2
   ·simpa using h3
  ·cases ht
 | .ar n e, t, fuel, cs, x, ht, h => by
  simp only [qcm] at ht
  split at ht
  ·rename_i m e' hu
   simp only [Bool.and_eq_true, decide_eq_true_eq] at ht
   obtain ⟨⟨rfl, ht⟩, hc⟩ := ht
   obtain ⟨xs, q, _, _, hl, hlen, hf⟩ := DataW.trod_array hu h
   rw [hc] at hl
   have key : ∀ k, k <= m -> ∃ ps : List (List AV), ps.length = k /\ (∀ p ∈ ps, q40 e p) /\ vrs X W ps.flatten (cs.take (k * P.cellsOf e')) /\ ∀ u ∈ cs.take (k * P.cellsOf e'), u.oneCell' = true := by
    intro k
    induction k with
    | zero => intro _; exact ⟨[], rfl, by simp, by simp [vrs], by simp⟩
    | succ k ih =>
     intro hk
     obtain ⟨ps, h1, h2, h3, h4⟩ := ih (by omega)
     have hx := hf k (by omega)
     rw [List.getElem?_eq_getElem (by omega)] at hx
     obtain ⟨avs, a1, a2, a3⟩ := qbz hX e ht hx
     have e1 : cs.take ((k + 1) * P.cellsOf e') = cs.take (k * P.cellsOf e') ++ (cs.drop (k * P.cellsOf e')).take (P.cellsOf e') := by
      rw [Nat.add_mul, Nat.one_mul, List.take_add]
     rw [e1]
     refine ⟨ps ++ [avs], by simp [h1], ?_, ?_, ?_⟩
     ·intro p hp
      rcases List.mem_append.1 hp with hp | hp
      ·exact h2 p hp
      ·rw [List.mem_singleton] at hp; subst hp; exact a2
     ·rw [List.flatten_append]; simpa using qea h3 a1
     ·intro u hu
      rcases List.mem_append.1 hu with hu | hu
      ·exact h4 u hu
      ·exact a3 u hu
   obtain ⟨ps, h1, h2, h3, h4⟩ := key m (Nat.le_refl _)
   rw [List.take_of_length_le (by omega)] at h3 h4
   exact ⟨ps.flatten, h3, by simp only [q40]; exact ⟨ps, h1, h2, rfl⟩, h4⟩
  ·cases ht
theorem qfi (hX : ∀ b, b < W.heap.size -> X.fz b) : ∀ (fs : List Ty) {gs : List Field} {o n m : Nat} {cs : List Value}, qe9 P fs gs o n = true -> cs.length = n ->
  (∀ g ∈ gs, ∃ x, DataW.trod enc P W base sp held m g.type ((cs.drop g.offset).take (P.cellsOf g.type)) = some x) ->
  ∃ avs, vrs X W avs (cs.drop o) /\ q89 fs avs /\ ∀ u ∈ cs.drop o, u.oneCell' = true
 | [], gs, o, n, m, cs, ht, hn, h => by
  cases gs with
  | cons g gs => simp [qe9] at ht
  | nil =>
   simp only [qe9] at ht
   have : o = n := of_decide_eq_true ht
   have e : cs.drop o = [] := List.drop_eq_nil_of_le (by omega)
   rw [e]
   exact ⟨[], by simp [vrs], by simp only [q89], by simp⟩
 | f :: fs, gs, o, n, m, cs, ht, hn, h => by
  cases gs with
  | nil => simp [qe9] at ht
  | cons g gs =>
   simp only [qe9, Bool.and_eq_true] at ht
   obtain ⟨⟨h1, h2⟩, h3⟩ := ht
   have ho : g.offset = o := of_decide_eq_true h1
   obtain ⟨x, hx⟩ := h g (List.mem_cons_self ..)
   rw [ho] at hx
   obtain ⟨a, a1, a2, a3⟩ := qbz hX f h2 hx
   obtain ⟨b, b1, b2, b3⟩ := qfi hX fs h3 hn fun g' hg' => h g' (List.mem_cons_of_mem _ hg')
   have e : cs.drop o = (cs.drop o).take (P.cellsOf g.type) ++ cs.drop (o + P.cellsOf g.type) := by
    rw [<- List.drop_drop]; exact (List.take_append_drop _ _).symm
   rw [e]
   refine ⟨a ++ b, qea a1 b1, ?_, ?_⟩
   ·simp only [q89]; exact ⟨a, b, rfl, a2, b2⟩
   ·intro u hu
    rcases List.mem_append.1 hu with hu | hu
    ·exact a3 u hu
    ·exact b3 u hu
end
def qgl : Ty -> AV -> Prop
 | .st fs, a => ∃ cells, a = .agg cells /\ q89 fs cells
 | .ar n e, a => ∃ cells, a = .agg cells /\ q40 (.ar n e) cells
 | ty, a => q40 ty [a]
def q9b : List Ty -> List AV -> Prop
 | [], as => as = []
 | t :: ts, as => ∃ a as', as = a :: as' /\ qgl t a /\ q9b ts as'
def qb0 (P : Program) : List Ty -> List TypeId -> Bool
 | [], [] => true
 | ty :: tys, t :: ts => qcm P ty t && qb0 P tys ts
 | _, _ => false
theorem qfj {v : Value} {avs : List AV} {ty : Ty} (h : ∀ cs, v ≠ .agg cs) (h1 : vrs X W avs v.cells.toList) (h2 : q40 ty avs) : ∃ a, vr X W a v /\ q40 ty [a] := by
 have e : v.cells = #[v] := by
  cases v <;> first | rfl | exact absurd rfl (h _)
 rw [e] at h1
 match avs, h1 with
 | [a], h1 =>
  simp only [vrs] at h1
  obtain ⟨u, us', hu, h1, rfl⟩ := h1
  injection hu with hu; subst hu
  exact ⟨a, h1, h2⟩
 | [], h1 => simp [vrs] at h1
 | a :: b :: l, h1 =>
  simp only [vrs] at h1
  obtain ⟨u, us', hu, _, u2, us2, rfl, _⟩ := h1
  simp at hu
theorem qs6 (hX : ∀ b, b < W.heap.size -> X.fz b) {ty : Ty} {t : TypeId} {v : Value} {d : DataW H} {ps : List MemPlace} {r : Reach} {b0 : Nat} (ht : qcm P ty t = true) (hval : Value.okWide P W r b0 t v) (hd : DataW.Trod enc P W base sp held t v d ps) :
  ∃ a, vr X W a v /\ qgl ty a := by
 obtain ⟨fuel, h⟩ := hd
 obtain ⟨avs, h1, h2, h3⟩ := qbz hX ty ht h
 cases ty with
 | st fs =>
  simp only [qcm] at ht
  split at ht
  ·rename_i gs hu
   unfold Value.okWide at hval
   rw [hu] at hval
   obtain ⟨cs, rfl, _⟩ := hval
   exact ⟨.agg avs, by simp only [vr]; exact ⟨cs.toList, h1, h3, by simp⟩, avs, rfl, h2⟩
  ·cases ht
 | ar n e =>
  simp only [qcm] at ht
  split at ht
  ·rename_i m e' hu
   unfold Value.okWide at hval
   rw [hu] at hval
   obtain ⟨cs, rfl, _⟩ := hval
   exact ⟨.agg avs, by simp only [vr]; exact ⟨cs.toList, h1, h3, by simp⟩, avs, rfl, h2⟩
  ·cases ht
 | int k =>
  refine qfj (fun cs e => ?_) h1 h2
  subst e
  simp only [qcm] at ht
  split at ht
  ·rename_i k' hu
   unfold Value.okWide Cell.okWide Cell.ok at hval
   rw [hu] at hval
   exact hval
  ·cases ht
 | bool =>
  refine qfj (fun cs e => ?_) h1 h2
  subst e
  simp only [qcm] at ht
  split at ht
  ·rename_i hu
   unfold Value.okWide Cell.okWide Cell.ok at hval
   rw [hu] at hval
   exact hval
  ·cases ht
 | str =>
  refine qfj (fun cs e => ?_) h1 h2
  subst e
  simp only [qcm] at ht
  split at ht
  ·rename_i hu
   unfold Value.okWide Cell.okWide Cell.ok at hval
   rw [hu] at hval
   exact hval
  ·cases ht
 | sl e =>
  refine qfj (fun cs e => ?_) h1 h2
  subst e
  simp only [qcm] at ht
  split at ht
  ·rename_i e' hu
   unfold Value.okWide Cell.okWide Cell.ok at hval
   rw [hu] at hval
   exact hval
  ·cases ht
theorem qj5 (hX : ∀ b, b < W.heap.size -> X.fz b) {r : Reach} {b0 : Nat} : ∀ {tys : List Ty} {ts : List TypeId} {vs : List Value} {ds : List (DataW H)} {ps : List MemPlace}, qb0 P tys ts = true ->
  (∀ (j : Nat) t v, ts[j]? = some t -> vs[j]? = some v -> Value.okWide P W r b0 t v) -> DataW.TrodAll enc P W base sp held ts vs ds ps -> ∃ as, vrs X W as vs /\ q9b tys as
 | [], [], vs, ds, ps, _, _, h => by
  obtain ⟨rfl, _, _⟩ := trodAll_nil h
  exact ⟨[], by simp [vrs], by simp only [q9b]⟩
 | ty :: tys, t :: ts, vs, ds, ps, ht, hv, h => by
  simp only [qb0, Bool.and_eq_true] at ht
  obtain ⟨v, vs', d, ds', p, q, rfl, rfl, rfl, hd, hrest⟩ := trodAll_cons h
  obtain ⟨a, h1, h2⟩ := qs6 hX ht.1 (hv 0 t v rfl rfl) hd
  obtain ⟨as, h3, h4⟩ := qj5 hX ht.2 (fun j t v h5 h6 => hv (j + 1) t v (by simpa using h5) (by simpa using h6)) hrest
  exact ⟨a :: as, by simp only [vrs]; exact ⟨v, vs', rfl, h1, h3⟩, by simp only [q9b]; exact ⟨a, as, rfl, h2, h4⟩⟩
 | [], _ :: _, _, _, _, ht, _, _ => by simp [qb0] at ht
 | _ :: _, [], _, _, _, ht, _, _ => by simp [qb0] at ht
theorem q6i (hl : laidOutB P = true) {W' : World} (hb : Below W.heap.size W W') : ∀ {ts : List TypeId} {vs : List Value} {ds : List (DataW H)} {ps : List MemPlace}, (∀ t ∈ ts, P.readableRec t = true /\ t < P.types.size) ->
  DataW.TrodAll enc P W 0 (fun _ => true) true ts vs ds ps -> (∀ x ∈ ps, x.block < W.heap.size) -> DataW.TrodAll enc P W' 0 (fun b => decide (b < W.heap.size)) true ts vs ds ps
 | [], vs, ds, ps, _, h, _ => by
  obtain ⟨rfl, rfl, rfl⟩ := trodAll_nil h
  simp [DataW.TrodAll]
 | t :: ts, vs, ds, ps, hp, h, hx => by
  obtain ⟨v, vs', d, ds', p, q, rfl, rfl, rfl, hd, hrest⟩ := trodAll_cons h
  have h1 := hp t (List.mem_cons_self ..)
  exact ⟨p, q, Below.trod hl h1.1 h1.2 hd hb (fun x hm => hx x (List.mem_append_left _ hm)), q6i hl hb (fun t ht => hp t (List.mem_cons_of_mem _ ht)) hrest (fun x hm => hx x (List.mem_append_right _ hm)), rfl⟩
def cx0 (W : World) : Cx := ⟨fun b => b < W.heap.size, fun _ => default, 0⟩
theorem qw3 (W : World) (hg : ∀ p ∈ Glob.gl, W.cell? ⟨p.1, 0, none⟩ = some p.2) : Rel (cx0 W) Tab.nil [] (fun _ => 0) W := by
 have hn : ∀ id, Tab.nil id = .unused := fun _ => rfl
 refine ⟨fun _ _ => rfl, fun b h => h, fun id z c h => ?_, fun id es h => ?_, fun id h => absurd (hn id) h, fun id id' h => absurd (hn id) h, fun l c h => ?_, fun l c h => ?_, fun l l' c c' h => ?_, fun l c h => ?_, fun p hp => ⟨qj3 (hg p hp), hg p hp⟩⟩
 ·rw [hn] at h; cases h
 ·rw [hn] at h; cases h
 ·simp [O7] at h
 ·simp [O7] at h
 ·simp [O7] at h
 ·simp [O7] at h
theorem qs7 {X' : Cx} {T' : Tab} {W' : World} (h : Step (cx0 W) Tab.nil W X' T' W') : Below W.heap.size W W' :=
 ⟨h.os, h.tape, h.output, h.size, fun k hk => h.kept k hk fun ⟨id, hid, _⟩ => hid rfl⟩
theorem qo3 {f : FuncId} {fn : Func} {s : ChangeSpec} {tb : TypeId} {apart fresh : Bool} (tys : List Ty) (hty : qb0 P tys fn.params.toList = true) (hr : fn.resultTypes = #[tb]) (htb : P.underlying tb = some .bool) (hvars : s.vars = [])
  (hs : ∀ (ds : List (DataW H)), ds.length = fn.params.size -> s.fn H ds = { results := [.lit (.bool true)], args := ds }) (hl : laidOutB P = true) (hp : ∀ t ∈ fn.params.toList, P.readableRec t = true /\ t < P.types.size)
  (hcall : ∀ as, q9b tys as -> ACalls P f as Tab.nil (fun v T' => v = .b true /\ T' = Tab.nil)) (W : World) (hgl : ∀ p ∈ Glob.gl, W.cell? ⟨p.1, 0, none⟩ = some p.2) (base : Nat) (args : Array Value) (ds gs : List (DataW H)) (before : List MemPlace)
  (hval : ∀ (j : Nat) t v, fn.params[j]? = some t -> args[j]? = some v -> Value.okWide P W .any base t v) (hW : DataW.Whole enc P fn.params.toList s.vars apart W args.toList ds gs before) :
  Calls P f args W fun e W' => ∃ v, e = .returned v /\ s.post enc P fn apart fresh false false W args v W' := by
 have hlt : ∀ p ∈ before, p.block < W.heap.size := fun p hp => hW.lt p hp
 have hW' := hW
 obtain ⟨p, q, hA, hV, rfl, hfz, hnd⟩ := hW
 rw [hvars] at hV
 obtain ⟨rfl, rfl⟩ := trodVars_none hV
 obtain ⟨as, h1, h2⟩ := qj5 (X := cx0 W) (fun b hb => hb) hty (fun j t v h3 h4 => hval j t v (by simpa using h3) (by simpa using h4)) hA
 have hc := hcall as h2 (cx0 W) _ W args.toList (qw3 W hgl) h1
 refine hc.mono fun e W' ⟨v, x, T', X', lam', he, ⟨hx, _⟩, hv, _, hst⟩ => ?_
 subst he; subst hx
 simp only [vr] at hv
 subst hv
 have hb := qs7 hst
 have hlen : ds.length = fn.params.size := by
  have key : ∀ {ts : List TypeId} {vs : List Value} {ds : List (DataW H)} {ps : List MemPlace}, DataW.TrodAll enc P W 0 (fun _ => true) true ts vs ds ps -> ds.length = ts.length := by
   intro ts
   induction ts with
   | nil => intro vs ds ps h; obtain ⟨_, rfl, _⟩ := trodAll_nil h; rfl
   | cons t ts ih => intro vs ds ps h; obtain ⟨v, vs', d, ds', p, q, rfl, rfl, rfl, hd, hrest⟩ := trodAll_cons h; simp [ih hrest]
  simpa using key hA
 simp only [List.append_nil] at hlt
 have hs' := hs ds hlen
 refine ⟨_, rfl, ds, [], p ++ [], [], p, [], hW', ?_, ?_, ?_, hb.frame _, fun h => nomatch h⟩
 ·rw [List.append_nil, hs', hr]
  exact trodAll_mk1 (RowKit.shut_bool htb true)
 ·rw [List.append_nil, hs']
  exact q6i hl hb hp hA hlt
 ·rw [hvars, List.append_nil, hs']
  rfl
end
end Go.Aw
namespace Go.Aw
open Go
variable [Glob]
set_option linter.all false
theorem qs8 {k : IntKind} {b : AV} (h : qgl (.int k) b) : ∃ n, b = .i k n /\ (Lit.int k n).wf = true := by
 simp only [qgl, q40] at h
 obtain ⟨n, hn, hw⟩ := h
 injection hn with hn
 exact ⟨n, hn, hw⟩
theorem qs9 {k : IntKind} {n : Int} (h : (Lit.int k n).wf = true) : k.min <= n /\ n <= k.max := by
 simp [Lit.wf, IntKind.has] at h
 exact h
theorem qsa {n : Int} (h : (Lit.int .u8 n).wf = true) : 0 <= n /\ n < 256 := by
 have := qs9 h
 simp [IntKind.min, IntKind.max, IntKind.signed, IntKind.bits] at this
 omega
theorem qn4 {n : Int} (h : (Lit.int .u16 n).wf = true) : 0 <= n /\ n < 65536 := by
 have := qs9 h
 simp [IntKind.min, IntKind.max, IntKind.signed, IntKind.bits] at this
 omega
theorem qj6 {α : Type} {e : Ty} {cells : α -> List AV} {ok : α -> Prop} (h : ∀ p, q40 e p -> ∃ x, p = cells x /\ ok x) : ∀ (ps : List (List AV)), (∀ p ∈ ps, q40 e p) -> ∃ l : List α, l.length = ps.length /\ ps.flatten = l.flatMap cells /\ ∀ x ∈ l, ok x
 | [], _ => ⟨[], rfl, rfl, by simp⟩
 | p :: ps, hp => by
  obtain ⟨l, h1, h2, h3⟩ := qj6 h ps fun q hq => hp q (List.mem_cons_of_mem _ hq)
  obtain ⟨x, rfl, hx⟩ := h p (hp p (List.mem_cons_self ..))
  refine ⟨x :: l, by simp [h1], by simp [h2], ?_⟩
  intro y hy
  rcases List.mem_cons.1 hy with rfl | hy
  ·exact hx
  ·exact h3 y hy
theorem qc0 {α : Type} {e : Ty} {cells : α -> List AV} {ok : α -> Prop} (h : ∀ p, q40 e p -> ∃ x, p = cells x /\ ok x) {p : List AV} (hp : q40 (.sl e) p) :
  ∃ (l : List α) (k : Option Nat), p = [.fz l.length (l.flatMap cells) k] /\ Len l.length /\ ∀ x ∈ l, ok x := by
 simp only [q40] at hp
 obtain ⟨ps, hps, hf, k, rfl⟩ := hp
 obtain ⟨l, h1, h2, h3⟩ := qj6 h ps hf
 refine ⟨l, k, by rw [h1, h2], ?_, h3⟩
 unfold Len
 rw [h1]
 unfold maxLen at hps
 omega
theorem qj7 {α : Type} {e : Ty} {cells : α -> List AV} {ok : α -> Prop} (h : ∀ p, q40 e p -> ∃ x, p = cells x /\ ok x) {a : AV} (ha : qgl (.sl e) a) :
  ∃ (l : List α) (k : Option Nat), a = .fz l.length (l.flatMap cells) k /\ Len l.length /\ ∀ x ∈ l, ok x := by
 have ha' : q40 (.sl e) [a] := ha
 obtain ⟨l, k, h1, h2⟩ := qc0 h ha'
 injection h1 with h1
 exact ⟨l, k, h1, h2⟩
theorem qo4 {p : List AV} (h : q40 (.int .u8) p) : ∃ b : UInt8, p = [.i .u8 b.toNat] /\ True := by
 simp only [q40] at h
 obtain ⟨n, rfl, hw⟩ := h
 have := qsa hw
 refine ⟨UInt8.ofNat n.toNat, ?_, trivial⟩
 have e : ((UInt8.ofNat n.toNat).toNat : Int) = n := by
  rw [UInt8.toNat_ofNat_of_lt' (by show n.toNat < 256; omega)]
  omega
 rw [e]
theorem qgm (l : List UInt8) : l.flatMap (fun b => [AV.i .u8 b.toNat]) = J1 l := by
 induction l with
 | nil => rfl
 | cons a l ih => simp only [List.flatMap_cons, ih]; rfl
theorem qfk {p : List AV} (h : q40 (.sl (.int .u8)) p) : ∃ (l : List UInt8) (k : Option Nat), p = [.fz l.length (J1 l) k] /\ Len l.length := by
 obtain ⟨l, k, h1, h2, _⟩ := qc0 (fun p hp => qo4 hp) h
 rw [qgm] at h1
 exact ⟨l, k, h1, h2⟩
theorem cpn {P : Program} {f : FuncId} {avs : List AV} {r : AV} {K : Env -> Loc -> Tab -> Prop} {e : Env} {L : Loc} {d : Option Nat} {T : Tab} (h : PCalls P f avs r) (hk : K (N5 e d r) L T) : CallK P f avs T (aft K e L d []) := CallK.pure h (J7 hk)
theorem can {P : Program} {f : FuncId} {avs : List AV} {r : AV} {K : Env -> Loc -> Tab -> Prop} {e : Env} {L : Loc} {d : Option Nat} {T T1 : Tab} (h : ACalls P f avs T (fun v T' => v = r /\ T' = T1)) (hk : K (N5 e d r) L T1) : CallK P f avs T (aft K e L d []) := CallK.as h (J7 hk)
end Go.Aw
