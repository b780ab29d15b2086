import Derived.Test.YtmicojcojlgefaaGreatAwC
import Derived.IntWalk
import Derived.ProofKit
import Derived.OpenShut
namespace Go.Aw
open Go
set_option linter.all false
variable [Glob]
section
variable {P : Program} {R : Y5} {K : Env -> Loc -> Tab -> Prop} {e : Env} {L : Loc} {T : Tab}
theorem z5e : AW P .skip R e L T = R .normal e L T := rfl
theorem z7g (l : List SOp) : AW P (.ops l) R e L T = qti P l (R .normal) e L T := rfl
theorem z7h (a b : SC) : AW P (.seq a b) R e L T = AW P a (qem (AW P b R) R) e L T := rfl
theorem z2h (id : Nat) (c : SC) : AW P (.block id c) R e L T = AW P c (qyq id R) e L T := rfl
theorem z5f (id : Nat) : AW P (.exit id) R e L T = R (.exit id) e L T := rfl
theorem z7i : AW P .ret R e L T = R .ret e L T := rfl
theorem z5g (ts ls : List Nat) : AW P (.keep ts ls) R e L T = R .normal (qh4 ts e) (qh4 ls L) T := rfl
theorem qtq : qem K R .normal = K := rfl
theorem qy0 (id : Nat) : qem K R (.exit id) = R (.exit id) := rfl
theorem qzv : qem K R .ret = R .ret := rfl
theorem qvg (id : Nat) : qyq id R .normal = R .normal := rfl
theorem qzw (id id' : Nat) : qyq id R (.exit id') = if id' = id then R .normal else R (.exit id') := rfl
theorem z2i (id : Nat) : qyq id R .ret = R .ret := rfl
theorem qvh (rs : List SO) (Q : AV -> Tab -> Prop) : z7f rs Q .normal = z25 rs Q := rfl
theorem z2j (rs : List SO) (Q : AV -> Tab -> Prop) : z7f rs Q .ret = z25 rs Q := rfl
theorem z2k : qti P [] K e L T = K e L T := rfl
theorem qzx (o : SOp) (l : List SOp) : qti P (o :: l) K e L T = Z3 P o (qti P l K) e L T := rfl
theorem qzy (d : Nat) (x : AV) : q0g e (some d) x = qdj e d x := rfl
theorem qzz (x : AV) : q0g e none x = e := rfl
variable {d : Option Nat} {rc : RC}
inductive Hold.{u} {α : Sort u} (a : α) : Type
 | mk
def vst (x : Option AV) {K : AV -> Prop} (_ : Hold K) : Prop :=
 match x with
 | some x => K x
 | none => False
def gzS (e : Env) (L : Loc) (T : Tab) {K : Env -> Loc -> Tab -> Prop} (_ : Hold K) : Prop := ∃ (S : List Nat) (T' : Tab) (E' : Env), S.Nodup /\ (∀ id ∈ S, T id ≠ .unused) /\ (∀ j, qws T S (T' j) (qn8 T S j)) /\ z59 T S e E' /\ K E' L T'
theorem z7j : AW P .gfz R e L T = gzS e L T (Hold.mk (a := R .normal)) := rfl
theorem z2l (x : AV) (K : AV -> Prop) (h : Hold K) : vst (some x) h = K x := rfl
def br (x : Bool) {a b : Prop} (_ : Hold a) (_ : Hold b) : Prop := if x = true then a else b
theorem z5h (a b : Prop) (p : Hold a) (q : Hold b) : br true p q = a := rfl
theorem z2m (a b : Prop) (p : Hold a) (q : Hold b) : br false p q = b := rfl
theorem J2 {x : Bool} {a b : Prop} {p : Hold a} {q : Hold b} (ha : x = true -> a) (hb : x = false -> b) : br x p q := by
 cases x
 ·exact hb rfl
 ·exact ha rfl
def snl (neg : Bool) (x : Option AV) {K : AV -> Prop} (_ : Hold K) : Prop := qfo neg x K
theorem z7k (neg : Bool) (id o n : Nat) (cap : Option Nat) (K : AV -> Prop) (h : Hold K) : snl neg (some (.sl id o n cap)) h = K (.b neg) := rfl
theorem qwt (neg : Bool) (n : Nat) (c : List AV) (cap : Option Nat) (K : AV -> Prop) (h : Hold K) : snl neg (some (.fz n c cap)) h = if 0 < n then K (.b neg) else ∀ b, K (.b b) := rfl
def brO (x : Option AV) {a b : Prop} (p : Hold a) (q : Hold b) : Prop :=
 match x with
 | some (.b x) => br x p q
 | _ => False
theorem zb2 (x : Bool) (a b : Prop) (p : Hold a) (q : Hold b) : brO (some (.b x)) p q = br x p q := rfl
def gsO (x : Option AV) {a b : Prop} (p : Hold a) (q : Hold b) : Prop :=
 match x with
 | some (.b x) => br x p q
 | some (.tup []) => b
 | _ => False
theorem zb3 (x : Bool) (a b : Prop) (p : Hold a) (q : Hold b) : gsO (some (.b x)) p q = br x p q := rfl
theorem zb4 (a b : Prop) (p : Hold a) (q : Hold b) : gsO (some (.tup [])) p q = b := rfl
def gsN (x : Option AV) {a b : Prop} (p : Hold a) (q : Hold b) : Prop :=
 match x with
 | some (.b x) => br x q p
 | some (.tup []) => b
 | _ => False
theorem zb5 (x : Bool) (a b : Prop) (p : Hold a) (q : Hold b) : gsN (some (.b x)) p q = br x q p := rfl
theorem zb6 (a b : Prop) (p : Hold a) (q : Hold b) : gsN (some (.tup [])) p q = b := rfl
def vs2 (x : Option (Env × Loc)) {K : Env -> Loc -> Prop} (_ : Hold K) : Prop :=
 match x with
 | some (e, l) => K e l
 | none => False
theorem z2n (e : Env) (l : Loc) (K : Env -> Loc -> Prop) (h : Hold K) : vs2 (some (e, l)) h = K e l := rfl
def gst (e : Env) (k : Nat) (want : Bool) {y n : Prop} (p : Hold y) (q : Hold n) : Prop :=
 match q2z e k with
 | some (.b x) => if want then br x p q else br x q p
 | some (.tup []) => n
 | _ => False
theorem zea (x) : Z3 P ⟨d, .mv x, none, rc⟩ K e L T = vst (G4 e x) (Hold.mk (a := fun v => K (q0g e d v) L T)) := rfl
theorem z7l (c x y) : Z3 P ⟨d, .pick c x y, none, rc⟩ K e L T = vst ((G4 e c).bind fun c => qth c (G4 e x) (G4 e y)) (Hold.mk (a := fun v => K (q0g e d v) L T)) := rfl
theorem zb7 (o x y) : Z3 P ⟨d, .bin o x y, none, rc⟩ K e L T = vst ((G4 e x).bind fun x => (G4 e y).bind fun y => qv2 o x y) (Hold.mk (a := fun v => K (q0g e d v) L T)) := rfl
theorem zeb (o k x y) : Z3 P ⟨d, .eq o k x y, none, rc⟩ K e L T = vst ((G4 e x).bind fun x => (G4 e y).bind fun y => (q9d k x y).map fun r => .b (if o then !r else r)) (Hold.mk (a := fun v => K (q0g e d v) L T)) := rfl
theorem z7m (neg x) : Z3 P ⟨d, .snil neg x, none, rc⟩ K e L T = snl neg (G4 e x) (Hold.mk (a := fun v => K (q0g e d v) L T)) := rfl
theorem zec (o x) : Z3 P ⟨d, .un o x, none, rc⟩ K e L T = vst ((G4 e x).bind (z72 o)) (Hold.mk (a := fun v => K (q0g e d v) L T)) := rfl
theorem zb8 (k x) : Z3 P ⟨d, .cvi k x, none, rc⟩ K e L T = vst ((G4 e x).bind (qrj k)) (Hold.mk (a := fun v => K (q0g e d v) L T)) := rfl
theorem zb9 (x) : Z3 P ⟨d, .b2s x, none, rc⟩ K e L T = vst ((G4 e x).bind fun x => (Z0 T 1 x).bind fun c => match x with
   | .s _ => none
   | _ => (qel c).map .s) (Hold.mk (a := fun v => K (q0g e d v) L T)) := rfl
theorem zba (x) : Z3 P ⟨d, .s2b x, none, rc⟩ K e L T = vst ((G4 e x).bind fun x => match x with
  | .s l => some (.fz l.length (qpi l) none)
  | _ => none) (Hold.mk (a := fun v => K (q0g e d v) L T)) := rfl
theorem zbb (x) : Z3 P ⟨d, .cvs x, none, rc⟩ K e L T = vst ((G4 e x).bind fun x => match x with
   | .s l => some (.s l)
   | _ => none) (Hold.mk (a := fun v => K (q0g e d v) L T)) := rfl
theorem zbc (t x) : Z3 P ⟨d, .ifc t x, none, rc⟩ K e L T = vst ((G4 e x).map (.ifc t)) (Hold.mk (a := fun v => K (q0g e d v) L T)) := rfl
theorem z7n (f a c) : Z3 P ⟨d, .mkfn f a c, none, rc⟩ K e L T = vst ((qcj e a).bind fun a => (qcj e c).map fun b => .fn f a b) (Hold.mk (a := fun v => K (q0g e d v) L T)) := rfl
theorem zbd (z x lo hi mx) : Z3 P ⟨d, .slc z x lo hi mx, none, rc⟩ K e L T = vst ((G4 e x).bind fun x => (q8p e lo).bind fun lo => (q8p e hi).bind fun hi => (q8p e mx).bind fun mx => qv6 z T lo hi mx x) (Hold.mk (a := fun v => K (q0g e d v) L T)) := rfl
theorem z7o (x lo hi) : Z3 P ⟨d, .slcs x lo hi, none, rc⟩ K e L T = vst ((G4 e x).bind fun x => (q8p e lo).bind fun lo => (q8p e hi).bind fun hi => qpc lo hi x) (Hold.mk (a := fun v => K (q0g e d v) L T)) := rfl
theorem z7p (l o x) : Z3 P ⟨d, .fadr l o x, none, rc⟩ K e L T = vst ((qoj e l x).bind (qpa o)) (Hold.mk (a := fun v => K (q0g e d v) L T)) := rfl
theorem zbe (o z x) : Z3 P ⟨d, .fld o z x, none, rc⟩ K e L T = vst ((G4 e x).bind (qxj o z)) (Hold.mk (a := fun v => K (q0g e d v) L T)) := rfl
theorem z7q (l z a x i) : Z3 P ⟨d, .iadr l z a x i, none, rc⟩ K e L T = vst ((qoj e l x).bind fun x => (G4 e i).bind fun i => qpb z a i x) (Hold.mk (a := fun v => K (q0g e d v) L T)) := rfl
theorem z7r (x i) : Z3 P ⟨d, .idxs x i, none, rc⟩ K e L T = vst ((G4 e x).bind fun x => (G4 e i).bind fun i => qre i x) (Hold.mk (a := fun v => K (q0g e d v) L T)) := rfl
theorem zbf (i x) : Z3 P ⟨d, .ext i x, none, rc⟩ K e L T = vst ((G4 e x).bind (qxk i)) (Hold.mk (a := fun v => K (q0g e d v) L T)) := rfl
theorem zbg (s x) : Z3 P ⟨d, .len s x, none, rc⟩ K e L T = vst ((G4 e x).bind (qpd s)) (Hold.mk (a := fun v => K (q0g e d v) L T)) := rfl
theorem z7s (z l n x i) : Z3 P ⟨d, .idxa z l n x i, none, rc⟩ K e L T = vst ((G4 e x).bind fun x => (G4 e i).bind fun i => qxl z l n i x) (Hold.mk (a := fun v => K (q0g e d v) L T)) := rfl
theorem zbh (x) : Z3 P ⟨d, .cap x, none, rc⟩ K e L T = vst ((G4 e x).bind qxm) (Hold.mk (a := fun v => K (q0g e d v) L T)) := rfl
theorem zbi : Z3 P ⟨d, .bad, none, rc⟩ K e L T = False := rfl
def mkS (z b : Nat) (zero : List AV) (x y : Option AV) (T : Tab) {k : AV -> Tab -> Prop} (_ : Hold k) : Prop :=
 match x, y with
 | some (.i _ j), some (.i _ q) => 0 <= j /\ j <= q /\ q.toNat * b <= 140737488355328 /\ q <= 9223372036854775807 /\ ∀ id, T id = .unused -> k (.sl id 0 j.toNat none) (T.put id (.row z (rep zero q.toNat)))
 | _, _ => False
theorem zbj (m x y) : Z3 P ⟨d, .mnx m x y, none, rc⟩ K e L T = vst ((G4 e x).bind fun x => (G4 e y).bind fun y => qz5 m x y) (Hold.mk (a := fun v => K (q0g e d v) L T)) := rfl
theorem z5i (l x) : Z3 P ⟨d, .nilck l x, none, rc⟩ K e L T = vst ((qoj e l x).bind qna) (Hold.mk (a := fun v => K (q0g e d v) L T)) := rfl
theorem zbk (z ps) : Z3 P ⟨d, .bld z ps, none, rc⟩ K e L T = vst ((qdl e z ps).map .agg) (Hold.mk (a := fun v => K (q0g e d v) L T)) := rfl
theorem zbl (n q z ps) : Z3 P ⟨d, .bsl n q z ps, none, rc⟩ K e L T = vst ((qdl e z ps).map fun cells => .fz n cells (some n)) (Hold.mk (a := fun v => K (q0g e d v) L T)) := rfl
theorem zed (z x) : Z3 P ⟨d, .ld z x, none, rc⟩ K e L T = vst ((G4 e x).bind (z73 z T)) (Hold.mk (a := fun v => K (q0g e d v) L T)) := rfl
theorem zbm (l z x) : Z3 P ⟨d, .lld l z x, none, rc⟩ K e L T = vst ((qoj e (some l) x).bind (qv5 l z L)) (Hold.mk (a := fun v => K (q0g e d v) L T)) := rfl
theorem z7t (x) : Z3 P ⟨d, .fbox x, none, rc⟩ K e L T = vst ((G4 e x).bind fun v => if v.sto = true then some (.fptr v.cells) else none) (Hold.mk (a := fun v => K (q0g e d v) L T)) := rfl
theorem zbn (l z x v) : Z3 P ⟨d, .lst l z x v, none, rc⟩ K e L T = vs2 ((qoj e (some l) x).bind fun p => (G4 e v).bind fun y => match p with
  | .lp _ o => (q2z L l).bind fun cells => if y.sto = true /\ y.cells.length = z /\ o + z <= cells.length then some (q0g e d (.tup []), qdj L l (q0o cells o y.cells)) else none
  | _ => none) (Hold.mk (a := fun e l => K e l T)) := rfl
theorem z2o (k : Nat) (z) : Z3 P ⟨some k, .lalloc z, none, rc⟩ K e L T = K (qdj (q30 e k) k (.lp k 0)) (qdj L k z) T := rfl
theorem z7u (k : Nat) (x) : Z3 P ⟨some k, .lbox x, none, rc⟩ K e L T = vs2 ((G4 e x).bind fun v => if v.sto = true then some (qdj (q30 e k) k (.lp k 0), qdj L k v.cells) else none) (Hold.mk (a := fun e l => K e l T)) := rfl
def CallK (P : Program) (f : FuncId) (avs : List AV) (T : Tab) (k : AV -> Tab -> Prop) : Prop :=
 ∃ S R, S.Nodup /\ (∀ id ∈ S, T id ≠ .unused) /\ ACalls P f (avs.map (qns T S)) (qn8 T S) R /\ ∀ v T', R v T' -> k v T'
def aft (K : Env -> Loc -> Tab -> Prop) (e : Env) (L : Loc) (d : Option Nat) (rc : RC) : AV -> Tab -> Prop := fun v T' => v.isLp = false -> U6 (q0g e d v) L T' rc /\ K (q0g e d v) L T'
def zbo (P : Program) (f : FuncId) (avs : Option (List AV)) (T : Tab) {k : AV -> Tab -> Prop} (_ : Hold k) : Prop :=
 match avs with
 | some avs => CallK P f avs T k
 | none => False
theorem z00 (f : FuncId) (avs : List AV) (k : AV -> Tab -> Prop) (h : Hold k) : zbo P f (some avs) T h = CallK P f avs T k := rfl
def zat (P : Program) (x : Option AV) (avs : Option (List AV)) (T : Tab) {k : AV -> Tab -> Prop} (_ : Hold k) : Prop :=
 match x, avs with
 | some (.fn (.func f) first cap), some avs => K4 P f = true /\ CallK P f (first ++ avs ++ cap) T k
 | _, _ => False
theorem qh6 (f : FuncId) (first cap avs : List AV) (k : AV -> Tab -> Prop) (h : Hold k) (hc : K4 P f = true) : zat P (some (.fn (.func f) first cap)) (some avs) T h = CallK P f (first ++ avs ++ cap) T k := by
 simp [zat, hc]
theorem J0 (f args) (hc : K4 P f = true) : Z3 P ⟨d, .call f args, none, rc⟩ K e L T = zbo P f (qcj e args) T (Hold.mk (a := aft K e L d rc)) := by
 have : Z3 P ⟨d, .call f args, none, rc⟩ K e L T = (K4 P f = true /\ match qcj e args with
  | some avs => CallK P f avs T (aft K e L d rc)
  | none => False) := rfl
 rw [this]; simp only [hc, true_and]; rfl
theorem z5j (x args) : Z3 P ⟨d, .callv x args, none, rc⟩ K e L T = zat P (G4 e x) (qcj e args) T (Hold.mk (a := aft K e L d rc)) := rfl
theorem z2p (z c) : Z3 P ⟨d, .halloc z c, none, rc⟩ K e L T = ∀ id, T id = .unused -> aft K e L d rc (.ptr id 0) (T.put id (.row z c)) := rfl
def hbS (z : Nat) (x : Option AV) (T : Tab) {k : AV -> Tab -> Prop} (_ : Hold k) : Prop :=
 match x with
 | some v => v.sto = true /\ ∀ id, T id = .unused -> k (.ptr id 0) (T.put id (.row z v.cells))
 | none => False
theorem z2q (z : Nat) (v : AV) (k : AV -> Tab -> Prop) (h : Hold k) (hv : v.sto = true) : hbS z (some v) T h = ∀ id, T id = .unused -> k (.ptr id 0) (T.put id (.row z v.cells)) := by simp [hbS, hv]
theorem z7v (z x) : Z3 P ⟨d, .hbox z x, none, rc⟩ K e L T = hbS z (G4 e x) T (Hold.mk (a := aft K e L d rc)) := rfl
def stS (z : Nat) (x y : Option AV) (T : Tab) {k : AV -> Tab -> Prop} (_ : Hold k) : Prop :=
 match x, y with
 | some (.ptr id o), some y => match T id with
  | .row q cells => y.sto = true /\ y.cells.length = z /\ o + z <= cells.length /\ k (.tup []) (T.put id (.row q (q0o cells o y.cells)))
  | _ => False
 | _, _ => False
theorem q4h {z id o q : Nat} {y : AV} {cells : List AV} {k : AV -> Tab -> Prop} {h : Hold k} (hT : T id = .row q cells) (h1 : y.sto = true) (h2 : y.cells.length = z) (h3 : o + z <= cells.length)
  (hk : k (.tup []) (T.put id (.row q (q0o cells o y.cells)))) : stS z (some (.ptr id o)) (some y) T h := by
 unfold stS; simp only [hT]; exact ⟨h1, h2, h3, hk⟩
theorem zee (z x v) : Z3 P ⟨d, .st z x v, none, rc⟩ K e L T = stS z (G4 e x) (G4 e v) T (Hold.mk (a := aft K e L d rc)) := rfl
def apS (z b : Nat) (x y : Option AV) (T : Tab) {k : AV -> Tab -> Prop} (_ : Hold k) : Prop :=
 match x, y with
 | some x, some y => q4z z b T x y k
 | _, _ => False
theorem z2r (z b : Nat) (x y : AV) (k : AV -> Tab -> Prop) (h : Hold k) : apS z b (some x) (some y) T h = q4z z b T x y k := rfl
theorem zbp (z b x y) : Z3 P ⟨d, .app z b x y, none, rc⟩ K e L T = apS z b (G4 e x) (G4 e y) T (Hold.mk (a := aft K e L d rc)) := rfl
def clS (z : Nat) (zero : List AV) (x : Option AV) (T : Tab) {k : AV -> Tab -> Prop} (_ : Hold k) : Prop :=
 match x with
 | some (.fz 0 _ _) => k (.tup []) T
 | some (.sl id o n _) => match T id with
  | .row q cells => q = z /\ zero.length = z /\ o + n * z <= cells.length /\ k (.tup []) (T.put id (.row q (q0o cells o (rep zero n))))
  | _ => False
 | _ => False
theorem zbq (z zero x) : Z3 P ⟨d, .clr z zero x, none, rc⟩ K e L T = clS z zero (G4 e x) T (Hold.mk (a := aft K e L d rc)) := rfl
def ze6 (n z : Nat) (x : Option (List AV)) (T : Tab) {k : AV -> Tab -> Prop} (_ : Hold k) : Prop :=
 match x with
 | some cells => ∀ id, T id = .unused -> k (.sl id 0 n (some n)) (T.put id (.row z cells))
 | none => False
theorem z01 (n z : Nat) (cells : List AV) (k : AV -> Tab -> Prop) (h : Hold k) : ze6 n z (some cells) T h = ∀ id, T id = .unused -> k (.sl id 0 n (some n)) (T.put id (.row z cells)) := rfl
theorem zbr (n z zero ps) : Z3 P ⟨d, .hbs n z zero ps, none, rc⟩ K e L T = ze6 n z (qdl e zero ps) T (Hold.mk (a := aft K e L d rc)) := rfl
def zef (x : Option AV) (T : Tab) {k : AV -> Tab -> Prop} (_ : Hold k) : Prop :=
 match x with
 | some (.sl id o n cap) => match T id with
  | .row z cells => z = 1 /\ o + n <= cells.length /\ k (.fz n ((cells.drop o).take n) cap) (T.put id .unused)
  | _ => False
 | _ => False
theorem zbs (x) : Z3 P ⟨d, .cvm x, none, rc⟩ K e L T = zef (G4 e x) T (Hold.mk (a := aft K e L d rc)) := rfl
def ze7 (z b : Nat) (zero : List AV) (x y : Option AV) (T : Tab) {k : AV -> Tab -> Prop} (_ : Hold k) : Prop :=
 match x, y with
 | some (.fz 0 [] (some 0)), some (.i _ q) => 0 < q /\ q.toNat * b <= 140737488355328 /\ q <= 9223372036854775807 /\ ∀ id, T id = .unused -> k (.sl id 0 q.toNat none) (T.put id (.row z (rep zero q.toNat)))
 | _, _ => False
theorem z5k {z b : Nat} {zero : List AV} {k2 : IntKind} {q : Int} {k : AV -> Tab -> Prop} {h : Hold k} (h2 : 0 < q) (h3 : q.toNat * b <= 140737488355328) (h4 : q <= 9223372036854775807)
  (hk : ∀ id, T id = .unused -> k (.sl id 0 q.toNat none) (T.put id (.row z (rep zero q.toNat)))) : ze7 z b zero (some (.fz 0 [] (some 0))) (some (.i k2 q)) T h := ⟨h2, h3, h4, hk⟩
theorem zbt (z b zero x y) : Z3 P ⟨d, .apz z b zero x y, none, rc⟩ K e L T = ze7 z b zero (G4 e x) (G4 e y) T (Hold.mk (a := aft K e L d rc)) := rfl
theorem zbu : Z3 P ⟨d, .mkm, none, rc⟩ K e L T = ∀ id, T id = .unused -> aft K e L d rc (.mp id) (T.put id (.mapo [])) := rfl
def z7w (m : MK) (ok : Bool) (zero : AV) (x y : Option AV) (T : Tab) {k : AV -> Tab -> Prop} (_ : Hold k) : Prop :=
 match x, y with
 | some (.mp id), some kv => match T id with
  | .mapo es => q2g m kv = true /\ match qqq m kv es with
   | some (some v) => k (if ok then .tup [v, .b true] else v) T
   | some none => k (if ok then .tup [zero, .b false] else zero) T
   | none => False
  | _ => False
 | _, _ => False
theorem qsj {m : MK} {ok : Bool} {zero kv v : AV} {id : Nat} {es : List (AV × AV)} {k : AV -> Tab -> Prop} {h : Hold k} (hT : T id = .mapo es) (h1 : q2g m kv = true) (h2 : qqq m kv es = some (some v))
  (hk : k (if ok then .tup [v, .b true] else v) T) : z7w m ok zero (some (.mp id)) (some kv) T h := by
 unfold z7w; simp only [hT, h2]; exact ⟨h1, hk⟩
theorem z2s {m : MK} {ok : Bool} {zero kv : AV} {id : Nat} {es : List (AV × AV)} {k : AV -> Tab -> Prop} {h : Hold k} (hT : T id = .mapo es) (h1 : q2g m kv = true) (h2 : qqq m kv es = some none)
  (hk : k (if ok then .tup [zero, .b false] else zero) T) : z7w m ok zero (some (.mp id)) (some kv) T h := by
 unfold z7w; simp only [hT, h2]; exact ⟨h1, hk⟩
theorem zbv (m ok zero x y) : Z3 P ⟨d, .lku m ok zero x y, none, rc⟩ K e L T = z7w m ok zero (G4 e x) (G4 e y) T (Hold.mk (a := aft K e L d rc)) := rfl
def zbw (m : MK) (x y z : Option AV) (T : Tab) {k : AV -> Tab -> Prop} (_ : Hold k) : Prop :=
 match x, y, z with
 | some (.mp id), some kv, some y => match T id with
  | .mapo es => q2g m kv = true /\ (qqq m kv es).isSome = true /\ k (.tup []) (T.put id (.mapo (qs4 kv y es)))
  | _ => False
 | _, _, _ => False
theorem z02 {m : MK} {kv y : AV} {id : Nat} {es : List (AV × AV)} {k : AV -> Tab -> Prop} {h : Hold k} (hT : T id = .mapo es) (h1 : q2g m kv = true) (h2 : (qqq m kv es).isSome = true)
  (hk : k (.tup []) (T.put id (.mapo (qs4 kv y es)))) : zbw m (some (.mp id)) (some kv) (some y) T h := by
 unfold zbw; simp only [hT]; exact ⟨h1, h2, hk⟩
theorem zbx (m x y z) : Z3 P ⟨d, .mup m x y z, none, rc⟩ K e L T = zbw m (G4 e x) (G4 e y) (G4 e z) T (Hold.mk (a := aft K e L d rc)) := rfl
theorem z7x (z b zero x y) : Z3 P ⟨d, .mksl z b zero x y, none, rc⟩ K e L T = mkS z b zero (G4 e x) (G4 e y) T (Hold.mk (a := aft K e L d rc)) := rfl
theorem J1 {v : AV} {T' : Tab} (h : K (q0g e d v) L T') : aft K e L d [] v T' := fun _ => ⟨trivial, h⟩
theorem qk4 {v : AV} {T' : Tab} (h : v.isLp = false -> U6 (q0g e d v) L T' rc) (k : K (q0g e d v) L T') : aft K e L d rc v T' := fun hv => ⟨h hv, k⟩
theorem z4n (k : Nat) (want : Bool) {y n : Prop} (p : Hold y) (q : Hold n) : gst e k want p q = gdd e (some (k, want)) y n False := by
 unfold gst gdd
 simp only
 rcases q2z e k with _ | x
 ·rfl
 ·cases x with
  | b x => cases x <;> cases want <;> rfl
  | tup l => cases l <;> rfl
  | _ => rfl
theorem zeg (o : SO) (k : Nat) (want : Bool) : Z3 P ⟨d, o, some (k, want), []⟩ K e L T = gst e k want (Hold.mk (a := Z3 P ⟨d, o, none, []⟩ K e L T)) (Hold.mk (a := K (q0g e d (.tup [])) L T)) := by
 rw [z4n]
 have hm0 : ∀ {α : Type} (f : α -> Prop) (y n z : α), f (gdd e (some (k, want)) y n z) = gdd e (some (k, want)) (f y) (f n) (f z) := fun f y n z => by
  unfold gdd
  simp only
  split <;> (try split) <;> rfl
 cases hk : o.kind with
 | val =>
  have e1 : ∀ gd, Z3 P ⟨d, o, gd, []⟩ K e L T = vst (qdk o gd e L T) (Hold.mk (a := fun v => K (q0g e d v) L T)) := fun gd => by unfold Z3; simp only [hk]; rfl
  rw [e1, e1]
  exact hm0 (fun x => vst x (Hold.mk (a := fun v => K (q0g e d v) L T))) _ _ _
 | snil => unfold Z3; simp only [hk]; rfl
 | leff =>
  have e1 : ∀ gd, Z3 P ⟨d, o, gd, []⟩ K e L T = (fun x : Option (Env × Loc) => match x with | some (e, l) => K e l T | none => False) (gdd e gd (lev o d e L) (some (q0g e d (.tup []), L)) none) := fun gd => by unfold Z3; simp only [hk]; rfl
  rw [e1, e1]
  exact hm0 (fun x : Option (Env × Loc) => match x with | some (e, l) => K e l T | none => False) _ _ _
 | teff => unfold Z3; simp only [hk, U6, true_and]; rfl
theorem z7y (o : SO) (ho : o.kind = .teff) (k : Nat) (want : Bool) : Z3 P ⟨d, o, some (k, want), rc⟩ K e L T = gdd e (some (k, want)) (Z3 P ⟨d, o, none, rc⟩ K e L T) (U6 (q0g e d (.tup [])) L T rc /\ K (q0g e d (.tup [])) L T) False := by
 unfold Z3
 simp only [ho, gdd]
theorem O2 {l c : SC} (hl : l = .loop c) (hR : ExtR R) (h : AW P c (qem (AW P l R) R) e L T) : AW P l R e L T := by
 subst hl; exact Q2 hR h
theorem qsk (x : AV) : qns T [] x = x := by
 have h1 : ∀ y, qn7 T [] y = y := fun y => by cases y <;> simp [qn7]
 have : (qn7 T []) = id := funext h1
 cases x <;> simp [qns, h1, this]
theorem qp4 (x : AV) : qrh T [] x = x := by
 have : (qns T []) = id := funext qsk
 cases x <;> simp [qrh, qsk, this]
theorem CallK.of {f : FuncId} {avs : List AV} {k : AV -> Tab -> Prop} {Q : AV -> Tab -> Prop} (h : ACalls P f avs T Q) (hk : ∀ v T', Q v T' -> k v T') : CallK P f avs T k := by
 have : (qns T []) = id := funext qsk
 refine ⟨[], Q, List.nodup_nil, by simp, ?_, hk⟩
 rw [this, List.map_id]
 exact h
theorem CallK.pure {f : FuncId} {avs : List AV} {k : AV -> Tab -> Prop} {r : AV} (h : PCalls P f avs r) (hk : k r T) : CallK P f avs T k :=
 .of (h T) fun v T' h => by rw [h.1, h.2]; exact hk
theorem K5 (hm : P.follows .mixedOrders = true) {f : FuncId} {n : Nat} {sc : SC} {rs : List SO} (ht : FnTxt P f n sc rs) {args : List AV} {r : AV} (hl : args.length <= n)
  (h : ∀ T, AW P sc (z7f rs fun v T' => v = r /\ T' = T) (z4m 0 args) [] T) : PCalls P f args r := fun T => U9 hm ht hl (h T)
theorem Wk.refl (x : AV) : Wk x x := fun _ _ _ h => h
theorem Wk.trans {x y z : AV} (h : Wk x y) (k : Wk y z) : Wk x z := fun X w v hv => k X w v (h X w v hv)
theorem Wk.fz {n : Nat} {cells : List AV} {cap : Option Nat} : Wk (.fz n cells cap) (.fz n cells none) := fun X w v h => by
 simp only [vr] at h ⊢
 obtain ⟨us, h1, h2⟩ := h
 refine ⟨us, h1, ?_⟩
 rcases h2 with ⟨a, b, c, _⟩ | ⟨a, c, h3, h4, h5, _, h6⟩
 ·exact .inl ⟨a, b, c, fun k hk => by cases hk⟩
 ·exact .inr ⟨a, c, h3, h4, h5, (fun k hk => by cases hk), h6⟩
def Wks : List AV -> List AV -> Prop
 | [], [] => True
 | x :: l, y :: m => Wk x y /\ Wks l m
 | _, _ => False
theorem Wks.vrs {X : Cx} {w : World} : ∀ {l m : List AV}, Wks l m -> ∀ {us}, Aw.vrs X w l us -> Aw.vrs X w m us
 | [], [], _, us, h => h
 | x :: l, y :: m, h, us, hv => by
  simp only [Aw.vrs] at hv ⊢
  obtain ⟨u, us', rfl, h2, h3⟩ := hv
  exact ⟨u, us', rfl, h.1 _ _ _ h2, Wks.vrs h.2 h3⟩
 | [], _ :: _, h, _, _ => h.elim
 | _ :: _, [], h, _, _ => h.elim
theorem Wks.refl : ∀ l, Wks l l
 | [] => trivial
 | x :: l => ⟨.refl x, Wks.refl l⟩
theorem Wk.agg {l m : List AV} (h : Wks l m) : Wk (.agg l) (.agg m) := fun X w v hv => by
 simp only [vr] at hv ⊢
 obtain ⟨us, h1, h2⟩ := hv
 exact ⟨us, h.vrs h1, h2⟩
theorem Wk.tup {l m : List AV} (h : Wks l m) : Wk (.tup l) (.tup m) := fun X w v hv => by
 simp only [vr] at hv ⊢
 obtain ⟨us, h1, h2⟩ := hv
 exact ⟨us, h.vrs h1, h2⟩
theorem z5l (rs : List SO) (Q : AV -> Tab -> Prop) : z25 rs Q e L T = fin (qgg rs e L T) Q T := rfl
theorem z2t (l : List AV) (Q : AV -> Tab -> Prop) : fin (some l) Q T = qnz (qsh l) Q T := rfl
theorem z03 (x : AV) : qsh [x] = x := rfl
theorem z04 : qsh [] = .tup [] := rfl
theorem z05 (x y : AV) (l : List AV) : qsh (x :: y :: l) = .tup (x :: y :: l) := rfl
theorem K1 {r r' : AV} (hr : r' = r) : qnz r' (fun v T' => v = r /\ T' = T) T :=
 ⟨[], T, r, List.nodup_nil, by simp, fun _ => .inr (.inl rfl), by rw [qp4, hr]; exact .refl r, rfl, rfl⟩
theorem V1 {r : AV} {Q : AV -> Tab -> Prop} (T' : Tab) (hT : ∀ id, SlotLe (T' id) (T id)) (hQ : Q r T') : qnz r Q T :=
 ⟨[], T', r, List.nodup_nil, by simp, hT, by rw [qp4]; exact .refl r, hQ⟩
theorem z5m (c : Operand) (a b : SC) : AW P (.cond c a b) R e L T = brO (G4 e c) (Hold.mk (a := AW P a R e L T)) (Hold.mk (a := AW P b R e L T)) := rfl
theorem zby (k : Nat) (y n : Prop) (p : Hold y) (q : Hold n) : gst e k true p q = gsO (q2z e k) p q := rfl
theorem zbz (k : Nat) (y n : Prop) (p : Hold y) (q : Hold n) : gst e k false p q = gsN (q2z e k) p q := rfl
end
theorem zeh {x : Bool} : AV.plain (.b x) = true := rfl
theorem zc0 {x : Bool} : AV.isLp (.b x) = false := rfl
theorem zc1 {x : Bool} : AV.isOne (.b x) = true := rfl
theorem zc2 {x : Bool} : AV.sto (.b x) = true := rfl
theorem zc3 {x : Bool} : AV.cells (.b x) = [(.b x)] := rfl
theorem zc4 {x : Bool} (j : Nat) : AV.offLp j (.b x) = (.b x) := rfl
theorem zei {k : IntKind} {n : Int} : AV.plain (.i k n) = true := rfl
theorem zc5 {k : IntKind} {n : Int} : AV.isLp (.i k n) = false := rfl
theorem zc6 {k : IntKind} {n : Int} : AV.isOne (.i k n) = true := rfl
theorem zc7 {k : IntKind} {n : Int} : AV.sto (.i k n) = true := rfl
theorem zc8 {k : IntKind} {n : Int} : AV.cells (.i k n) = [(.i k n)] := rfl
theorem zc9 {k : IntKind} {n : Int} (j : Nat) : AV.offLp j (.i k n) = (.i k n) := rfl
theorem zej {l : List UInt8} : AV.plain (.s l) = true := rfl
theorem zca {l : List UInt8} : AV.isLp (.s l) = false := rfl
theorem zcb {l : List UInt8} : AV.isOne (.s l) = true := rfl
theorem zcc {l : List UInt8} : AV.sto (.s l) = true := rfl
theorem zcd {l : List UInt8} : AV.cells (.s l) = [(.s l)] := rfl
theorem zce {l : List UInt8} (j : Nat) : AV.offLp j (.s l) = (.s l) := rfl
theorem zcf  : AV.plain .nilptr = true := rfl
theorem z7z  : AV.isLp .nilptr = false := rfl
theorem z80  : AV.isOne .nilptr = true := rfl
theorem z81  : AV.sto .nilptr = true := rfl
theorem z82  : AV.cells .nilptr = [.nilptr] := rfl
theorem z83  (j : Nat) : AV.offLp j .nilptr = .nilptr := rfl
theorem z84 {id o : Nat} : AV.plain (.ptr id o) = true := rfl
theorem z5n {id o : Nat} : AV.isLp (.ptr id o) = false := rfl
theorem z5o {id o : Nat} : AV.isOne (.ptr id o) = true := rfl
theorem z5p {id o : Nat} : AV.sto (.ptr id o) = true := rfl
theorem z5q {id o : Nat} : AV.cells (.ptr id o) = [(.ptr id o)] := rfl
theorem z5r {id o : Nat} (j : Nat) : AV.offLp j (.ptr id o) = (.ptr id o) := rfl
theorem zcg {c : List AV} : AV.plain (.fptr c) = true := rfl
theorem z85 {c : List AV} : AV.isLp (.fptr c) = false := rfl
theorem z86 {c : List AV} : AV.isOne (.fptr c) = true := rfl
theorem z87 {c : List AV} : AV.sto (.fptr c) = true := rfl
theorem z88 {c : List AV} : AV.cells (.fptr c) = [(.fptr c)] := rfl
theorem z89 {c : List AV} (j : Nat) : AV.offLp j (.fptr c) = (.fptr c) := rfl
theorem zch {n : Nat} {c : List AV} {k : Option Nat} : AV.plain (.fz n c k) = true := rfl
theorem z8a {n : Nat} {c : List AV} {k : Option Nat} : AV.isLp (.fz n c k) = false := rfl
theorem z8b {n : Nat} {c : List AV} {k : Option Nat} : AV.isOne (.fz n c k) = true := rfl
theorem z8c {n : Nat} {c : List AV} {k : Option Nat} : AV.sto (.fz n c k) = true := rfl
theorem z8d {n : Nat} {c : List AV} {k : Option Nat} : AV.cells (.fz n c k) = [(.fz n c k)] := rfl
theorem z8e {n : Nat} {c : List AV} {k : Option Nat} (j : Nat) : AV.offLp j (.fz n c k) = (.fz n c k) := rfl
theorem zci {id o n : Nat} {k : Option Nat} : AV.plain (.sl id o n k) = true := rfl
theorem z8f {id o n : Nat} {k : Option Nat} : AV.isLp (.sl id o n k) = false := rfl
theorem z8g {id o n : Nat} {k : Option Nat} : AV.isOne (.sl id o n k) = true := rfl
theorem z8h {id o n : Nat} {k : Option Nat} : AV.sto (.sl id o n k) = true := rfl
theorem z8i {id o n : Nat} {k : Option Nat} : AV.cells (.sl id o n k) = [(.sl id o n k)] := rfl
theorem z8j {id o n : Nat} {k : Option Nat} (j : Nat) : AV.offLp j (.sl id o n k) = (.sl id o n k) := rfl
theorem zcj  : AV.plain .nilmap = true := rfl
theorem z8k  : AV.isLp .nilmap = false := rfl
theorem z8l  : AV.isOne .nilmap = true := rfl
theorem z8m  : AV.sto .nilmap = true := rfl
theorem z8n  : AV.cells .nilmap = [.nilmap] := rfl
theorem z8o  (j : Nat) : AV.offLp j .nilmap = .nilmap := rfl
theorem zck {id : Nat} : AV.plain (.mp id) = true := rfl
theorem z8p {id : Nat} : AV.isLp (.mp id) = false := rfl
theorem z8q {id : Nat} : AV.isOne (.mp id) = true := rfl
theorem z8r {id : Nat} : AV.sto (.mp id) = true := rfl
theorem z8s {id : Nat} : AV.cells (.mp id) = [(.mp id)] := rfl
theorem z8t {id : Nat} (j : Nat) : AV.offLp j (.mp id) = (.mp id) := rfl
theorem zcl {f : Fn} {a b : List AV} : AV.plain (.fn f a b) = true := rfl
theorem z8u {f : Fn} {a b : List AV} : AV.isLp (.fn f a b) = false := rfl
theorem z8v {f : Fn} {a b : List AV} : AV.isOne (.fn f a b) = true := rfl
theorem z8w {f : Fn} {a b : List AV} : AV.sto (.fn f a b) = true := rfl
theorem z8x {f : Fn} {a b : List AV} : AV.cells (.fn f a b) = [(.fn f a b)] := rfl
theorem z8y {f : Fn} {a b : List AV} (j : Nat) : AV.offLp j (.fn f a b) = (.fn f a b) := rfl
theorem zcm  : AV.plain .nilfn = true := rfl
theorem z8z  : AV.isLp .nilfn = false := rfl
theorem z90  : AV.isOne .nilfn = true := rfl
theorem z91  : AV.sto .nilfn = true := rfl
theorem z92  : AV.cells .nilfn = [.nilfn] := rfl
theorem z93  (j : Nat) : AV.offLp j .nilfn = .nilfn := rfl
theorem zcn {t : TypeId} {x : AV} : AV.plain (.ifc t x) = true := rfl
theorem z94 {t : TypeId} {x : AV} : AV.isLp (.ifc t x) = false := rfl
theorem z95 {t : TypeId} {x : AV} : AV.isOne (.ifc t x) = true := rfl
theorem z96 {t : TypeId} {x : AV} : AV.sto (.ifc t x) = true := rfl
theorem z97 {t : TypeId} {x : AV} : AV.cells (.ifc t x) = [(.ifc t x)] := rfl
theorem z98 {t : TypeId} {x : AV} (j : Nat) : AV.offLp j (.ifc t x) = (.ifc t x) := rfl
theorem zco  : AV.plain .nilifc = true := rfl
theorem z99  : AV.isLp .nilifc = false := rfl
theorem z9a  : AV.isOne .nilifc = true := rfl
theorem z9b  : AV.sto .nilifc = true := rfl
theorem z9c  : AV.cells .nilifc = [.nilifc] := rfl
theorem z9d  (j : Nat) : AV.offLp j .nilifc = .nilifc := rfl
theorem zcp {l : List AV} : AV.plain (.agg l) = true := rfl
theorem z9e {l : List AV} : AV.isLp (.agg l) = false := rfl
theorem z9f {l : List AV} : AV.isOne (.agg l) = false := rfl
theorem z9g {l : List AV} : AV.sto (.agg l) = true := rfl
theorem z9h {l : List AV} : AV.cells (.agg l) = l := rfl
theorem z9i {l : List AV} (j : Nat) : AV.offLp j (.agg l) = (.agg l) := rfl
theorem zcq {l : List AV} : AV.plain (.tup l) = true := rfl
theorem z9j {l : List AV} : AV.isLp (.tup l) = false := rfl
theorem z9k {l : List AV} : AV.isOne (.tup l) = false := rfl
theorem z9l {l : List AV} : AV.sto (.tup l) = false := rfl
theorem z9m {l : List AV} : AV.cells (.tup l) = [(.tup l)] := rfl
theorem z9n {l : List AV} (j : Nat) : AV.offLp j (.tup l) = (.tup l) := rfl
theorem zcr {l o : Nat} : AV.plain (.lp l o) = false := rfl
theorem z9o {l o : Nat} : AV.isLp (.lp l o) = true := rfl
theorem z9p {l o : Nat} : AV.isOne (.lp l o) = false := rfl
theorem z9q {l o : Nat} : AV.sto (.lp l o) = false := rfl
theorem z9r {l o : Nat} : AV.cells (.lp l o) = [(.lp l o)] := rfl
theorem z9s {l o : Nat} (j : Nat) : AV.offLp j (.lp l o) = if l = j then .any else .lp l o := rfl
theorem zcs {v : Value} : AV.plain (.raw v) = true := rfl
theorem z9t {v : Value} : AV.isLp (.raw v) = false := rfl
theorem z9u {v : Value} : AV.isOne (.raw v) = true := rfl
theorem z9v {v : Value} : AV.sto (.raw v) = true := rfl
theorem z9w {v : Value} : AV.cells (.raw v) = [(.raw v)] := rfl
theorem z9x {v : Value} (j : Nat) : AV.offLp j (.raw v) = (.raw v) := rfl
attribute [irreducible] gzS vst br brO gsO gsN vs2 snl zbo zat hbS stS apS clS CallK aft
attribute [go_sem ↓] z7j z5e z7g z7h z5m z2h z5f z7i z5g qtq qy0 qzv qvg qzw z2i qvh z2j z2k qzx zea z7l zb7 zeb z7m zec zb8 zb9 zba zbb zbc z7n zbd z7o z7p zbe z7q z7r z7s zbh zbi z7x zbr zbs zbt zbu zbv zbx z01 zbf zbg zbj z5i zbk zbl zed zbm z7t zbn z2o z7u z5j z2p z7v zee zbp zeg zby zbz z5l zbq
attribute [go_sem] qzy qzz z2l z4m q2z qdj qh4 q30 G4 opd qoj qcj q8p cav qth qv2 qta qi6 qtb z72 q9d qrj qpa qpb qxj qxl qxm qxk qpd qz5 qna qdl qf6 z73 qv5 q6t qrd q0o qv6 qpc qre bnd Z0 qel qwk z7k Option.bind_some Option.bind_none Option.map_some Option.map_none List.getElem?_cons_zero List.getElem?_cons_succ List.getElem?_nil List.drop_zero List.drop_succ_cons List.take_zero List.take_succ_cons List.drop_nil List.take_nil List.length_cons List.length_nil List.set_cons_zero List.set_cons_succ List.append_nil List.nil_append List.cons_append if_true if_false ite_true ite_false and_true true_and and_self Bool.not_true Bool.not_false Bool.false_eq_true decide_true decide_false z2t z03 z05 z04 qgg vev pev z5h z2m Nat.zero_mul Nat.sub_zero Nat.mul_one Nat.zero_add Nat.add_zero zb2 zb3 zb4 zb5 zb6 z2n z00 z2q z2r zeh zc0 zc1 zc2 zc3 zc4 zei zc5 zc6 zc7 zc8 zc9 zej zca zcb zcc zcd zce zcf z7z z80 z81 z82 z83 z84 z5n z5o z5p z5q z5r zcg z85 z86 z87 z88 z89 zch z8a z8b z8c z8d z8e zci z8f z8g z8h z8i z8j zcj z8k z8l z8m z8n z8o zck z8p z8q z8r z8s z8t zcl z8u z8v z8w z8x z8y zcm z8z z90 z91 z92 z93 zcn z94 z95 z96 z97 z98 zco z99 z9a z9b z9c z9d zcp z9e z9f z9g z9h z9i zcq z9j z9k z9l z9m z9n zcr z9o z9p z9q z9r z9s zcs z9t z9u z9v z9w z9x
end Go.Aw
namespace Go.Aw
open Go
set_option linter.all false
variable [Glob]
def q9k (l : List Int) : List AV := l.map (.i .i64)
def q34 (l : List Bool) : List AV := l.map .b
theorem qpt (l : List Int) : (q9k l).length = l.length := by simp [q9k]
theorem qh7 (l : List Bool) : (q34 l).length = l.length := by simp [q34]
theorem qnh (l : List Int) (k : Nat) : ((q9k l).drop k)[0]? = (l[k]?).map (.i .i64) := by simp [q9k]
theorem qwu (l : List Bool) (k : Nat) : ((q34 l).drop k)[0]? = (l[k]?).map .b := by simp [q34]
theorem z06 (l : List Int) (k : Nat) : (q9k l).take k = q9k (l.take k) := by simp [q9k, List.map_take]
theorem qpu (l m : List Int) : q9k l ++ q9k m = q9k (l ++ m) := by simp [q9k]
theorem qo0 (l m : List Bool) : q34 l ++ q34 m = q34 (l ++ m) := by simp [q34]
def I64 (n : Int) : Prop := -9223372036854775808 <= n /\ n <= 9223372036854775807
instance (n : Int) : Decidable (I64 n) := inferInstanceAs (Decidable (_ /\ _))
theorem q02 {n : Int} (h : I64 n) : IntKind.i64.wrap n = n := IntWalk.i64_in n h
def Len (n : Nat) : Prop := n < 9223372036854775808
theorem K9 {k : Nat} (h : k < 9223372036854775807) : IntKind.i64.wrap ((k : Int) + 1) = ((k + 1 : Nat) : Int) := by
 rw [q02 (by unfold I64; omega)]; simp
end Go.Aw
namespace Go.Aw
open Go
set_option linter.all false
variable [Glob]
def Own (T : Tab) (z : Nat) (v : AV) (n : Nat) (xs : List AV) (T' : Tab) : Prop :=
 xs.length = n * z /\ ((v = .fz 0 [] (some 0) /\ n = 0 /\ T' = T) \/ ∃ id, v = .sl id 0 n none /\ T id = .unused /\ T' = T.put id (.row z xs))
theorem Tab.put_put (T : Tab) (id : Nat) (a b : Slot) : (T.put id a).put id b = T.put id b := by
 funext j; simp only [Tab.put]; split <;> rfl
theorem Tab.put_comm (T : Tab) {id id' : Nat} (h : id ≠ id') (a b : Slot) : (T.put id a).put id' b = (T.put id' b).put id a := by
 funext j; simp only [Tab.put]; split
 ·rename_i e; subst e; rw [if_neg (Ne.symm h)]
 ·rfl
theorem Tab.put_self {T : Tab} {id : Nat} {a : Slot} (h : T id = a) : T.put id a = T := by
 funext j; simp only [Tab.put]; split
 ·rename_i e; subst e; exact h.symm
 ·rfl
theorem Tab.unused_put {T : Tab} {id j z : Nat} {c : List AV} (h : T.put id (.row z c) j = .unused) : j ≠ id /\ T j = .unused := by
 simp only [Tab.put] at h
 split at h
 ·cases h
 ·rename_i e; exact ⟨e, h⟩
theorem Own.nil (T : Tab) (z : Nat) : Own T z (.fz 0 [] (some 0)) 0 [] T := ⟨by simp, .inl ⟨rfl, rfl, rfl⟩⟩
theorem qpv {T : Tab} {z : Nat} {y : AV} {news : List AV} (h : Z0 T z y = some news) : news.length = q17 y * z := by
 cases y <;> simp only [Z0] at h <;> first
  | (cases h; done)
  | skip
 ·split at h
  ·rename_i e; subst e; injection h with h; subst h; simp [q17]
  ·cases h
 ·split at h
  ·injection h with h; subst h; assumption
  ·cases h
 ·split at h
  ·split at h
   ·rename_i hle; injection h with h; subst h; rw [List.length_take, List.length_drop]; simp only [q17]; omega
   ·cases h
  ·cases h
theorem Own.app {T T1 : Tab} {z b n m : Nat} {v y : AV} {xs news : List AV} {K : AV -> Tab -> Prop} (h : Own T z v n xs T1) (hy : Z0 T1 z y = some news) (hm : q17 y = m)
  (h1 : (n + m) * b <= 140737488355328) (h2 : n + m <= 9223372036854775807) (hk : ∀ v' T2, Own T z v' (n + m) (xs ++ news) T2 -> K v' T2) : q4z z b T1 v y K := by
 have hlen := qpv hy
 rw [hm] at hlen
 obtain ⟨hx, h⟩ := h
 have hsum : (xs ++ news).length = (n + m) * z := by rw [List.length_append, hx, hlen, Nat.add_mul]
 unfold q4z
 rw [hy]
 simp only
 rcases h with ⟨rfl, rfl, rfl⟩ | ⟨id, rfl, hid, rfl⟩
 ·have : xs = [] := by simpa using hx
  subst this
  simp only [hm]
  split
  ·rename_i e
   subst e
   have : news = [] := by simpa using hlen
   subst this
   exact hk _ _ ⟨by simp, .inl ⟨rfl, rfl, rfl⟩⟩
  ·refine ⟨by simp, by omega, h1, h2, fun id hid => ?_⟩
   exact hk _ _ ⟨hsum, .inr ⟨id, by simp, hid, rfl⟩⟩
 ·simp only [Tab.put_same, hm, true_and]
  rw [if_pos (by omega)]
  refine ⟨h1, h2, fun id' hid' => ?_⟩
  obtain ⟨_, hid'⟩ := Tab.unused_put hid'
  rw [Tab.put_put, Tab.put_self hid, List.drop_zero]
  exact hk _ _ ⟨hsum, .inr ⟨id', rfl, hid', rfl⟩⟩
theorem Own.form {T T1 : Tab} {z n : Nat} {v : AV} {xs : List AV} (h : Own T z v n xs T1) : v.plain = true /\ v.isOne = true /\ v.sto = true /\ v.cells = [v] /\ v.isLp = false /\ ∀ k, v.offLp k = v := by
 rcases h.2 with ⟨rfl, _⟩ | ⟨id, rfl, _⟩ <;> exact ⟨rfl, rfl, rfl, rfl, rfl, fun _ => rfl⟩
section
variable {T : Tab} {S : List Nat}
theorem qo1 {k : IntKind} {n : Int} : qn7 T S (.i k n) = .i k n := rfl
theorem qwv {x : Bool} : qn7 T S (.b x) = .b x := rfl
theorem z4o {l : List UInt8} : qn7 T S (.s l) = .s l := rfl
theorem z07 {n : Nat} {c : List AV} {k : Option Nat} : qn7 T S (.fz n c k) = .fz n c k := rfl
end
structure Ow where
 z : Nat
 v : AV
 n : Nat
 xs : List AV
def Owns (T : Tab) : List Ow -> Tab -> Prop
 | [], T' => T' = T
 | a :: l, T' => ∃ T1, Owns T l T1 /\ Own T1 a.z a.v a.n a.xs T'
theorem Owns.swap {T T' : Tab} {a b : Ow} {l : List Ow} (h : Owns T (a :: b :: l) T') : Owns T (b :: a :: l) T' := by
 obtain ⟨T2, ⟨T1, h1, hb, hb'⟩, ha, ha'⟩ := h
 rcases hb' with ⟨e1, e2, rfl⟩ | ⟨id, e1, e2, rfl⟩ <;> rcases ha' with ⟨e3, e4, rfl⟩ | ⟨id', e3, e4, rfl⟩
 ·exact ⟨_, ⟨_, h1, ha, .inl ⟨e3, e4, rfl⟩⟩, hb, .inl ⟨e1, e2, rfl⟩⟩
 ·exact ⟨_, ⟨_, h1, ha, .inr ⟨id', e3, e4, rfl⟩⟩, hb, .inl ⟨e1, e2, rfl⟩⟩
 ·exact ⟨_, ⟨_, h1, ha, .inl ⟨e3, e4, rfl⟩⟩, hb, .inr ⟨id, e1, e2, rfl⟩⟩
 ·obtain ⟨hne, hu⟩ := Tab.unused_put e4
  refine ⟨_, ⟨_, h1, ha, .inr ⟨id', e3, hu, rfl⟩⟩, hb, .inr ⟨id, e1, ?_, ?_⟩⟩
  ·rw [Tab.put_ne _ _ (Ne.symm hne)]; exact e2
  ·exact Tab.put_comm _ (Ne.symm hne) _ _
theorem Owns.app {T T1 : Tab} {a : Ow} {l : List Ow} {b m : Nat} {y : AV} {news : List AV} {K : AV -> Tab -> Prop} (h : Owns T (a :: l) T1) (hy : Z0 T1 a.z y = some news) (hm : q17 y = m)
  (h1 : (a.n + m) * b <= 140737488355328) (h2 : a.n + m <= 9223372036854775807) (hk : ∀ v' T2, Owns T (⟨a.z, v', a.n + m, a.xs ++ news⟩ :: l) T2 -> K v' T2) : q4z a.z b T1 a.v y K := by
 obtain ⟨T0, h0, ho⟩ := h
 exact ho.app hy hm h1 h2 fun v' T2 h' => hk v' T2 ⟨T0, h0, h'⟩
theorem Owns.form {T : Tab} {a : Ow} : ∀ {l : List Ow} {T1 : Tab}, Owns T l T1 -> a ∈ l -> a.v.plain = true /\ a.v.isOne = true /\ a.v.sto = true /\ a.v.cells = [a.v] /\ a.v.isLp = false /\ ∀ k, a.v.offLp k = a.v
 | b :: l, T1, ⟨T0, h0, ho⟩, hm => by
  rcases List.mem_cons.1 hm with rfl | hm
  ·exact ho.form
  ·exact Owns.form h0 hm
theorem Owns.one {T T' : Tab} {z n : Nat} {v : AV} {xs : List AV} (h : Own T z v n xs T') : Owns T [⟨z, v, n, xs⟩] T' := ⟨T, rfl, h⟩
theorem Owns.fin {T : Tab} : ∀ {l : List Ow} {T' : Tab}, Owns T l T' -> ∃ S, S.Nodup /\ (∀ id ∈ S, T' id ≠ .unused /\ T id = .unused) /\ qn8 T' S = T /\ ∀ a ∈ l, ∃ cap, qn7 T' S a.v = .fz a.n a.xs cap
 | [], T', h => ⟨[], List.nodup_nil, by simp, h, by simp⟩
 | a :: l, T', h => by
  obtain ⟨T1, h1, hx, h2⟩ := h
  obtain ⟨S, k1, k2, k3, k4⟩ := Owns.fin h1
  rcases h2 with ⟨e1, e2, rfl⟩ | ⟨id, e1, e2, rfl⟩
  ·refine ⟨S, k1, k2, k3, fun b hb => ?_⟩
   rcases List.mem_cons.1 hb with rfl | hb
   ·have : b.xs = [] := by rw [e2] at hx; simpa using hx
    rw [e1, e2, this]; exact ⟨some 0, rfl⟩
   ·exact k4 b hb
  ·have hid : id ∉ S := fun e => (k2 id e).1 e2
   have hkill : ∀ (S' : List Nat) (T2 : Tab), id ∉ S' -> qn8 (T2.put id (.row a.z a.xs)) S' = (qn8 T2 S').put id (.row a.z a.xs) := by
    intro S'
    induction S' with
    | nil => intro T2 _; rfl
    | cons j S' ih =>
     intro T2 hj
     simp only [List.mem_cons, not_or] at hj
     simp only [qn8]
     rw [ih T2 hj.2, Tab.put_comm _ hj.1]
   have hTid : T id = .unused := by
    rw [<- k3, qkf hid]; exact e2
   refine ⟨id :: S, List.nodup_cons.2 ⟨hid, k1⟩, fun j hj => ?_, ?_, fun b hb => ?_⟩
   ·rcases List.mem_cons.1 hj with rfl | hj
    ·exact ⟨by rw [Tab.put_same]; simp, hTid⟩
    ·refine ⟨?_, (k2 j hj).2⟩
     rw [Tab.put_ne _ _ (fun e => hid (by rw [<- e]; exact hj))]; exact (k2 j hj).1
   ·simp only [qn8]
    rw [hkill S T1 hid, Tab.put_put, k3, Tab.put_self hTid]
   ·rcases List.mem_cons.1 hb with rfl | hb
    ·refine ⟨none, ?_⟩
     rw [e1]
     simp only [qn7, List.mem_cons, true_or, if_true, Tab.put_same, Nat.zero_add, List.drop_zero]
     rw [if_pos (by omega), List.take_of_length_le (by omega)]
    ·obtain ⟨cap, hc⟩ := k4 b hb
     refine ⟨cap, ?_⟩
     rw [<- hc]
     cases hv : b.v with
     | sl id' o n cap' =>
      have hne : id' ≠ id := by
       rintro rfl
       rw [hv] at hc
       simp only [qn7] at hc
       rw [if_neg hid] at hc
       cases hc
      simp only [qn7, List.mem_cons, hne, false_or, Tab.put_ne _ _ hne]
     | ptr id' o => rw [hv] at hc; simp only [qn7] at hc; split at hc <;> (try split at hc) <;> cases hc
     | _ => rfl
theorem q4i {T T' : Tab} {l : List Ow} {r r' : AV} (h : Owns T l T') (hr : ∀ S, (∀ a ∈ l, ∃ cap, qn7 T' S a.v = .fz a.n a.xs cap) -> Wk (qrh T' S r) r') : qnz r (fun v T'' => v = r' /\ T'' = T) T' := by
 obtain ⟨S, k1, k2, k3, k4⟩ := h.fin
 unfold qnz
 exact ⟨S, T, r', k1, fun id hid => (k2 id hid).1, fun id => .inr (.inl (by rw [k3])), hr S k4, rfl, rfl⟩
end Go.Aw
namespace Go.Aw
open Go
variable [Glob]
set_option linter.all false
theorem Q5 {α : Type} {xs ys : List α} {y : α} {k : Nat} (hk : xs.drop k = y :: ys) : k < xs.length /\ xs[k]? = some y /\ xs.drop (k + 1) = ys := by
 refine ⟨?_, ?_, by rw [<- List.drop_drop, hk]; rfl⟩
 ·have : (xs.drop k).length = ys.length + 1 := by rw [hk]; rfl
  rw [List.length_drop] at this; omega
 ·have : (xs.drop k)[0]? = some y := by rw [hk]; rfl
  simpa using this
theorem O9 {α : Type} {xs : List α} {k : Nat} (hk : xs.drop k = []) (hle : k <= xs.length) : xs.length = k := by have := List.drop_eq_nil_iff.1 hk; omega
theorem Z9 {α : Type} {xs : List α} {k : Nat} {y : α} (h : xs[k]? = some y) : xs.take (k + 1) = xs.take k ++ [y] := by
 rw [List.take_add_one, h]; rfl
theorem Own.fin {T T' : Tab} {z n : Nat} {v : AV} {xs : List AV} {Q : AV -> Tab -> Prop} (h : Own T z v n xs T') (hQ : ∀ v T', Own T z v n xs T' -> Q v T') : qnz v Q T' :=
 V1 T' (fun _ => .inr (.inl rfl)) (hQ v T' h)
theorem CallK.as {P : Program} {f : FuncId} {avs : List AV} {T T1 : Tab} {k : AV -> Tab -> Prop} {r : AV} (h : ACalls P f avs T (fun v T' => v = r /\ T' = T1)) (hk : k r T1) : CallK P f avs T k :=
 .of h fun v T' h => by rw [h.1, h.2]; exact hk
theorem q80 {T T1 : Tab} {r r' : AV} (h : Wk r r') (hT : T = T1) : qnz r (fun v T' => v = r' /\ T' = T1) T := by
 subst hT
 exact ⟨[], T, r', List.nodup_nil, by simp, fun _ => .inr (.inl rfl), by rw [qp4]; exact h, rfl, rfl⟩
theorem N1 {P : Program} {d : Option Nat} {f : FuncId} {args : List Operand} {k : Nat} {want : Bool} {rc : RC} {K : Env -> Loc -> Tab -> Prop} {e : Env} {L : Loc} {T : Tab} : Z3 P ⟨d, .call f args, some (k, want), rc⟩ K e L T =
  gst e k want (Hold.mk (a := Z3 P ⟨d, .call f args, none, rc⟩ K e L T)) (Hold.mk (a := U6 (q0g e d (.tup [])) L T rc /\ K (q0g e d (.tup [])) L T)) := by
 rw [z7y _ rfl, z4n]
theorem Owns.base_get {T : Tab} {id : Nat} (hid : T id ≠ .unused) : ∀ {l : List Ow} {T' : Tab}, Owns T l T' -> T' id = T id
 | [], T', h => by rw [show T' = T from h]
 | a :: l, T', ⟨T1, h1, hx, h2⟩ => by
  have ih := Owns.base_get hid h1
  rcases h2 with ⟨_, _, rfl⟩ | ⟨j, _, hj, rfl⟩
  ·exact ih
  ·have hne : id ≠ j := fun e => by subst e; rw [ih] at hj; exact hid hj
   rw [Tab.put_ne _ _ hne]; exact ih
theorem Owns.base_put {T : Tab} {id : Nat} {s : Slot} (hid : T id ≠ .unused) : ∀ {l : List Ow} {T' : Tab}, Owns T l T' -> Owns (T.put id s) l (T'.put id s)
 | [], T', h => by rw [show T' = T from h]; rfl
 | a :: l, T', ⟨T1, h1, hx, h2⟩ => by
  have ih := Owns.base_put (s := s) hid h1
  have hg := Owns.base_get hid h1
  rcases h2 with ⟨e1, e2, rfl⟩ | ⟨j, e1, hj, rfl⟩
  ·exact ⟨_, ih, hx, .inl ⟨e1, e2, rfl⟩⟩
  ·have hne : j ≠ id := fun e => by subst e; rw [hg] at hj; exact hid hj
   refine ⟨_, ih, hx, .inr ⟨j, e1, by rw [Tab.put_ne _ _ hne]; exact hj, ?_⟩⟩
   exact (Tab.put_comm _ hne _ _)
theorem Owns.le {T : Tab} : ∀ {l : List Ow} {T' : Tab}, Owns T l T' -> ∀ j, SlotLe (T j) (T' j)
 | [], T', h, j => by rw [show T' = T from h]; exact .inr (.inl rfl)
 | a :: l, T', ⟨T1, h1, hx, h2⟩, j => by
  have ih := Owns.le h1 j
  rcases h2 with ⟨_, _, rfl⟩ | ⟨i, _, hi, rfl⟩
  ·exact ih
  ·by_cases e : j = i
   ·subst e
    rw [hi] at ih
    rcases ih with h | h | ⟨_, _, _, h, _⟩
    ·exact .inl h
    ·exact .inl h
    ·cases h
   ·rw [Tab.put_ne _ _ e]; exact ih
theorem Owns.perm {T : Tab} {l m : List Ow} (h : l.Perm m) : ∀ {T' : Tab}, Owns T l T' -> Owns T m T' := by
 induction h with
 | nil => exact fun h => h
 | cons x _ ih => exact fun ⟨T1, h1, h2⟩ => ⟨T1, ih h1, h2⟩
 | swap x y l => exact fun h => Owns.swap h
 | trans _ _ ih1 ih2 => exact fun h => ih2 (ih1 h)
theorem Owns.get {T : Tab} {a : Ow} : ∀ {l : List Ow} {T' : Tab}, Owns T l T' -> a ∈ l -> 0 < a.n -> ∃ id, a.v = .sl id 0 a.n none /\ T' id = .row a.z a.xs /\ T id = .unused
 | b :: l, T', ⟨T1, h1, hx, h2⟩, hm, hn => by
  rcases List.mem_cons.1 hm with rfl | hm
  ·rcases h2 with ⟨_, e, _⟩ | ⟨i, e1, hi, rfl⟩
   ·omega
   ·refine ⟨i, e1, Tab.put_same .., ?_⟩
    have hle := h1.le i
    rw [hi] at hle
    rcases hle with h | h | ⟨_, _, _, h, _⟩
    ·exact h
    ·exact h
    ·cases h
  ·obtain ⟨id, e1, e2, e3⟩ := Owns.get h1 hm hn
   rcases h2 with ⟨_, _, rfl⟩ | ⟨i, _, hi, rfl⟩
   ·exact ⟨id, e1, e2, e3⟩
   ·refine ⟨id, e1, ?_, e3⟩
    have hne : id ≠ i := fun e => by subst e; rw [hi] at e2; cases e2
    rw [Tab.put_ne _ _ hne]; exact e2
theorem SlotLe.refl (s : Slot) : SlotLe s s := .inr (.inl rfl)
theorem K8 {α : Type} {f : α -> List AV} {z : Nat} (hf : ∀ x, (f x).length = z) (l : List α) : (l.flatMap f).length = l.length * z := by
 induction l with
 | nil => simp
 | cons c l ih => simp only [List.flatMap_cons, List.length_append, List.length_cons, ih, hf, Nat.add_mul]; omega
theorem V0 {α : Type} {f : α -> List AV} {z : Nat} (hf : ∀ x, (f x).length = z) {l : List α} {k : Nat} {x : α} (h : l[k]? = some x) : (l.flatMap f).drop (k * z) = f x ++ (l.drop (k + 1)).flatMap f := by
 induction l generalizing k with
 | nil => simp at h
 | cons a l ih =>
  cases k with
  | zero => simp at h; subst h; simp
  | succ k =>
   have := ih (k := k) (by simpa using h)
   rw [List.flatMap_cons, List.drop_succ_cons, <- this, show (k + 1) * z = (f a).length + k * z by rw [hf, Nat.add_mul]; omega, List.drop_length_add_append]
theorem Own.fzn {T T' : Tab} {z n : Nat} {v : AV} {xs : List AV} (h : Own T z v n xs T') : qnz v (fun x T'' => x = .fz n xs none /\ T'' = T) T' := by
 have h' := h
 refine q4i (Owns.one h) fun S hS => ?_
 obtain ⟨c, e⟩ := hS _ (List.mem_cons_self ..)
 simp only at e
 rcases h'.2 with ⟨rfl, _⟩ | ⟨id, rfl, _⟩ <;>
 ·simp only [qrh, qns, e]
  exact Wk.fz
theorem z2u {T : Tab} {z b n m : Nat} {cells news : List AV} {y : AV} {K : AV -> Tab -> Prop} (hy : Z0 T z y = some news) (hm : q17 y = m) (h0 : 0 < m) (hn : cells.length = n * z)
  (h1 : (n + m) * b <= 140737488355328) (h2 : n + m <= 9223372036854775807) (hk : ∀ v T2, Own T z v (n + m) (cells ++ news) T2 -> K v T2) : q4z z b T (.fz n cells (some n)) y K := by
 have hlen := qpv hy
 rw [hm] at hlen
 unfold q4z
 rw [hy]
 simp only [hm]
 rw [if_neg (by omega)]
 refine ⟨hn, by omega, h1, h2, fun id hid => hk _ _ ⟨?_, .inr ⟨id, rfl, hid, rfl⟩⟩⟩
 rw [List.length_append, hn, hlen, Nat.add_mul]
def Gr (T : Tab) (z : Nat) (v : AV) (n : Nat) (xs : List AV) (T' : Tab) : Prop := Own T z v n xs T' \/ (v = .fz n xs (some n) /\ xs.length = n * z /\ T' = T)
theorem Gr.form {T T1 : Tab} {z n : Nat} {v : AV} {xs : List AV} (h : Gr T z v n xs T1) : v.plain = true /\ v.isOne = true /\ v.sto = true /\ v.cells = [v] /\ v.isLp = false /\ ∀ k, v.offLp k = v := by
 rcases h with h | ⟨rfl, _⟩
 ·exact h.form
 ·exact ⟨rfl, rfl, rfl, rfl, rfl, fun _ => rfl⟩
theorem Gr.app {T T1 : Tab} {z b n m : Nat} {v y : AV} {xs news : List AV} {K : AV -> Tab -> Prop} (h : Gr T z v n xs T1) (hy : Z0 T1 z y = some news) (hm : q17 y = m) (h0 : 0 < m)
  (h1 : (n + m) * b <= 140737488355328) (h2 : n + m <= 9223372036854775807) (hk : ∀ v' T2, Own T z v' (n + m) (xs ++ news) T2 -> K v' T2) : q4z z b T1 v y K := by
 rcases h with h | ⟨rfl, hx, rfl⟩
 ·exact h.app hy hm h1 h2 hk
 ·exact z2u hy hm h0 hx h1 h2 hk
theorem Gr.fzn {T T' : Tab} {z n : Nat} {v : AV} {xs : List AV} (h : Gr T z v n xs T') : qnz v (fun x T'' => x = .fz n xs none /\ T'' = T) T' := by
 rcases h with h | ⟨rfl, hx, rfl⟩
 ·exact h.fzn
 ·exact q80 .fz rfl
theorem Gr.fin {T T' : Tab} {z n : Nat} {v : AV} {xs : List AV} {Q : AV -> Tab -> Prop} (h : Gr T z v n xs T') (hQ : ∀ v T', Gr T z v n xs T' -> Q v T') : qnz v Q T' :=
 V1 T' (fun _ => .inr (.inl rfl)) (hQ v T' h)
theorem Gr.sl {T T' : Tab} {z n : Nat} {v : AV} {xs : List AV} (h : Gr T z v n xs T') : Z0 T' z v = some xs /\ q17 v = n := by
 rcases h with ⟨hx, h⟩ | ⟨rfl, hx, rfl⟩
 ·rcases h with ⟨rfl, rfl, rfl⟩ | ⟨id, rfl, hid, rfl⟩
  ·have : xs = [] := by simpa using hx
   subst this
   simp [Z0, q17]
  ·simp only [Z0, Tab.put_same, q17, Nat.zero_add, List.drop_zero, true_and, and_true]
   rw [if_pos (by omega), List.take_of_length_le (by omega)]
 ·simp only [Z0, q17]
  rw [if_pos hx]; exact ⟨rfl, trivial⟩
end Go.Aw
namespace Go.Aw
open Go
variable [Glob]
set_option linter.all false
theorem CallK.owns {P : Program} {f : FuncId} {avs : List AV} {T T' : Tab} {l : List Ow} {R k : AV -> Tab -> Prop} (h : Owns T l T')
  (hc : ∀ S, (∀ a ∈ l, ∃ cap, qn7 T' S a.v = .fz a.n a.xs cap) -> ACalls P f (avs.map (qns T' S)) T R) (hk : ∀ v T', R v T' -> k v T') : CallK P f avs T' k := by
 obtain ⟨S, k1, k2, k3, k4⟩ := h.fin
 unfold CallK
 exact ⟨S, R, k1, fun id hid => (k2 id hid).1, by rw [k3]; exact hc S k4, hk⟩
theorem Own.frzv {T T1 T2 : Tab} {S : List Nat} {z n : Nat} {v : AV} {xs : List AV} (h : Own T z v n xs T1) : Aw.qns T2 S v = qn7 T2 S v := by
 rcases h.2 with ⟨rfl, _⟩ | ⟨id, rfl, _⟩ <;> rfl
theorem SlotLe.trans {a b c : Slot} (h : SlotLe a b) (k : SlotLe b c) : SlotLe a c := by
 rcases h with rfl | rfl | ⟨z, cs, m, rfl, rfl⟩
 ·exact .inl rfl
 ·exact k
 ·rcases k with k | k | ⟨z', cs', m', rfl, k⟩
  ·cases k
  ·subst k; exact .inr (.inr ⟨z, cs, m, rfl, rfl⟩)
  ·injection k with k1 k2
   subst k1; subst k2
   exact .inr (.inr ⟨z, cs', min m m', rfl, by rw [List.take_take]⟩)
def TabLe (T T' : Tab) : Prop := ∀ j, SlotLe (T j) (T' j)
theorem TabLe.refl (T : Tab) : TabLe T T := fun _ => .inr (.inl rfl)
theorem TabLe.trans {T T1 T2 : Tab} (h : TabLe T T1) (k : TabLe T1 T2) : TabLe T T2 := fun j => (h j).trans (k j)
theorem TabLe.put {T T1 : Tab} {id : Nat} {s : Slot} (h : TabLe T T1) (hid : T id = .unused) : TabLe T (T1.put id s) := fun j => by
 by_cases e : j = id
 ·subst e; rw [hid]; exact .inl rfl
 ·rw [Tab.put_ne _ _ e]; exact h j
theorem TabLe.unused {T T' : Tab} {id : Nat} (h : TabLe T T') (hid : T' id = .unused) : T id = .unused := by
 rcases h id with e | e | ⟨z, cs, m, e, _⟩
 ·exact e
 ·rw [e, hid]
 ·rw [hid] at e; cases e
theorem TabLe.fin {T T' : Tab} {r : AV} (h : TabLe T T') : qnz r (fun v T'' => v = r /\ T'' = T) T' := V1 T h ⟨rfl, rfl⟩
theorem Own.sl {T T' : Tab} {z n : Nat} {v : AV} {xs : List AV} (h : Own T z v n xs T') : Z0 T' z v = some xs /\ q17 v = n := Gr.sl (.inl h)
theorem Own.ne {T T' : Tab} {z n : Nat} {v : AV} {xs : List AV} (h : Own T z v n xs T') (hn : 0 < n) : ∃ id, v = .sl id 0 n none /\ T id = .unused /\ T' = T.put id (.row z xs) := by
 rcases h.2 with ⟨_, e, _⟩ | h
 ·omega
 ·exact h
end Go.Aw
namespace Go.Aw
open Go
variable [Glob]
set_option linter.all false
def Indep (r : AV) : Prop := ∀ X X' w w' v, vr X w r v -> vr X' w' r v
theorem Indep.b {x : Bool} : Indep (.b x) := fun _ _ _ _ _ h => by simp only [vr] at h ⊢; exact h
theorem Indep.i {k : IntKind} {n : Int} : Indep (.i k n) := fun _ _ _ _ _ h => by simp only [vr] at h ⊢; exact h
theorem Indep.s {l : List UInt8} : Indep (.s l) := fun _ _ _ _ _ h => by simp only [vr] at h ⊢; exact h
theorem Indep.tup {l : List AV} (h : ∀ x ∈ l, Indep x) : Indep (.tup l) := fun X X' w w' v hv => by
 simp only [vr] at hv ⊢
 obtain ⟨us, h1, h2⟩ := hv
 refine ⟨us, ?_, h2⟩
 clear h2
 induction l generalizing us with
 | nil => simpa [vrs] using h1
 | cons x l ih =>
  simp only [vrs] at h1 ⊢
  obtain ⟨u, us', e, k1, k2⟩ := h1
  exact ⟨u, us', e, h x (List.mem_cons_self ..) _ _ _ _ _ k1, ih (fun y hy => h y (List.mem_cons_of_mem _ hy)) us' k2⟩
end Go.Aw
namespace Go.Aw
open Go
variable [Glob]
set_option linter.all false
theorem Wk.fzs {n : Nat} {cells cells' : List AV} {cap : Option Nat} (h : Wks cells cells') : Wk (.fz n cells cap) (.fz n cells' none) := fun X w v hv => by
 have h1 := Wk.fz (n := n) (cells := cells) (cap := cap) X w v hv
 simp only [vr] at h1 ⊢
 obtain ⟨us, h2, h3⟩ := h1
 exact ⟨us, h.vrs h2, h3⟩
theorem Wks.append : ∀ {a b c d : List AV}, Wks a b -> Wks c d -> Wks (a ++ c) (b ++ d)
 | [], [], _, _, _, h => h
 | _ :: _, _ :: _, _, _, h, k => ⟨h.1, Wks.append h.2 k⟩
section
variable {T : Tab} {S : List Nat}
theorem Own.frX {T0 T1 : Tab} {z n : Nat} {v : AV} {xs : List AV} (h : Own T0 z v n xs T1) : Aw.frX T S v = qn7 T S v := by
 rcases h.2 with ⟨rfl, _⟩ | ⟨id, rfl, _⟩ <;> rfl
end
theorem Own.lenAv {T0 T1 : Tab} {z n : Nat} {v : AV} {xs : List AV} (h : Own T0 z v n xs T1) : Aw.qpd false v = some (.i .i64 (n : Nat)) := by
 rcases h.2 with ⟨rfl, rfl, _⟩ | ⟨id, rfl, _⟩ <;> rfl
theorem Owns.lenAv {T T' : Tab} {a : Ow} {l : List Ow} (h : Owns T (a :: l) T') : Aw.qpd false a.v = some (.i .i64 (a.n : Nat)) := by
 obtain ⟨T0, _, ho⟩ := h
 exact ho.lenAv
end Go.Aw
namespace Go.Aw
open Go
set_option linter.all false
def enc (n : Nat) : List UInt8 := if h : n < 128 then [UInt8.ofNat n] else UInt8.ofNat (n % 128 + 128) :: enc (n / 128)
termination_by n
decreasing_by omega
end Go.Aw
namespace Go.Aw
open Go
set_option linter.all false
end Go.Aw
namespace Go.Aw
open Go
variable [Glob]
set_option linter.all false
theorem Own.at {B T1 : Tab} {id z n : Nat} {v : AV} {xs : List AV} (h : Own B z v n xs T1) (hB : B id ≠ .unused) : T1 id = B id := Owns.base_get hB (Owns.one h)
end Go.Aw
namespace Go.Aw
open Go Go.ChangeShapes Go.WideShapes Go.ChangeAt Go.RowKit
variable [Glob]
set_option linter.all false
inductive Ty where
 | int (k : IntKind)
 | bool
 | str
 | sl (e : Ty)
 | st (fs : List Ty)
 | ar (n : Nat) (e : Ty)
mutual
def q9x : Ty -> List AV -> Prop
 | .int k, cs => ∃ n, cs = [.i k n] /\ (Lit.int k n).wf = true
 | .bool, cs => ∃ b, cs = [.b b]
 | .str, cs => ∃ l : List UInt8, cs = [.s l] /\ l.length <= maxLen
 | .sl e, cs => ∃ ps : List (List AV), ps.length <= maxLen /\ (∀ p ∈ ps, q9x e p) /\ ∃ k, cs = [.fz ps.length ps.flatten k]
 | .st fs, cs => q2j fs cs
 | .ar n e, cs => ∃ ps : List (List AV), ps.length = n /\ (∀ p ∈ ps, q9x e p) /\ cs = ps.flatten
def q2j : List Ty -> List AV -> Prop
 | [], cs => cs = []
 | f :: fs, cs => ∃ a b, cs = a ++ b /\ q9x f a /\ q2j fs b
end
mutual
def qt7 (P : Program) : Ty -> TypeId -> Bool
 | .int k, t => match P.underlying t with
  | some (.int k') => decide (k' = k)
  | _ => false
 | .bool, t => match P.underlying t with
  | some .bool => true
  | _ => false
 | .str, t => match P.underlying t with
  | some .string => true
  | _ => false
 | .sl e, t => match P.underlying t with
  | some (.slice e') => qt7 P e e'
  | _ => false
 | .st fs, t => match P.underlying t with
  | some (.struct gs) => qvi P fs gs.toList 0 (P.cellsOf t)
  | _ => false
 | .ar n e, t => match P.underlying t with
  | some (.array m e') => decide (m = n) && qt7 P e e' && decide (P.cellsOf t = n * P.cellsOf e')
  | _ => false
def qvi (P : Program) : List Ty -> List Field -> Nat -> Nat -> Bool
 | [], [], o, n => decide (o = n)
 | f :: fs, g :: gs, o, n => decide (g.offset = o) && qt7 P f g.type && qvi P fs gs (o + P.cellsOf g.type) n
 | _, _, _, _ => false
end
section
variable {P : Program} {X : Cx} {W : World} {H : Type} {enc : TypeId × Value -> H} {base : Nat} {sp : Nat -> Bool} {held : Bool}
theorem z2v {a : Addr} {j : Nat} {u : Value} (h : W.cell? (a.add j) = some u) : W.cell? ⟨a.block, a.off + j, none⟩ = some u := by
 by_cases hj : j = 0
 ·subst hj
  have e : a.add 0 = a := by simp [Addr.add]
  rw [e] at h
  have hs : a.spot = none := by
   unfold World.cell? at h
   split at h
   ·split at h
    ·cases h
    ·rename_i hs; simpa using hs
   ·cases h
  rw [qi7 hs] at h
  simpa using h
 ·simpa [Addr.add, hj] using h
theorem add_add' (a : Addr) (i j : Nat) : (a.add i).add j = a.add (i + j) := by
 unfold Addr.add
 by_cases hi : i = 0 <;> by_cases hj : j = 0 <;> simp [hi, hj, Nat.add_assoc]
theorem z08 {a : Addr} {u : Value} (h : W.cell? a = some u) : a.block < W.heap.size := by
 unfold World.cell? at h
 split at h
 ·rename_i hb; exact (Array.getElem?_eq_some_iff.1 hb).1
 ·cases h
theorem z09 {a : Addr} {u : Value} (h : W.cell? a = some u) : a.spot = none := by
 unfold World.cell? at h
 split at h
 ·split at h
  ·cases h
  ·rename_i hs; simpa using hs
 ·cases h
theorem qvj {l m : List AV} {us vs : List Value} (h : vrs X W l us) (k : vrs X W m vs) : vrs X W (l ++ m) (us ++ vs) := by
 induction l generalizing us with
 | nil => simp only [vrs] at h; subst h; exact k
 | cons x l ih =>
  simp only [vrs] at h
  obtain ⟨u, us', rfl, h1, h2⟩ := h
  exact ⟨u, us' ++ vs, rfl, h1, ih h2⟩
theorem z2w {z : Nat} {e : Ty} {a : Addr} {len : Nat} (h : ∀ i, i < len -> ∃ cs ps, cs.length = z /\ (∀ r, r < z -> W.cell? ((a.add (i * z)).add r) = cs[r]?) /\ vrs X W ps cs /\ q9x e ps /\ ∀ u ∈ cs, u.oneCell' = true) :
  ∃ (us : List Value) (ps : List (List AV)), ps.length = len /\ us.length = len * z /\ vrs X W ps.flatten us /\ (∀ p ∈ ps, q9x e p) /\ (∀ u ∈ us, u.oneCell' = true) /\ ∀ (j : Nat) u, us[j]? = some u -> W.cell? (a.add j) = some u := by
 induction len with
 | zero => exact ⟨[], [], rfl, by simp, by simp [vrs], by simp, by simp, by simp⟩
 | succ n ih =>
  obtain ⟨us, ps, h1, h2, h3, h4, h5, h6⟩ := ih fun i hi => h i (Nat.lt_succ_of_lt hi)
  obtain ⟨cs, p, k1, k2, k3, k4, k5⟩ := h n (Nat.lt_succ_self n)
  refine ⟨us ++ cs, ps ++ [p], by simp [h1], by simp [h2, k1, Nat.succ_mul], ?_, ?_, ?_, ?_⟩
  ·rw [List.flatten_append]
   simpa using qvj h3 k3
  ·intro q hq
   rcases List.mem_append.1 hq with hq | hq
   ·exact h4 q hq
   ·rw [List.mem_singleton] at hq; subst hq; exact k4
  ·intro u hu
   rcases List.mem_append.1 hu with hu | hu
   ·exact h5 u hu
   ·exact k5 u hu
  ·intro j u hj
   by_cases hlt : j < us.length
   ·rw [List.getElem?_append_left hlt] at hj; exact h6 j u hj
   ·rw [List.getElem?_append_right (by omega)] at hj
    have hr : j - us.length < z := by rw [<- k1]; exact (List.getElem?_eq_some_iff.1 hj).1
    have := k2 (j - us.length) hr
    rw [hj, add_add', show n * z + (j - us.length) = j by omega] at this
    exact this
mutual
theorem qsl (hX : ∀ b, b < W.heap.size -> X.fz b) : ∀ (ty : Ty) {t : TypeId} {fuel : Nat} {cs : List Value} {x : DataW H × List MemPlace}, qt7 P ty t = true -> DataW.trod enc P W base sp held fuel t cs = some x ->
  ∃ avs, vrs X W avs cs /\ q9x ty avs /\ ∀ u ∈ cs, u.oneCell' = true
 | .int k, t, fuel, cs, x, ht, h => by
  simp only [qt7] at ht
  split at ht
  ·rename_i k' hu
   have hk : k' = k := of_decide_eq_true ht
   subst hk
   obtain ⟨n, e1, _, hw⟩ := DataW.trod_int hu h
   subst e1
   exact ⟨[.i k' n], by simp [vrs, vr], by simp only [q9x]; exact ⟨n, rfl, hw⟩, by simp [Value.oneCell']⟩
  ·cases ht
 | .bool, t, fuel, cs, x, ht, h => by
  simp only [qt7] at ht
  split at ht
  ·rename_i hu
   cases fuel with
   | zero => simp [DataW.trod] at h
   | succ n =>
    unfold DataW.trod at h
    rw [hu] at h
    split at h <;> simp_all
    rename_i b
    exact ⟨[.b b], by simp [vrs, vr], by simp only [q9x]; exact ⟨b, rfl⟩, by simp [Value.oneCell']⟩
  ·cases ht
 | .str, t, fuel, cs, x, ht, h => by
  simp only [qt7] at ht
  split at ht
  ·rename_i hu
   cases fuel with
   | zero => simp [DataW.trod] at h
   | succ n =>
    unfold DataW.trod at h
    rw [hu] at h
    split at h <;> simp_all
    rename_i s
    exact ⟨[.s s.data.toList], by simp [vrs, vr], by simp only [q9x]; exact ⟨_, rfl, by have h1 := h.1; rw [Array.length_toList]; exact h1⟩, by simp [Value.oneCell']⟩
  ·cases ht
 | .sl e, t, fuel, cs, x, ht, h => by
  simp only [qt7] at ht
  split at ht
  ·rename_i e' hu
   rcases DataW.trod_slice hu h with ⟨rfl, _⟩ | ⟨a, len, cap, elems, rest, n, _, rfl, _, _, hl, hm, hlen, hel, _⟩
   ·exact ⟨[.fz 0 [] (some 0)], by simp [vrs, vr, fzSlice, qt8], by simp only [q9x]; exact ⟨[], Nat.zero_le _, by simp, some 0, rfl⟩, by simp [Value.oneCell']⟩
   ·obtain ⟨us, ps, h1, h2, h3, h4, h5, h6⟩ := z2w (X := X) (W := W) (z := P.cellsOf e') (e := e) (a := a) (len := len) (fun i hi => by
     have k := hel i hi
     rw [List.getElem?_eq_getElem (by omega)] at k
     obtain ⟨cs', k1, k2⟩ := Option.bind_eq_some_iff.1 k
     obtain ⟨_, k3, k4⟩ := World.cells?_some k1
     obtain ⟨ps, k5, k6, k7⟩ := qsl hX e ht k2
     exact ⟨cs', ps, k3, k4, k5, k6, k7⟩)
    refine ⟨[.fz len ps.flatten none], ?_, ?_, by simp [Value.oneCell']⟩
    ·simp only [vrs, vr]
     refine ⟨_, [], rfl, ⟨us, h3, .inr ⟨a, cap, rfl, ?_, hl, (fun k hk => by cases hk), ?_⟩⟩, rfl⟩
     ·cases us with
      | nil => exact .inl rfl
      | cons u us =>
       have := h6 0 u rfl
       have e0 : a.add 0 = a := by simp [Addr.add]
       rw [e0] at this
       exact .inr (z09 this)
     ·cases us with
      | nil => exact .inl rfl
      | cons u us =>
       have := h6 0 u rfl
       have e0 : a.add 0 = a := by simp [Addr.add]
       rw [e0] at this
       exact .inr ⟨hX _ (z08 this), h5, fun j v hv => z2v (h6 j v hv)⟩
    ·simp only [q9x]
     exact ⟨ps, by omega, h4, none, by rw [h1]⟩
  ·cases ht
 | .st fs, t, fuel, cs, x, ht, h => by
  simp only [qt7] at ht
  split at ht
  ·rename_i gs hu
   obtain ⟨xs, n, _, _, hl, hlen, hf⟩ := DataW.trod_struct hu h
   obtain ⟨avs, h1, h2, h3⟩ := qww hX fs (cs := cs) (o := 0) (n := P.cellsOf t) (m := n) (gs := gs.toList) ht (by omega) (fun g hg => by
    obtain ⟨i, hi, rfl⟩ := List.mem_iff_getElem.1 hg
    have hi' : i < gs.size := by simpa using hi
    have := hf i gs[i] (Array.getElem?_eq_getElem hi')
    rw [List.getElem?_eq_getElem (by omega)] at this
    exact ⟨_, by simpa using this⟩)
   refine ⟨avs, ?_, ?_, ?_⟩
   ·simpa using h1
   ·simp only [q9x]; exact h2
   ·simpa using h3
  ·cases ht
 | .ar n e, t, fuel, cs, x, ht, h => by
  simp only [qt7] at ht
  split at ht
  ·rename_i m e' hu
   simp only [Bool.and_eq_true, decide_eq_true_eq] at ht
   obtain ⟨⟨rfl, ht⟩, hc⟩ := ht
   obtain ⟨xs, q, _, _, hl, hlen, hf⟩ := DataW.trod_array hu h
   rw [hc] at hl
   have key : ∀ k, k <= m -> ∃ ps : List (List AV), ps.length = k /\ (∀ p ∈ ps, q9x e p) /\ vrs X W ps.flatten (cs.take (k * P.cellsOf e')) /\ ∀ u ∈ cs.take (k * P.cellsOf e'), u.oneCell' = true := by
    intro k
    induction k with
    | zero => intro _; exact ⟨[], rfl, by simp, by simp [vrs], by simp⟩
    | succ k ih =>
     intro hk
     obtain ⟨ps, h1, h2, h3, h4⟩ := ih (by omega)
     have hx := hf k (by omega)
     rw [List.getElem?_eq_getElem (by omega)] at hx
     obtain ⟨avs, a1, a2, a3⟩ := qsl hX e ht hx
     have e1 : cs.take ((k + 1) * P.cellsOf e') = cs.take (k * P.cellsOf e') ++ (cs.drop (k * P.cellsOf e')).take (P.cellsOf e') := by
      rw [Nat.add_mul, Nat.one_mul, List.take_add]
     rw [e1]
     refine ⟨ps ++ [avs], by simp [h1], ?_, ?_, ?_⟩
     ·intro p hp
      rcases List.mem_append.1 hp with hp | hp
      ·exact h2 p hp
      ·rw [List.mem_singleton] at hp; subst hp; exact a2
     ·rw [List.flatten_append]; simpa using qvj h3 a1
     ·intro u hu
      rcases List.mem_append.1 hu with hu | hu
      ·exact h4 u hu
      ·exact a3 u hu
   obtain ⟨ps, h1, h2, h3, h4⟩ := key m (Nat.le_refl _)
   rw [List.take_of_length_le (by omega)] at h3 h4
   exact ⟨ps.flatten, h3, by simp only [q9x]; exact ⟨ps, h1, h2, rfl⟩, h4⟩
  ·cases ht
theorem qww (hX : ∀ b, b < W.heap.size -> X.fz b) : ∀ (fs : List Ty) {gs : List Field} {o n m : Nat} {cs : List Value}, qvi P fs gs o n = true -> cs.length = n ->
  (∀ g ∈ gs, ∃ x, DataW.trod enc P W base sp held m g.type ((cs.drop g.offset).take (P.cellsOf g.type)) = some x) ->
  ∃ avs, vrs X W avs (cs.drop o) /\ q2j fs avs /\ ∀ u ∈ cs.drop o, u.oneCell' = true
 | [], gs, o, n, m, cs, ht, hn, h => by
  cases gs with
  | cons g gs => simp [qvi] at ht
  | nil =>
   simp only [qvi] at ht
   have : o = n := of_decide_eq_true ht
   have e : cs.drop o = [] := List.drop_eq_nil_of_le (by omega)
   rw [e]
   exact ⟨[], by simp [vrs], by simp only [q2j], by simp⟩
 | f :: fs, gs, o, n, m, cs, ht, hn, h => by
  cases gs with
  | nil => simp [qvi] at ht
  | cons g gs =>
   simp only [qvi, Bool.and_eq_true] at ht
   obtain ⟨⟨h1, h2⟩, h3⟩ := ht
   have ho : g.offset = o := of_decide_eq_true h1
   obtain ⟨x, hx⟩ := h g (List.mem_cons_self ..)
   rw [ho] at hx
   obtain ⟨a, a1, a2, a3⟩ := qsl hX f h2 hx
   obtain ⟨b, b1, b2, b3⟩ := qww hX fs h3 hn fun g' hg' => h g' (List.mem_cons_of_mem _ hg')
   have e : cs.drop o = (cs.drop o).take (P.cellsOf g.type) ++ cs.drop (o + P.cellsOf g.type) := by
    rw [<- List.drop_drop]; exact (List.take_append_drop _ _).symm
   rw [e]
   refine ⟨a ++ b, qvj a1 b1, ?_, ?_⟩
   ·simp only [q2j]; exact ⟨a, b, rfl, a2, b2⟩
   ·intro u hu
    rcases List.mem_append.1 hu with hu | hu
    ·exact a3 u hu
    ·exact b3 u hu
end
def qvk : Ty -> AV -> Prop
 | .st fs, a => ∃ cells, a = .agg cells /\ q2j fs cells
 | .ar n e, a => ∃ cells, a = .agg cells /\ q9x (.ar n e) cells
 | ty, a => q9x ty [a]
def qpw : List Ty -> List AV -> Prop
 | [], as => as = []
 | t :: ts, as => ∃ a as', as = a :: as' /\ qvk t a /\ qpw ts as'
def qrt (P : Program) : List Ty -> List TypeId -> Bool
 | [], [] => true
 | ty :: tys, t :: ts => qt7 P ty t && qrt P tys ts
 | _, _ => false
theorem qwx {v : Value} {avs : List AV} {ty : Ty} (h : ∀ cs, v ≠ .agg cs) (h1 : vrs X W avs v.cells.toList) (h2 : q9x ty avs) : ∃ a, vr X W a v /\ q9x ty [a] := by
 have e : v.cells = #[v] := by
  cases v <;> first | rfl | exact absurd rfl (h _)
 rw [e] at h1
 match avs, h1 with
 | [a], h1 =>
  simp only [vrs] at h1
  obtain ⟨u, us', hu, h1, rfl⟩ := h1
  injection hu with hu; subst hu
  exact ⟨a, h1, h2⟩
 | [], h1 => simp [vrs] at h1
 | a :: b :: l, h1 =>
  simp only [vrs] at h1
  obtain ⟨u, us', hu, _, u2, us2, rfl, _⟩ := h1
  simp at hu
theorem z9y (hX : ∀ b, b < W.heap.size -> X.fz b) {ty : Ty} {t : TypeId} {v : Value} {d : DataW H} {ps : List MemPlace} {r : Reach} {b0 : Nat} (ht : qt7 P ty t = true) (hval : Value.okWide P W r b0 t v) (hd : DataW.Trod enc P W base sp held t v d ps) :
  ∃ a, vr X W a v /\ qvk ty a := by
 obtain ⟨fuel, h⟩ := hd
 obtain ⟨avs, h1, h2, h3⟩ := qsl hX ty ht h
 cases ty with
 | st fs =>
  simp only [qt7] at ht
  split at ht
  ·rename_i gs hu
   unfold Value.okWide at hval
   rw [hu] at hval
   obtain ⟨cs, rfl, _⟩ := hval
   exact ⟨.agg avs, by simp only [vr]; exact ⟨cs.toList, h1, h3, by simp⟩, avs, rfl, h2⟩
  ·cases ht
 | ar n e =>
  simp only [qt7] at ht
  split at ht
  ·rename_i m e' hu
   unfold Value.okWide at hval
   rw [hu] at hval
   obtain ⟨cs, rfl, _⟩ := hval
   exact ⟨.agg avs, by simp only [vr]; exact ⟨cs.toList, h1, h3, by simp⟩, avs, rfl, h2⟩
  ·cases ht
 | int k =>
  refine qwx (fun cs e => ?_) h1 h2
  subst e
  simp only [qt7] at ht
  split at ht
  ·rename_i k' hu
   unfold Value.okWide Cell.okWide Cell.ok at hval
   rw [hu] at hval
   exact hval
  ·cases ht
 | bool =>
  refine qwx (fun cs e => ?_) h1 h2
  subst e
  simp only [qt7] at ht
  split at ht
  ·rename_i hu
   unfold Value.okWide Cell.okWide Cell.ok at hval
   rw [hu] at hval
   exact hval
  ·cases ht
 | str =>
  refine qwx (fun cs e => ?_) h1 h2
  subst e
  simp only [qt7] at ht
  split at ht
  ·rename_i hu
   unfold Value.okWide Cell.okWide Cell.ok at hval
   rw [hu] at hval
   exact hval
  ·cases ht
 | sl e =>
  refine qwx (fun cs e => ?_) h1 h2
  subst e
  simp only [qt7] at ht
  split at ht
  ·rename_i e' hu
   unfold Value.okWide Cell.okWide Cell.ok at hval
   rw [hu] at hval
   exact hval
  ·cases ht
theorem z0a (hX : ∀ b, b < W.heap.size -> X.fz b) {r : Reach} {b0 : Nat} : ∀ {tys : List Ty} {ts : List TypeId} {vs : List Value} {ds : List (DataW H)} {ps : List MemPlace}, qrt P tys ts = true ->
  (∀ (j : Nat) t v, ts[j]? = some t -> vs[j]? = some v -> Value.okWide P W r b0 t v) -> DataW.TrodAll enc P W base sp held ts vs ds ps -> ∃ as, vrs X W as vs /\ qpw tys as
 | [], [], vs, ds, ps, _, _, h => by
  obtain ⟨rfl, _, _⟩ := trodAll_nil h
  exact ⟨[], by simp [vrs], by simp only [qpw]⟩
 | ty :: tys, t :: ts, vs, ds, ps, ht, hv, h => by
  simp only [qrt, Bool.and_eq_true] at ht
  obtain ⟨v, vs', d, ds', p, q, rfl, rfl, rfl, hd, hrest⟩ := trodAll_cons h
  obtain ⟨a, h1, h2⟩ := z9y hX ht.1 (hv 0 t v rfl rfl) hd
  obtain ⟨as, h3, h4⟩ := z0a hX ht.2 (fun j t v h5 h6 => hv (j + 1) t v (by simpa using h5) (by simpa using h6)) hrest
  exact ⟨a :: as, by simp only [vrs]; exact ⟨v, vs', rfl, h1, h3⟩, by simp only [qpw]; exact ⟨a, as, rfl, h2, h4⟩⟩
 | [], _ :: _, _, _, _, ht, _, _ => by simp [qrt] at ht
 | _ :: _, [], _, _, _, ht, _, _ => by simp [qrt] at ht
theorem qm3 (hl : laidOutB P = true) {W' : World} (hb : Below W.heap.size W W') : ∀ {ts : List TypeId} {vs : List Value} {ds : List (DataW H)} {ps : List MemPlace}, (∀ t ∈ ts, P.readableRec t = true /\ t < P.types.size) ->
  DataW.TrodAll enc P W 0 (fun _ => true) true ts vs ds ps -> (∀ x ∈ ps, x.block < W.heap.size) -> DataW.TrodAll enc P W' 0 (fun b => decide (b < W.heap.size)) true ts vs ds ps
 | [], vs, ds, ps, _, h, _ => by
  obtain ⟨rfl, rfl, rfl⟩ := trodAll_nil h
  simp [DataW.TrodAll]
 | t :: ts, vs, ds, ps, hp, h, hx => by
  obtain ⟨v, vs', d, ds', p, q, rfl, rfl, rfl, hd, hrest⟩ := trodAll_cons h
  have h1 := hp t (List.mem_cons_self ..)
  exact ⟨p, q, Below.trod hl h1.1 h1.2 hd hb (fun x hm => hx x (List.mem_append_left _ hm)), qm3 hl hb (fun t ht => hp t (List.mem_cons_of_mem _ ht)) hrest (fun x hm => hx x (List.mem_append_right _ hm)), rfl⟩
def cx0 (W : World) : Cx := ⟨fun b => b < W.heap.size, fun _ => default, 0⟩
theorem zek (W : World) (hg : ∀ p ∈ Glob.gl, W.cell? ⟨p.1, 0, none⟩ = some p.2) : Rel (cx0 W) Tab.nil [] (fun _ => 0) W := by
 have hn : ∀ id, Tab.nil id = .unused := fun _ => rfl
 refine ⟨fun _ _ => rfl, fun b h => h, fun id z c h => ?_, fun id es h => ?_, fun id h => absurd (hn id) h, fun id id' h => absurd (hn id) h, fun l c h => ?_, fun l c h => ?_, fun l l' c c' h => ?_, fun l c h => ?_, fun p hp => ⟨z08 (hg p hp), hg p hp⟩⟩
 ·rw [hn] at h; cases h
 ·rw [hn] at h; cases h
 ·simp [q2z] at h
 ·simp [q2z] at h
 ·simp [q2z] at h
 ·simp [q2z] at h
theorem z9z {X' : Cx} {T' : Tab} {W' : World} (h : Step (cx0 W) Tab.nil W X' T' W') : Below W.heap.size W W' :=
 ⟨h.os, h.tape, h.output, h.size, fun k hk => h.kept k hk fun ⟨id, hid, _⟩ => hid rfl⟩
theorem z5s {f : FuncId} {fn : Func} {s : ChangeSpec} {tb : TypeId} {apart fresh : Bool} (tys : List Ty) (hty : qrt P tys fn.params.toList = true) (hr : fn.resultTypes = #[tb]) (htb : P.underlying tb = some .bool) (hvars : s.vars = [])
  (hs : ∀ (ds : List (DataW H)), ds.length = fn.params.size -> s.fn H ds = { results := [.lit (.bool true)], args := ds }) (hl : laidOutB P = true) (hp : ∀ t ∈ fn.params.toList, P.readableRec t = true /\ t < P.types.size)
  (hcall : ∀ as, qpw tys as -> ACalls P f as Tab.nil (fun v T' => v = .b true /\ T' = Tab.nil)) (W : World) (hgl : ∀ p ∈ Glob.gl, W.cell? ⟨p.1, 0, none⟩ = some p.2) (base : Nat) (args : Array Value) (ds gs : List (DataW H)) (before : List MemPlace)
  (hval : ∀ (j : Nat) t v, fn.params[j]? = some t -> args[j]? = some v -> Value.okWide P W .any base t v) (hW : DataW.Whole enc P fn.params.toList s.vars apart W args.toList ds gs before) :
  Calls P f args W fun e W' => ∃ v, e = .returned v /\ s.post enc P fn apart fresh false false W args v W' := by
 have hlt : ∀ p ∈ before, p.block < W.heap.size := fun p hp => hW.lt p hp
 have hW' := hW
 obtain ⟨p, q, hA, hV, rfl, hfz, hnd⟩ := hW
 rw [hvars] at hV
 obtain ⟨rfl, rfl⟩ := trodVars_none hV
 obtain ⟨as, h1, h2⟩ := z0a (X := cx0 W) (fun b hb => hb) hty (fun j t v h3 h4 => hval j t v (by simpa using h3) (by simpa using h4)) hA
 have hc := hcall as h2 (cx0 W) _ W args.toList (zek W hgl) h1
 refine hc.mono fun e W' ⟨v, x, T', X', lam', he, ⟨hx, _⟩, hv, _, hst⟩ => ?_
 subst he; subst hx
 simp only [vr] at hv
 subst hv
 have hb := z9z hst
 have hlen : ds.length = fn.params.size := by
  have key : ∀ {ts : List TypeId} {vs : List Value} {ds : List (DataW H)} {ps : List MemPlace}, DataW.TrodAll enc P W 0 (fun _ => true) true ts vs ds ps -> ds.length = ts.length := by
   intro ts
   induction ts with
   | nil => intro vs ds ps h; obtain ⟨_, rfl, _⟩ := trodAll_nil h; rfl
   | cons t ts ih => intro vs ds ps h; obtain ⟨v, vs', d, ds', p, q, rfl, rfl, rfl, hd, hrest⟩ := trodAll_cons h; simp [ih hrest]
  simpa using key hA
 simp only [List.append_nil] at hlt
 have hs' := hs ds hlen
 refine ⟨_, rfl, ds, [], p ++ [], [], p, [], hW', ?_, ?_, ?_, hb.frame _, fun h => nomatch h⟩
 ·rw [List.append_nil, hs', hr]
  exact trodAll_mk1 (RowKit.shut_bool htb true)
 ·rw [List.append_nil, hs']
  exact qm3 hl hb hp hA hlt
 ·rw [hvars, List.append_nil, hs']
  rfl
end
end Go.Aw
namespace Go.Aw
open Go
variable [Glob]
set_option linter.all false
theorem z4p {k : IntKind} {b : AV} (h : qvk (.int k) b) : ∃ n, b = .i k n /\ (Lit.int k n).wf = true := by
 simp only [qvk, q9x] at h
 obtain ⟨n, hn, hw⟩ := h
 injection hn with hn
 exact ⟨n, hn, hw⟩
theorem za0 {k : IntKind} {n : Int} (h : (Lit.int k n).wf = true) : k.min <= n /\ n <= k.max := by
 simp [Lit.wf, IntKind.has] at h
 exact h
theorem q8r {n : Int} (h : (Lit.int .i64 n).wf = true) : I64 n := by
 have := za0 h
 simp [IntKind.min, IntKind.max, IntKind.signed, IntKind.bits] at this
 unfold I64
 omega
theorem qk5 {n : Int} (h : (Lit.int .u64 n).wf = true) : 0 <= n /\ n < 18446744073709551616 := by
 have := za0 h
 simp [IntKind.min, IntKind.max, IntKind.signed, IntKind.bits] at this
 omega
theorem z0b {α : Type} {e : Ty} {cells : α -> List AV} {ok : α -> Prop} (h : ∀ p, q9x e p -> ∃ x, p = cells x /\ ok x) : ∀ (ps : List (List AV)), (∀ p ∈ ps, q9x e p) -> ∃ l : List α, l.length = ps.length /\ ps.flatten = l.flatMap cells /\ ∀ x ∈ l, ok x
 | [], _ => ⟨[], rfl, rfl, by simp⟩
 | p :: ps, hp => by
  obtain ⟨l, h1, h2, h3⟩ := z0b h ps fun q hq => hp q (List.mem_cons_of_mem _ hq)
  obtain ⟨x, rfl, hx⟩ := h p (hp p (List.mem_cons_self ..))
  refine ⟨x :: l, by simp [h1], by simp [h2], ?_⟩
  intro y hy
  rcases List.mem_cons.1 hy with rfl | hy
  ·exact hx
  ·exact h3 y hy
theorem qc6 {α : Type} {e : Ty} {cells : α -> List AV} {ok : α -> Prop} (h : ∀ p, q9x e p -> ∃ x, p = cells x /\ ok x) {p : List AV} (hp : q9x (.sl e) p) :
  ∃ (l : List α) (k : Option Nat), p = [.fz l.length (l.flatMap cells) k] /\ Len l.length /\ ∀ x ∈ l, ok x := by
 simp only [q9x] at hp
 obtain ⟨ps, hps, hf, k, rfl⟩ := hp
 obtain ⟨l, h1, h2, h3⟩ := z0b h ps hf
 refine ⟨l, k, by rw [h1, h2], ?_, h3⟩
 unfold Len
 rw [h1]
 unfold maxLen at hps
 omega
theorem z0c {α : Type} {e : Ty} {cells : α -> List AV} {ok : α -> Prop} (h : ∀ p, q9x e p -> ∃ x, p = cells x /\ ok x) {a : AV} (ha : qvk (.sl e) a) :
  ∃ (l : List α) (k : Option Nat), a = .fz l.length (l.flatMap cells) k /\ Len l.length /\ ∀ x ∈ l, ok x := by
 have ha' : q9x (.sl e) [a] := ha
 obtain ⟨l, k, h1, h2⟩ := qc6 h ha'
 injection h1 with h1
 exact ⟨l, k, h1, h2⟩
theorem cpn {P : Program} {f : FuncId} {avs : List AV} {r : AV} {K : Env -> Loc -> Tab -> Prop} {e : Env} {L : Loc} {d : Option Nat} {T : Tab} (h : PCalls P f avs r) (hk : K (q0g e d r) L T) : CallK P f avs T (aft K e L d []) := CallK.pure h (J1 hk)
theorem can {P : Program} {f : FuncId} {avs : List AV} {r : AV} {K : Env -> Loc -> Tab -> Prop} {e : Env} {L : Loc} {d : Option Nat} {T T1 : Tab} (h : ACalls P f avs T (fun v T' => v = r /\ T' = T1)) (hk : K (q0g e d r) L T1) : CallK P f avs T (aft K e L d []) := CallK.as h (J1 hk)
end Go.Aw
