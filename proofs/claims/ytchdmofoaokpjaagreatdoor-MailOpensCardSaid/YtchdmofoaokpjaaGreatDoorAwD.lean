import Derived.Test.YtchdmofoaokpjaaGreatDoorAwC
import Derived.IntWalk
import Derived.ProofKit
import Derived.OpenShut
namespace Go.Aw
open Go
set_option linter.all false
variable [Glob]
section
variable {P : Program} {R : G9} {K : Env -> Loc -> Tab -> Prop} {e : Env} {L : Loc} {T : Tab}
theorem z4m : AW P .skip R e L T = R .normal e L T := rfl
theorem z7c (l : List SOp) : AW P (.ops l) R e L T = qpi P l (R .normal) e L T := rfl
theorem z7d (a b : SC) : AW P (.seq a b) R e L T = AW P a (qa5 (AW P b R) R) e L T := rfl
theorem z17 (id : Nat) (c : SC) : AW P (.block id c) R e L T = AW P c (qwp id R) e L T := rfl
theorem z4n (id : Nat) : AW P (.exit id) R e L T = R (.exit id) e L T := rfl
theorem z7e : AW P .ret R e L T = R .ret e L T := rfl
theorem z4o (ts ls : List Nat) : AW P (.keep ts ls) R e L T = R .normal (qce ts e) (qce ls L) T := rfl
theorem qpq : qa5 K R .normal = K := rfl
theorem qvl (id : Nat) : qa5 K R (.exit id) = R (.exit id) := rfl
theorem qxs : qa5 K R .ret = R .ret := rfl
theorem qrr (id : Nat) : qwp id R .normal = R .normal := rfl
theorem qxt (id id' : Nat) : qwp id R (.exit id') = if id' = id then R .normal else R (.exit id') := rfl
theorem z18 (id : Nat) : qwp id R .ret = R .ret := rfl
theorem qrs (rs : List SO) (Q : AV -> Tab -> Prop) : z7b rs Q .normal = z0s rs Q := rfl
theorem z19 (rs : List SO) (Q : AV -> Tab -> Prop) : z7b rs Q .ret = z0s rs Q := rfl
theorem z1a : qpi P [] K e L T = K e L T := rfl
theorem qxu (o : SOp) (l : List SOp) : qpi P (o :: l) K e L T = Y5 P o (qpi P l K) e L T := rfl
theorem qxv (d : Nat) (x : AV) : q06 e (some d) x = q96 e d x := rfl
theorem qxw (x : AV) : q06 e none x = e := rfl
variable {d : Option Nat} {rc : RC}
inductive Hold.{u} {α : Sort u} (a : α) : Type
 | mk
def vst (x : Option AV) {K : AV -> Prop} (_ : Hold K) : Prop :=
 match x with
 | some x => K x
 | none => False
def gzS (e : Env) (L : Loc) (T : Tab) {K : Env -> Loc -> Tab -> Prop} (_ : Hold K) : Prop := ∃ (S : List Nat) (T' : Tab) (E' : Env), S.Nodup /\ (∀ id ∈ S, T id ≠ .unused) /\ (∀ j, qua T S (T' j) (qfo T S j)) /\ z4h T S e E' /\ K E' L T'
theorem z7f : AW P .gfz R e L T = gzS e L T (Hold.mk (a := R .normal)) := rfl
theorem z1b (x : AV) (K : AV -> Prop) (h : Hold K) : vst (some x) h = K x := rfl
def br (x : Bool) {a b : Prop} (_ : Hold a) (_ : Hold b) : Prop := if x = true then a else b
theorem z4p (a b : Prop) (p : Hold a) (q : Hold b) : br true p q = a := rfl
theorem z1c (a b : Prop) (p : Hold a) (q : Hold b) : br false p q = b := rfl
theorem K0 {x : Bool} {a b : Prop} {p : Hold a} {q : Hold b} (ha : x = true -> a) (hb : x = false -> b) : br x p q := by
 cases x
 ·exact hb rfl
 ·exact ha rfl
def snl (neg : Bool) (x : Option AV) {K : AV -> Prop} (_ : Hold K) : Prop := qav neg x K
theorem z7g (neg : Bool) (id o n : Nat) (cap : Option Nat) (K : AV -> Prop) (h : Hold K) : snl neg (some (.sl id o n cap)) h = K (.b neg) := rfl
theorem qxx (neg : Bool) (n : Nat) (c : List AV) (cap : Option Nat) (K : AV -> Prop) (h : Hold K) : snl neg (some (.fz n c cap)) h = if 0 < n then K (.b neg) else ∀ b, K (.b b) := rfl
def brO (x : Option AV) {a b : Prop} (p : Hold a) (q : Hold b) : Prop :=
 match x with
 | some (.b x) => br x p q
 | _ => False
theorem zbd (x : Bool) (a b : Prop) (p : Hold a) (q : Hold b) : brO (some (.b x)) p q = br x p q := rfl
def gsO (x : Option AV) {a b : Prop} (p : Hold a) (q : Hold b) : Prop :=
 match x with
 | some (.b x) => br x p q
 | some (.tup []) => b
 | _ => False
theorem zbe (x : Bool) (a b : Prop) (p : Hold a) (q : Hold b) : gsO (some (.b x)) p q = br x p q := rfl
theorem zbf (a b : Prop) (p : Hold a) (q : Hold b) : gsO (some (.tup [])) p q = b := rfl
def gsN (x : Option AV) {a b : Prop} (p : Hold a) (q : Hold b) : Prop :=
 match x with
 | some (.b x) => br x q p
 | some (.tup []) => b
 | _ => False
theorem zbg (x : Bool) (a b : Prop) (p : Hold a) (q : Hold b) : gsN (some (.b x)) p q = br x q p := rfl
theorem zbh (a b : Prop) (p : Hold a) (q : Hold b) : gsN (some (.tup [])) p q = b := rfl
def vs2 (x : Option (Env × Loc)) {K : Env -> Loc -> Prop} (_ : Hold K) : Prop :=
 match x with
 | some (e, l) => K e l
 | none => False
theorem z1d (e : Env) (l : Loc) (K : Env -> Loc -> Prop) (h : Hold K) : vs2 (some (e, l)) h = K e l := rfl
def gst (e : Env) (k : Nat) (want : Bool) {y n : Prop} (p : Hold y) (q : Hold n) : Prop :=
 match q10 e k with
 | some (.b x) => if want then br x p q else br x q p
 | some (.tup []) => n
 | _ => False
theorem zet (x) : Y5 P ⟨d, .mv x, none, rc⟩ K e L T = vst (Z7 e x) (Hold.mk (a := fun v => K (q06 e d v) L T)) := rfl
theorem z7h (c x y) : Y5 P ⟨d, .pick c x y, none, rc⟩ K e L T = vst ((Z7 e c).bind fun c => qph c (Z7 e x) (Z7 e y)) (Hold.mk (a := fun v => K (q06 e d v) L T)) := rfl
theorem zbi (o x y) : Y5 P ⟨d, .bin o x y, none, rc⟩ K e L T = vst ((Z7 e x).bind fun x => (Z7 e y).bind fun y => qrd o x y) (Hold.mk (a := fun v => K (q06 e d v) L T)) := rfl
theorem zeu (o k x y) : Y5 P ⟨d, .eq o k x y, none, rc⟩ K e L T = vst ((Z7 e x).bind fun x => (Z7 e y).bind fun y => (qm1 k x y).map fun r => .b (if o then !r else r)) (Hold.mk (a := fun v => K (q06 e d v) L T)) := rfl
theorem z7i (neg x) : Y5 P ⟨d, .snil neg x, none, rc⟩ K e L T = snl neg (Z7 e x) (Hold.mk (a := fun v => K (q06 e d v) L T)) := rfl
theorem zev (o x) : Y5 P ⟨d, .un o x, none, rc⟩ K e L T = vst ((Z7 e x).bind (z71 o)) (Hold.mk (a := fun v => K (q06 e d v) L T)) := rfl
theorem zbj (k x) : Y5 P ⟨d, .cvi k x, none, rc⟩ K e L T = vst ((Z7 e x).bind (qmx k)) (Hold.mk (a := fun v => K (q06 e d v) L T)) := rfl
theorem zbk (x) : Y5 P ⟨d, .b2s x, none, rc⟩ K e L T = vst ((Z7 e x).bind fun x => (Z4 T 1 x).bind fun c => match x with
   | .s _ => none
   | _ => (q7v c).map .s) (Hold.mk (a := fun v => K (q06 e d v) L T)) := rfl
theorem zbl (x) : Y5 P ⟨d, .s2b x, none, rc⟩ K e L T = vst ((Z7 e x).bind fun x => match x with
  | .s l => some (.fz l.length (K8 l) none)
  | _ => none) (Hold.mk (a := fun v => K (q06 e d v) L T)) := rfl
theorem zbm (x) : Y5 P ⟨d, .cvs x, none, rc⟩ K e L T = vst ((Z7 e x).bind fun x => match x with
   | .s l => some (.s l)
   | _ => none) (Hold.mk (a := fun v => K (q06 e d v) L T)) := rfl
theorem zbn (t x) : Y5 P ⟨d, .ifc t x, none, rc⟩ K e L T = vst ((Z7 e x).map (.ifc t)) (Hold.mk (a := fun v => K (q06 e d v) L T)) := rfl
theorem z7j (f a c) : Y5 P ⟨d, .mkfn f a c, none, rc⟩ K e L T = vst ((q8f e a).bind fun a => (q8f e c).map fun b => .fn f a b) (Hold.mk (a := fun v => K (q06 e d v) L T)) := rfl
theorem zbo (z x lo hi mx) : Y5 P ⟨d, .slc z x lo hi mx, none, rc⟩ K e L T = vst ((Z7 e x).bind fun x => (q5f e lo).bind fun lo => (q5f e hi).bind fun hi => (q5f e mx).bind fun mx => qrh z T lo hi mx x) (Hold.mk (a := fun v => K (q06 e d v) L T)) := rfl
theorem z7k (x lo hi) : Y5 P ⟨d, .slcs x lo hi, none, rc⟩ K e L T = vst ((Z7 e x).bind fun x => (q5f e lo).bind fun lo => (q5f e hi).bind fun hi => qjt lo hi x) (Hold.mk (a := fun v => K (q06 e d v) L T)) := rfl
theorem z7l (l o x) : Y5 P ⟨d, .fadr l o x, none, rc⟩ K e L T = vst ((qiv e l x).bind (qjr o)) (Hold.mk (a := fun v => K (q06 e d v) L T)) := rfl
theorem zbp (o z x) : Y5 P ⟨d, .fld o z x, none, rc⟩ K e L T = vst ((Z7 e x).bind (qv4 o z)) (Hold.mk (a := fun v => K (q06 e d v) L T)) := rfl
theorem z7m (l z a x i) : Y5 P ⟨d, .iadr l z a x i, none, rc⟩ K e L T = vst ((qiv e l x).bind fun x => (Z7 e i).bind fun i => qjs z a i x) (Hold.mk (a := fun v => K (q06 e d v) L T)) := rfl
theorem z7n (x i) : Y5 P ⟨d, .idxs x i, none, rc⟩ K e L T = vst ((Z7 e x).bind fun x => (Z7 e i).bind fun i => qmt i x) (Hold.mk (a := fun v => K (q06 e d v) L T)) := rfl
theorem zbq (i x) : Y5 P ⟨d, .ext i x, none, rc⟩ K e L T = vst ((Z7 e x).bind (qv5 i)) (Hold.mk (a := fun v => K (q06 e d v) L T)) := rfl
theorem zbr (s x) : Y5 P ⟨d, .len s x, none, rc⟩ K e L T = vst ((Z7 e x).bind (qiu s)) (Hold.mk (a := fun v => K (q06 e d v) L T)) := rfl
theorem z7o (z l n x i) : Y5 P ⟨d, .idxa z l n x i, none, rc⟩ K e L T = vst ((Z7 e x).bind fun x => (Z7 e i).bind fun i => qv6 z l n i x) (Hold.mk (a := fun v => K (q06 e d v) L T)) := rfl
theorem zbs (x) : Y5 P ⟨d, .cap x, none, rc⟩ K e L T = vst ((Z7 e x).bind qv7) (Hold.mk (a := fun v => K (q06 e d v) L T)) := rfl
theorem zbt : Y5 P ⟨d, .bad, none, rc⟩ K e L T = False := rfl
def mkS (z b : Nat) (zero : List AV) (x y : Option AV) (T : Tab) {k : AV -> Tab -> Prop} (_ : Hold k) : Prop :=
 match x, y with
 | some (.i _ j), some (.i _ q) => 0 <= j /\ j <= q /\ q.toNat * b <= 140737488355328 /\ q <= 9223372036854775807 /\ ∀ id, T id = .unused -> k (.sl id 0 j.toNat none) (T.put id (.row z (rep zero q.toNat)))
 | _, _ => False
theorem zbu (m x y) : Y5 P ⟨d, .mnx m x y, none, rc⟩ K e L T = vst ((Z7 e x).bind fun x => (Z7 e y).bind fun y => qx1 m x y) (Hold.mk (a := fun v => K (q06 e d v) L T)) := rfl
theorem z4q (l x) : Y5 P ⟨d, .nilck l x, none, rc⟩ K e L T = vst ((qiv e l x).bind qh3) (Hold.mk (a := fun v => K (q06 e d v) L T)) := rfl
theorem zbv (z ps) : Y5 P ⟨d, .bld z ps, none, rc⟩ K e L T = vst ((q97 e z ps).map .agg) (Hold.mk (a := fun v => K (q06 e d v) L T)) := rfl
theorem zbw (n q z ps) : Y5 P ⟨d, .bsl n q z ps, none, rc⟩ K e L T = vst ((q97 e z ps).map fun cells => .fz n cells (some n)) (Hold.mk (a := fun v => K (q06 e d v) L T)) := rfl
theorem zew (z x) : Y5 P ⟨d, .ld z x, none, rc⟩ K e L T = vst ((Z7 e x).bind (z72 z T)) (Hold.mk (a := fun v => K (q06 e d v) L T)) := rfl
theorem zbx (l z x) : Y5 P ⟨d, .lld l z x, none, rc⟩ K e L T = vst ((qiv e (some l) x).bind (qrg l z L)) (Hold.mk (a := fun v => K (q06 e d v) L T)) := rfl
theorem z7p (x) : Y5 P ⟨d, .fbox x, none, rc⟩ K e L T = vst ((Z7 e x).bind fun v => if v.sto = true then some (.fptr v.cells) else none) (Hold.mk (a := fun v => K (q06 e d v) L T)) := rfl
theorem zby (l z x v) : Y5 P ⟨d, .lst l z x v, none, rc⟩ K e L T = vs2 ((qiv e (some l) x).bind fun p => (Z7 e v).bind fun y => match p with
  | .lp _ o => (q10 L l).bind fun cells => if y.sto = true /\ y.cells.length = z /\ o + z <= cells.length then some (q06 e d (.tup []), q96 L l (q07 cells o y.cells)) else none
  | _ => none) (Hold.mk (a := fun e l => K e l T)) := rfl
theorem z1e (k : Nat) (z) : Y5 P ⟨some k, .lalloc z, none, rc⟩ K e L T = K (q96 (q1u e k) k (.lp k 0)) (q96 L k z) T := rfl
theorem z7q (k : Nat) (x) : Y5 P ⟨some k, .lbox x, none, rc⟩ K e L T = vs2 ((Z7 e x).bind fun v => if v.sto = true then some (q96 (q1u e k) k (.lp k 0), q96 L k v.cells) else none) (Hold.mk (a := fun e l => K e l T)) := rfl
def CallK (P : Program) (f : FuncId) (avs : List AV) (T : Tab) (k : AV -> Tab -> Prop) : Prop :=
 ∃ S R, S.Nodup /\ (∀ id ∈ S, T id ≠ .unused) /\ ACalls P f (avs.map (q99 T S)) (qfo T S) R /\ ∀ v T', R v T' -> k v T'
def aft (K : Env -> Loc -> Tab -> Prop) (e : Env) (L : Loc) (d : Option Nat) (rc : RC) : AV -> Tab -> Prop := fun v T' => v.isLp = false -> I2 (q06 e d v) L T' rc /\ K (q06 e d v) L T'
def zbz (P : Program) (f : FuncId) (avs : Option (List AV)) (T : Tab) {k : AV -> Tab -> Prop} (_ : Hold k) : Prop :=
 match avs with
 | some avs => CallK P f avs T k
 | none => False
theorem qxy (f : FuncId) (avs : List AV) (k : AV -> Tab -> Prop) (h : Hold k) : zbz P f (some avs) T h = CallK P f avs T k := rfl
def zb7 (P : Program) (x : Option AV) (avs : Option (List AV)) (T : Tab) {k : AV -> Tab -> Prop} (_ : Hold k) : Prop :=
 match x, avs with
 | some (.fn (.func f) first cap), some avs => K4 P f = true /\ CallK P f (first ++ avs ++ cap) T k
 | _, _ => False
theorem qcg (f : FuncId) (first cap avs : List AV) (k : AV -> Tab -> Prop) (h : Hold k) (hc : K4 P f = true) : zb7 P (some (.fn (.func f) first cap)) (some avs) T h = CallK P f (first ++ avs ++ cap) T k := by
 simp [zb7, hc]
theorem J0 (f args) (hc : K4 P f = true) : Y5 P ⟨d, .call f args, none, rc⟩ K e L T = zbz P f (q8f e args) T (Hold.mk (a := aft K e L d rc)) := by
 have : Y5 P ⟨d, .call f args, none, rc⟩ K e L T = (K4 P f = true /\ match q8f e args with
  | some avs => CallK P f avs T (aft K e L d rc)
  | none => False) := rfl
 rw [this]; simp only [hc, true_and]; rfl
theorem z4r (x args) : Y5 P ⟨d, .callv x args, none, rc⟩ K e L T = zb7 P (Z7 e x) (q8f e args) T (Hold.mk (a := aft K e L d rc)) := rfl
theorem z1f (z c) : Y5 P ⟨d, .halloc z c, none, rc⟩ K e L T = ∀ id, T id = .unused -> aft K e L d rc (.ptr id 0) (T.put id (.row z c)) := rfl
def hbS (z : Nat) (x : Option AV) (T : Tab) {k : AV -> Tab -> Prop} (_ : Hold k) : Prop :=
 match x with
 | some v => v.sto = true /\ ∀ id, T id = .unused -> k (.ptr id 0) (T.put id (.row z v.cells))
 | none => False
theorem z1g (z : Nat) (v : AV) (k : AV -> Tab -> Prop) (h : Hold k) (hv : v.sto = true) : hbS z (some v) T h = ∀ id, T id = .unused -> k (.ptr id 0) (T.put id (.row z v.cells)) := by simp [hbS, hv]
theorem z7r (z x) : Y5 P ⟨d, .hbox z x, none, rc⟩ K e L T = hbS z (Z7 e x) T (Hold.mk (a := aft K e L d rc)) := rfl
def stS (z : Nat) (x y : Option AV) (T : Tab) {k : AV -> Tab -> Prop} (_ : Hold k) : Prop :=
 match x, y with
 | some (.ptr id o), some y => match T id with
  | .row q cells => y.sto = true /\ y.cells.length = z /\ o + z <= cells.length /\ k (.tup []) (T.put id (.row q (q07 cells o y.cells)))
  | _ => False
 | _, _ => False
theorem q11 {z id o q : Nat} {y : AV} {cells : List AV} {k : AV -> Tab -> Prop} {h : Hold k} (hT : T id = .row q cells) (h1 : y.sto = true) (h2 : y.cells.length = z) (h3 : o + z <= cells.length)
  (hk : k (.tup []) (T.put id (.row q (q07 cells o y.cells)))) : stS z (some (.ptr id o)) (some y) T h := by
 unfold stS; simp only [hT]; exact ⟨h1, h2, h3, hk⟩
theorem zex (z x v) : Y5 P ⟨d, .st z x v, none, rc⟩ K e L T = stS z (Z7 e x) (Z7 e v) T (Hold.mk (a := aft K e L d rc)) := rfl
def apS (z b : Nat) (x y : Option AV) (T : Tab) {k : AV -> Tab -> Prop} (_ : Hold k) : Prop :=
 match x, y with
 | some x, some y => q1k z b T x y k
 | _, _ => False
theorem z1h (z b : Nat) (x y : AV) (k : AV -> Tab -> Prop) (h : Hold k) : apS z b (some x) (some y) T h = q1k z b T x y k := rfl
theorem zc0 (z b x y) : Y5 P ⟨d, .app z b x y, none, rc⟩ K e L T = apS z b (Z7 e x) (Z7 e y) T (Hold.mk (a := aft K e L d rc)) := rfl
def clS (z : Nat) (zero : List AV) (x : Option AV) (T : Tab) {k : AV -> Tab -> Prop} (_ : Hold k) : Prop :=
 match x with
 | some (.fz 0 _ _) => k (.tup []) T
 | some (.sl id o n _) => match T id with
  | .row q cells => q = z /\ zero.length = z /\ o + n * z <= cells.length /\ k (.tup []) (T.put id (.row q (q07 cells o (rep zero n))))
  | _ => False
 | _ => False
theorem zc1 (z zero x) : Y5 P ⟨d, .clr z zero x, none, rc⟩ K e L T = clS z zero (Z7 e x) T (Hold.mk (a := aft K e L d rc)) := rfl
def zek (n z : Nat) (x : Option (List AV)) (T : Tab) {k : AV -> Tab -> Prop} (_ : Hold k) : Prop :=
 match x with
 | some cells => ∀ id, T id = .unused -> k (.sl id 0 n (some n)) (T.put id (.row z cells))
 | none => False
theorem qxz (n z : Nat) (cells : List AV) (k : AV -> Tab -> Prop) (h : Hold k) : zek n z (some cells) T h = ∀ id, T id = .unused -> k (.sl id 0 n (some n)) (T.put id (.row z cells)) := rfl
theorem zc2 (n z zero ps) : Y5 P ⟨d, .hbs n z zero ps, none, rc⟩ K e L T = zek n z (q97 e zero ps) T (Hold.mk (a := aft K e L d rc)) := rfl
def zey (x : Option AV) (T : Tab) {k : AV -> Tab -> Prop} (_ : Hold k) : Prop :=
 match x with
 | some (.sl id o n cap) => match T id with
  | .row z cells => z = 1 /\ o + n <= cells.length /\ k (.fz n ((cells.drop o).take n) cap) (T.put id .unused)
  | _ => False
 | _ => False
theorem zc3 (x) : Y5 P ⟨d, .cvm x, none, rc⟩ K e L T = zey (Z7 e x) T (Hold.mk (a := aft K e L d rc)) := rfl
def zel (z b : Nat) (zero : List AV) (x y : Option AV) (T : Tab) {k : AV -> Tab -> Prop} (_ : Hold k) : Prop :=
 match x, y with
 | some (.fz 0 [] (some 0)), some (.i _ q) => 0 < q /\ q.toNat * b <= 140737488355328 /\ q <= 9223372036854775807 /\ ∀ id, T id = .unused -> k (.sl id 0 q.toNat none) (T.put id (.row z (rep zero q.toNat)))
 | _, _ => False
theorem z4s {z b : Nat} {zero : List AV} {k2 : IntKind} {q : Int} {k : AV -> Tab -> Prop} {h : Hold k} (h2 : 0 < q) (h3 : q.toNat * b <= 140737488355328) (h4 : q <= 9223372036854775807)
  (hk : ∀ id, T id = .unused -> k (.sl id 0 q.toNat none) (T.put id (.row z (rep zero q.toNat)))) : zel z b zero (some (.fz 0 [] (some 0))) (some (.i k2 q)) T h := ⟨h2, h3, h4, hk⟩
theorem zc4 (z b zero x y) : Y5 P ⟨d, .apz z b zero x y, none, rc⟩ K e L T = zel z b zero (Z7 e x) (Z7 e y) T (Hold.mk (a := aft K e L d rc)) := rfl
theorem zc5 : Y5 P ⟨d, .mkm, none, rc⟩ K e L T = ∀ id, T id = .unused -> aft K e L d rc (.mp id) (T.put id (.mapo [])) := rfl
def z7s (m : MK) (ok : Bool) (zero : AV) (x y : Option AV) (T : Tab) {k : AV -> Tab -> Prop} (_ : Hold k) : Prop :=
 match x, y with
 | some (.mp id), some kv => match T id with
  | .mapo es => q1l m kv = true /\ match qm3 m kv es with
   | some (some v) => k (if ok then .tup [v, .b true] else v) T
   | some none => k (if ok then .tup [zero, .b false] else zero) T
   | none => False
  | _ => False
 | _, _ => False
theorem qo3 {m : MK} {ok : Bool} {zero kv v : AV} {id : Nat} {es : List (AV × AV)} {k : AV -> Tab -> Prop} {h : Hold k} (hT : T id = .mapo es) (h1 : q1l m kv = true) (h2 : qm3 m kv es = some (some v))
  (hk : k (if ok then .tup [v, .b true] else v) T) : z7s m ok zero (some (.mp id)) (some kv) T h := by
 unfold z7s; simp only [hT, h2]; exact ⟨h1, hk⟩
theorem z1i {m : MK} {ok : Bool} {zero kv : AV} {id : Nat} {es : List (AV × AV)} {k : AV -> Tab -> Prop} {h : Hold k} (hT : T id = .mapo es) (h1 : q1l m kv = true) (h2 : qm3 m kv es = some none)
  (hk : k (if ok then .tup [zero, .b false] else zero) T) : z7s m ok zero (some (.mp id)) (some kv) T h := by
 unfold z7s; simp only [hT, h2]; exact ⟨h1, hk⟩
theorem zc6 (m ok zero x y) : Y5 P ⟨d, .lku m ok zero x y, none, rc⟩ K e L T = z7s m ok zero (Z7 e x) (Z7 e y) T (Hold.mk (a := aft K e L d rc)) := rfl
def zc7 (m : MK) (x y z : Option AV) (T : Tab) {k : AV -> Tab -> Prop} (_ : Hold k) : Prop :=
 match x, y, z with
 | some (.mp id), some kv, some y => match T id with
  | .mapo es => q1l m kv = true /\ (qm3 m kv es).isSome = true /\ k (.tup []) (T.put id (.mapo (qno kv y es)))
  | _ => False
 | _, _, _ => False
theorem qy0 {m : MK} {kv y : AV} {id : Nat} {es : List (AV × AV)} {k : AV -> Tab -> Prop} {h : Hold k} (hT : T id = .mapo es) (h1 : q1l m kv = true) (h2 : (qm3 m kv es).isSome = true)
  (hk : k (.tup []) (T.put id (.mapo (qno kv y es)))) : zc7 m (some (.mp id)) (some kv) (some y) T h := by
 unfold zc7; simp only [hT]; exact ⟨h1, h2, hk⟩
theorem zc8 (m x y z) : Y5 P ⟨d, .mup m x y z, none, rc⟩ K e L T = zc7 m (Z7 e x) (Z7 e y) (Z7 e z) T (Hold.mk (a := aft K e L d rc)) := rfl
theorem z7t (z b zero x y) : Y5 P ⟨d, .mksl z b zero x y, none, rc⟩ K e L T = mkS z b zero (Z7 e x) (Z7 e y) T (Hold.mk (a := aft K e L d rc)) := rfl
theorem J1 {v : AV} {T' : Tab} (h : K (q06 e d v) L T') : aft K e L d [] v T' := fun _ => ⟨trivial, h⟩
theorem z3p (k : Nat) (want : Bool) {y n : Prop} (p : Hold y) (q : Hold n) : gst e k want p q = gdd e (some (k, want)) y n False := by
 unfold gst gdd
 simp only
 rcases q10 e k with _ | x
 ·rfl
 ·cases x with
  | b x => cases x <;> cases want <;> rfl
  | tup l => cases l <;> rfl
  | _ => rfl
theorem zez (o : SO) (k : Nat) (want : Bool) : Y5 P ⟨d, o, some (k, want), []⟩ K e L T = gst e k want (Hold.mk (a := Y5 P ⟨d, o, none, []⟩ K e L T)) (Hold.mk (a := K (q06 e d (.tup [])) L T)) := by
 rw [z3p]
 have hm0 : ∀ {α : Type} (f : α -> Prop) (y n z : α), f (gdd e (some (k, want)) y n z) = gdd e (some (k, want)) (f y) (f n) (f z) := fun f y n z => by
  unfold gdd
  simp only
  split <;> (try split) <;> rfl
 cases hk : o.kind with
 | val =>
  have e1 : ∀ gd, Y5 P ⟨d, o, gd, []⟩ K e L T = vst (qc7 o gd e L T) (Hold.mk (a := fun v => K (q06 e d v) L T)) := fun gd => by unfold Y5; simp only [hk]; rfl
  rw [e1, e1]
  exact hm0 (fun x => vst x (Hold.mk (a := fun v => K (q06 e d v) L T))) _ _ _
 | snil => unfold Y5; simp only [hk]; rfl
 | leff =>
  have e1 : ∀ gd, Y5 P ⟨d, o, gd, []⟩ K e L T = (fun x : Option (Env × Loc) => match x with | some (e, l) => K e l T | none => False) (gdd e gd (lev o d e L) (some (q06 e d (.tup []), L)) none) := fun gd => by unfold Y5; simp only [hk]; rfl
  rw [e1, e1]
  exact hm0 (fun x : Option (Env × Loc) => match x with | some (e, l) => K e l T | none => False) _ _ _
 | teff => unfold Y5; simp only [hk, I2, true_and]; rfl
theorem z7u (o : SO) (ho : o.kind = .teff) (k : Nat) (want : Bool) : Y5 P ⟨d, o, some (k, want), rc⟩ K e L T = gdd e (some (k, want)) (Y5 P ⟨d, o, none, rc⟩ K e L T) (I2 (q06 e d (.tup [])) L T rc /\ K (q06 e d (.tup [])) L T) False := by
 unfold Y5
 simp only [ho, gdd]
theorem Q1 {l c : SC} (hl : l = .loop c) (hR : ExtR R) (h : AW P c (qa5 (AW P l R) R) e L T) : AW P l R e L T := by
 subst hl; exact V1 hR h
theorem qo4 (x : AV) : q99 T [] x = x := by
 have h1 : ∀ y, qc6 T [] y = y := fun y => by cases y <;> simp [qc6]
 have : (qc6 T []) = id := funext h1
 cases x <;> simp [q99, h1, this]
theorem qdh (x : AV) : qm5 T [] x = x := by
 have : (q99 T []) = id := funext qo4
 cases x <;> simp [qm5, qo4, this]
theorem CallK.of {f : FuncId} {avs : List AV} {k : AV -> Tab -> Prop} {Q : AV -> Tab -> Prop} (h : ACalls P f avs T Q) (hk : ∀ v T', Q v T' -> k v T') : CallK P f avs T k := by
 have : (q99 T []) = id := funext qo4
 refine ⟨[], Q, List.nodup_nil, by simp, ?_, hk⟩
 rw [this, List.map_id]
 exact h
theorem CallK.pure {f : FuncId} {avs : List AV} {k : AV -> Tab -> Prop} {r : AV} (h : PCalls P f avs r) (hk : k r T) : CallK P f avs T k :=
 .of (h T) fun v T' h => by rw [h.1, h.2]; exact hk
theorem K6 (hm : P.follows .mixedOrders = true) {f : FuncId} {n : Nat} {sc : SC} {rs : List SO} (ht : FnTxt P f n sc rs) {args : List AV} {r : AV} (hl : args.length <= n)
  (h : ∀ T, AW P sc (z7b rs fun v T' => v = r /\ T' = T) (z3o 0 args) [] T) : PCalls P f args r := fun T => U7 hm ht hl (h T)
theorem Wk.refl (x : AV) : Wk x x := fun _ _ _ h => h
theorem Wk.trans {x y z : AV} (h : Wk x y) (k : Wk y z) : Wk x z := fun X w v hv => k X w v (h X w v hv)
theorem Wk.fz {n : Nat} {cells : List AV} {cap : Option Nat} : Wk (.fz n cells cap) (.fz n cells none) := fun X w v h => by
 simp only [vr] at h ⊢
 obtain ⟨us, h1, h2⟩ := h
 refine ⟨us, h1, ?_⟩
 rcases h2 with ⟨a, b, c, _⟩ | ⟨a, c, h3, h4, h5, _, h6⟩
 ·exact .inl ⟨a, b, c, fun k hk => by cases hk⟩
 ·exact .inr ⟨a, c, h3, h4, h5, (fun k hk => by cases hk), h6⟩
def Wks : List AV -> List AV -> Prop
 | [], [] => True
 | x :: l, y :: m => Wk x y /\ Wks l m
 | _, _ => False
theorem Wks.vrs {X : Cx} {w : World} : ∀ {l m : List AV}, Wks l m -> ∀ {us}, Aw.vrs X w l us -> Aw.vrs X w m us
 | [], [], _, us, h => h
 | x :: l, y :: m, h, us, hv => by
  simp only [Aw.vrs] at hv ⊢
  obtain ⟨u, us', rfl, h2, h3⟩ := hv
  exact ⟨u, us', rfl, h.1 _ _ _ h2, Wks.vrs h.2 h3⟩
 | [], _ :: _, h, _, _ => h.elim
 | _ :: _, [], h, _, _ => h.elim
theorem Wks.refl : ∀ l, Wks l l
 | [] => trivial
 | x :: l => ⟨.refl x, Wks.refl l⟩
theorem Wk.agg {l m : List AV} (h : Wks l m) : Wk (.agg l) (.agg m) := fun X w v hv => by
 simp only [vr] at hv ⊢
 obtain ⟨us, h1, h2⟩ := hv
 exact ⟨us, h.vrs h1, h2⟩
theorem Wk.tup {l m : List AV} (h : Wks l m) : Wk (.tup l) (.tup m) := fun X w v hv => by
 simp only [vr] at hv ⊢
 obtain ⟨us, h1, h2⟩ := hv
 exact ⟨us, h.vrs h1, h2⟩
theorem z4t (rs : List SO) (Q : AV -> Tab -> Prop) : z0s rs Q e L T = fin (qbr rs e L T) Q T := rfl
theorem z1j (l : List AV) (Q : AV -> Tab -> Prop) : fin (some l) Q T = qn5 (qo1 l) Q T := rfl
theorem qy1 (x : AV) : qo1 [x] = x := rfl
theorem qy2 : qo1 [] = .tup [] := rfl
theorem qy3 (x y : AV) (l : List AV) : qo1 (x :: y :: l) = .tup (x :: y :: l) := rfl
theorem J9 {r r' : AV} (hr : r' = r) : qn5 r' (fun v T' => v = r /\ T' = T) T :=
 ⟨[], T, r, List.nodup_nil, by simp, fun _ => .inr (.inl rfl), by rw [qdh, hr]; exact .refl r, rfl, rfl⟩
theorem Y3 {r : AV} {Q : AV -> Tab -> Prop} (T' : Tab) (hT : ∀ id, SlotLe (T' id) (T id)) (hQ : Q r T') : qn5 r Q T :=
 ⟨[], T', r, List.nodup_nil, by simp, hT, by rw [qdh]; exact .refl r, hQ⟩
theorem z4u (c : Operand) (a b : SC) : AW P (.cond c a b) R e L T = brO (Z7 e c) (Hold.mk (a := AW P a R e L T)) (Hold.mk (a := AW P b R e L T)) := rfl
theorem zc9 (k : Nat) (y n : Prop) (p : Hold y) (q : Hold n) : gst e k true p q = gsO (q10 e k) p q := rfl
theorem zca (k : Nat) (y n : Prop) (p : Hold y) (q : Hold n) : gst e k false p q = gsN (q10 e k) p q := rfl
end
theorem zf0 {x : Bool} : AV.plain (.b x) = true := rfl
theorem zcb {x : Bool} : AV.isLp (.b x) = false := rfl
theorem zcc {x : Bool} : AV.isOne (.b x) = true := rfl
theorem zcd {x : Bool} : AV.sto (.b x) = true := rfl
theorem zce {x : Bool} : AV.cells (.b x) = [(.b x)] := rfl
theorem zcf {x : Bool} (j : Nat) : AV.offLp j (.b x) = (.b x) := rfl
theorem zf1 {k : IntKind} {n : Int} : AV.plain (.i k n) = true := rfl
theorem zcg {k : IntKind} {n : Int} : AV.isLp (.i k n) = false := rfl
theorem zch {k : IntKind} {n : Int} : AV.isOne (.i k n) = true := rfl
theorem zci {k : IntKind} {n : Int} : AV.sto (.i k n) = true := rfl
theorem zcj {k : IntKind} {n : Int} : AV.cells (.i k n) = [(.i k n)] := rfl
theorem zck {k : IntKind} {n : Int} (j : Nat) : AV.offLp j (.i k n) = (.i k n) := rfl
theorem zf2 {l : List UInt8} : AV.plain (.s l) = true := rfl
theorem zcl {l : List UInt8} : AV.isLp (.s l) = false := rfl
theorem zcm {l : List UInt8} : AV.isOne (.s l) = true := rfl
theorem zcn {l : List UInt8} : AV.sto (.s l) = true := rfl
theorem zco {l : List UInt8} : AV.cells (.s l) = [(.s l)] := rfl
theorem zcp {l : List UInt8} (j : Nat) : AV.offLp j (.s l) = (.s l) := rfl
theorem zcq  : AV.plain .nilptr = true := rfl
theorem z7v  : AV.isLp .nilptr = false := rfl
theorem z7w  : AV.isOne .nilptr = true := rfl
theorem z7x  : AV.sto .nilptr = true := rfl
theorem z7y  : AV.cells .nilptr = [.nilptr] := rfl
theorem z7z  (j : Nat) : AV.offLp j .nilptr = .nilptr := rfl
theorem z80 {id o : Nat} : AV.plain (.ptr id o) = true := rfl
theorem z4v {id o : Nat} : AV.isLp (.ptr id o) = false := rfl
theorem z4w {id o : Nat} : AV.isOne (.ptr id o) = true := rfl
theorem z4x {id o : Nat} : AV.sto (.ptr id o) = true := rfl
theorem z4y {id o : Nat} : AV.cells (.ptr id o) = [(.ptr id o)] := rfl
theorem z4z {id o : Nat} (j : Nat) : AV.offLp j (.ptr id o) = (.ptr id o) := rfl
theorem zcr {c : List AV} : AV.plain (.fptr c) = true := rfl
theorem z81 {c : List AV} : AV.isLp (.fptr c) = false := rfl
theorem z82 {c : List AV} : AV.isOne (.fptr c) = true := rfl
theorem z83 {c : List AV} : AV.sto (.fptr c) = true := rfl
theorem z84 {c : List AV} : AV.cells (.fptr c) = [(.fptr c)] := rfl
theorem z85 {c : List AV} (j : Nat) : AV.offLp j (.fptr c) = (.fptr c) := rfl
theorem zcs {n : Nat} {c : List AV} {k : Option Nat} : AV.plain (.fz n c k) = true := rfl
theorem z86 {n : Nat} {c : List AV} {k : Option Nat} : AV.isLp (.fz n c k) = false := rfl
theorem z87 {n : Nat} {c : List AV} {k : Option Nat} : AV.isOne (.fz n c k) = true := rfl
theorem z88 {n : Nat} {c : List AV} {k : Option Nat} : AV.sto (.fz n c k) = true := rfl
theorem z89 {n : Nat} {c : List AV} {k : Option Nat} : AV.cells (.fz n c k) = [(.fz n c k)] := rfl
theorem z8a {n : Nat} {c : List AV} {k : Option Nat} (j : Nat) : AV.offLp j (.fz n c k) = (.fz n c k) := rfl
theorem zct {id o n : Nat} {k : Option Nat} : AV.plain (.sl id o n k) = true := rfl
theorem z8b {id o n : Nat} {k : Option Nat} : AV.isLp (.sl id o n k) = false := rfl
theorem z8c {id o n : Nat} {k : Option Nat} : AV.isOne (.sl id o n k) = true := rfl
theorem z8d {id o n : Nat} {k : Option Nat} : AV.sto (.sl id o n k) = true := rfl
theorem z8e {id o n : Nat} {k : Option Nat} : AV.cells (.sl id o n k) = [(.sl id o n k)] := rfl
theorem z8f {id o n : Nat} {k : Option Nat} (j : Nat) : AV.offLp j (.sl id o n k) = (.sl id o n k) := rfl
theorem zcu  : AV.plain .nilmap = true := rfl
theorem z8g  : AV.isLp .nilmap = false := rfl
theorem z8h  : AV.isOne .nilmap = true := rfl
theorem z8i  : AV.sto .nilmap = true := rfl
theorem z8j  : AV.cells .nilmap = [.nilmap] := rfl
theorem z8k  (j : Nat) : AV.offLp j .nilmap = .nilmap := rfl
theorem zcv {id : Nat} : AV.plain (.mp id) = true := rfl
theorem z8l {id : Nat} : AV.isLp (.mp id) = false := rfl
theorem z8m {id : Nat} : AV.isOne (.mp id) = true := rfl
theorem z8n {id : Nat} : AV.sto (.mp id) = true := rfl
theorem z8o {id : Nat} : AV.cells (.mp id) = [(.mp id)] := rfl
theorem z8p {id : Nat} (j : Nat) : AV.offLp j (.mp id) = (.mp id) := rfl
theorem zcw {f : Fn} {a b : List AV} : AV.plain (.fn f a b) = true := rfl
theorem z8q {f : Fn} {a b : List AV} : AV.isLp (.fn f a b) = false := rfl
theorem z8r {f : Fn} {a b : List AV} : AV.isOne (.fn f a b) = true := rfl
theorem z8s {f : Fn} {a b : List AV} : AV.sto (.fn f a b) = true := rfl
theorem z8t {f : Fn} {a b : List AV} : AV.cells (.fn f a b) = [(.fn f a b)] := rfl
theorem z8u {f : Fn} {a b : List AV} (j : Nat) : AV.offLp j (.fn f a b) = (.fn f a b) := rfl
theorem zcx  : AV.plain .nilfn = true := rfl
theorem z8v  : AV.isLp .nilfn = false := rfl
theorem z8w  : AV.isOne .nilfn = true := rfl
theorem z8x  : AV.sto .nilfn = true := rfl
theorem z8y  : AV.cells .nilfn = [.nilfn] := rfl
theorem z8z  (j : Nat) : AV.offLp j .nilfn = .nilfn := rfl
theorem zcy {t : TypeId} {x : AV} : AV.plain (.ifc t x) = true := rfl
theorem z90 {t : TypeId} {x : AV} : AV.isLp (.ifc t x) = false := rfl
theorem z91 {t : TypeId} {x : AV} : AV.isOne (.ifc t x) = true := rfl
theorem z92 {t : TypeId} {x : AV} : AV.sto (.ifc t x) = true := rfl
theorem z93 {t : TypeId} {x : AV} : AV.cells (.ifc t x) = [(.ifc t x)] := rfl
theorem z94 {t : TypeId} {x : AV} (j : Nat) : AV.offLp j (.ifc t x) = (.ifc t x) := rfl
theorem zcz  : AV.plain .nilifc = true := rfl
theorem z95  : AV.isLp .nilifc = false := rfl
theorem z96  : AV.isOne .nilifc = true := rfl
theorem z97  : AV.sto .nilifc = true := rfl
theorem z98  : AV.cells .nilifc = [.nilifc] := rfl
theorem z99  (j : Nat) : AV.offLp j .nilifc = .nilifc := rfl
theorem zd0 {l : List AV} : AV.plain (.agg l) = true := rfl
theorem z9a {l : List AV} : AV.isLp (.agg l) = false := rfl
theorem z9b {l : List AV} : AV.isOne (.agg l) = false := rfl
theorem z9c {l : List AV} : AV.sto (.agg l) = true := rfl
theorem z9d {l : List AV} : AV.cells (.agg l) = l := rfl
theorem z9e {l : List AV} (j : Nat) : AV.offLp j (.agg l) = (.agg l) := rfl
theorem zd1 {l : List AV} : AV.plain (.tup l) = true := rfl
theorem z9f {l : List AV} : AV.isLp (.tup l) = false := rfl
theorem z9g {l : List AV} : AV.isOne (.tup l) = false := rfl
theorem z9h {l : List AV} : AV.sto (.tup l) = false := rfl
theorem z9i {l : List AV} : AV.cells (.tup l) = [(.tup l)] := rfl
theorem z9j {l : List AV} (j : Nat) : AV.offLp j (.tup l) = (.tup l) := rfl
theorem zd2 {l o : Nat} : AV.plain (.lp l o) = false := rfl
theorem z9k {l o : Nat} : AV.isLp (.lp l o) = true := rfl
theorem z9l {l o : Nat} : AV.isOne (.lp l o) = false := rfl
theorem z9m {l o : Nat} : AV.sto (.lp l o) = false := rfl
theorem z9n {l o : Nat} : AV.cells (.lp l o) = [(.lp l o)] := rfl
theorem z9o {l o : Nat} (j : Nat) : AV.offLp j (.lp l o) = if l = j then .any else .lp l o := rfl
theorem zd3 {v : Value} : AV.plain (.raw v) = true := rfl
theorem z9p {v : Value} : AV.isLp (.raw v) = false := rfl
theorem z9q {v : Value} : AV.isOne (.raw v) = true := rfl
theorem z9r {v : Value} : AV.sto (.raw v) = true := rfl
theorem z9s {v : Value} : AV.cells (.raw v) = [(.raw v)] := rfl
theorem z9t {v : Value} (j : Nat) : AV.offLp j (.raw v) = (.raw v) := rfl
attribute [irreducible] gzS vst br brO gsO gsN vs2 snl zbz zb7 hbS stS apS clS CallK aft
attribute [go_sem ↓] z7f z4m z7c z7d z4u z17 z4n z7e z4o qpq qvl qxs qrr qxt z18 qrs z19 z1a qxu zet z7h zbi zeu z7i zev zbj zbk zbl zbm zbn z7j zbo z7k z7l zbp z7m z7n z7o zbs zbt z7t zc2 zc3 zc4 zc5 zc6 zc8 qxz zbq zbr zbu z4q zbv zbw zew zbx z7p zby z1e z7q z4r z1f z7r zex zc0 zez zc9 zca z4t zc1
attribute [go_sem] qxv qxw z1b z3o q10 q96 qce q1u Z7 opd qiv q8f q5f cav qph qrd qp9 qdb qpa z71 qm1 qmx qjr qjs qv4 qv6 qv7 qv5 qiu qx1 qh3 q97 qbq z72 qrg q4k qms q07 qrh qjt qmt bnd Z4 q7v qpg z7g Option.bind_some Option.bind_none Option.map_some Option.map_none List.getElem?_cons_zero List.getElem?_cons_succ List.getElem?_nil List.drop_zero List.drop_succ_cons List.take_zero List.take_succ_cons List.drop_nil List.take_nil List.length_cons List.length_nil List.set_cons_zero List.set_cons_succ List.append_nil List.nil_append List.cons_append if_true if_false ite_true ite_false and_true true_and and_self Bool.not_true Bool.not_false Bool.false_eq_true decide_true decide_false z1j qy1 qy3 qy2 qbr vev pev z4p z1c Nat.zero_mul Nat.sub_zero Nat.mul_one Nat.zero_add Nat.add_zero zbd zbe zbf zbg zbh z1d qxy z1g z1h zf0 zcb zcc zcd zce zcf zf1 zcg zch zci zcj zck zf2 zcl zcm zcn zco zcp zcq z7v z7w z7x z7y z7z z80 z4v z4w z4x z4y z4z zcr z81 z82 z83 z84 z85 zcs z86 z87 z88 z89 z8a zct z8b z8c z8d z8e z8f zcu z8g z8h z8i z8j z8k zcv z8l z8m z8n z8o z8p zcw z8q z8r z8s z8t z8u zcx z8v z8w z8x z8y z8z zcy z90 z91 z92 z93 z94 zcz z95 z96 z97 z98 z99 zd0 z9a z9b z9c z9d z9e zd1 z9f z9g z9h z9i z9j zd2 z9k z9l z9m z9n z9o zd3 z9p z9q z9r z9s z9t
end Go.Aw
namespace Go.Aw
open Go
set_option linter.all false
variable [Glob]
def qdp (l : List Int) : List AV := l.map (.i .i64)
def qa7 (l : List Bool) : List AV := l.map .b
theorem qo5 (l : List Int) (k : Nat) : ((qdp l).drop k)[0]? = (l[k]?).map (.i .i64) := by simp [qdp]
theorem qub (l : List Bool) (k : Nat) : ((qa7 l).drop k)[0]? = (l[k]?).map .b := by simp [qa7]
theorem qy4 (l : List Int) (k : Nat) : (qdp l).take k = qdp (l.take k) := by simp [qdp, List.map_take]
theorem qrt (l m : List Int) : qdp l ++ qdp m = qdp (l ++ m) := by simp [qdp]
theorem qpr (l m : List Bool) : qa7 l ++ qa7 m = qa7 (l ++ m) := by simp [qa7]
def I64 (n : Int) : Prop := -9223372036854775808 <= n /\ n <= 9223372036854775807
instance (n : Int) : Decidable (I64 n) := inferInstanceAs (Decidable (_ /\ _))
theorem q0c {n : Int} (h : I64 n) : IntKind.i64.wrap n = n := IntWalk.i64_in n h
def Len (n : Nat) : Prop := n < 9223372036854775808
theorem O8 {k : Nat} (h : k < 9223372036854775807) : IntKind.i64.wrap ((k : Int) + 1) = ((k + 1 : Nat) : Int) := by
 rw [q0c (by unfold I64; omega)]; simp
end Go.Aw
namespace Go.Aw
open Go
set_option linter.all false
variable [Glob]
def Own (T : Tab) (z : Nat) (v : AV) (n : Nat) (xs : List AV) (T' : Tab) : Prop :=
 xs.length = n * z /\ ((v = .fz 0 [] (some 0) /\ n = 0 /\ T' = T) \/ ∃ id, v = .sl id 0 n none /\ T id = .unused /\ T' = T.put id (.row z xs))
theorem Tab.put_put (T : Tab) (id : Nat) (a b : Slot) : (T.put id a).put id b = T.put id b := by
 funext j; simp only [Tab.put]; split <;> rfl
theorem Tab.put_comm (T : Tab) {id id' : Nat} (h : id ≠ id') (a b : Slot) : (T.put id a).put id' b = (T.put id' b).put id a := by
 funext j; simp only [Tab.put]; split
 ·rename_i e; subst e; rw [if_neg (Ne.symm h)]
 ·rfl
theorem Tab.put_self {T : Tab} {id : Nat} {a : Slot} (h : T id = a) : T.put id a = T := by
 funext j; simp only [Tab.put]; split
 ·rename_i e; subst e; exact h.symm
 ·rfl
theorem Tab.unused_put {T : Tab} {id j z : Nat} {c : List AV} (h : T.put id (.row z c) j = .unused) : j ≠ id /\ T j = .unused := by
 simp only [Tab.put] at h
 split at h
 ·cases h
 ·rename_i e; exact ⟨e, h⟩
theorem Own.nil (T : Tab) (z : Nat) : Own T z (.fz 0 [] (some 0)) 0 [] T := ⟨by simp, .inl ⟨rfl, rfl, rfl⟩⟩
theorem qk8 {T : Tab} {z : Nat} {y : AV} {news : List AV} (h : Z4 T z y = some news) : news.length = q0a y * z := by
 cases y <;> simp only [Z4] at h <;> first
  | (cases h; done)
  | skip
 ·split at h
  ·rename_i e; subst e; injection h with h; subst h; simp [q0a]
  ·cases h
 ·split at h
  ·injection h with h; subst h; assumption
  ·cases h
 ·split at h
  ·split at h
   ·rename_i hle; injection h with h; subst h; rw [List.length_take, List.length_drop]; simp only [q0a]; omega
   ·cases h
  ·cases h
theorem Own.app {T T1 : Tab} {z b n m : Nat} {v y : AV} {xs news : List AV} {K : AV -> Tab -> Prop} (h : Own T z v n xs T1) (hy : Z4 T1 z y = some news) (hm : q0a y = m)
  (h1 : (n + m) * b <= 140737488355328) (h2 : n + m <= 9223372036854775807) (hk : ∀ v' T2, Own T z v' (n + m) (xs ++ news) T2 -> K v' T2) : q1k z b T1 v y K := by
 have hlen := qk8 hy
 rw [hm] at hlen
 obtain ⟨hx, h⟩ := h
 have hsum : (xs ++ news).length = (n + m) * z := by rw [List.length_append, hx, hlen, Nat.add_mul]
 unfold q1k
 rw [hy]
 simp only
 rcases h with ⟨rfl, rfl, rfl⟩ | ⟨id, rfl, hid, rfl⟩
 ·have : xs = [] := by simpa using hx
  subst this
  simp only [hm]
  split
  ·rename_i e
   subst e
   have : news = [] := by simpa using hlen
   subst this
   exact hk _ _ ⟨by simp, .inl ⟨rfl, rfl, rfl⟩⟩
  ·refine ⟨by simp, by omega, h1, h2, fun id hid => ?_⟩
   exact hk _ _ ⟨hsum, .inr ⟨id, by simp, hid, rfl⟩⟩
 ·simp only [Tab.put_same, hm, true_and]
  rw [if_pos (by omega)]
  refine ⟨h1, h2, fun id' hid' => ?_⟩
  obtain ⟨_, hid'⟩ := Tab.unused_put hid'
  rw [Tab.put_put, Tab.put_self hid, List.drop_zero]
  exact hk _ _ ⟨hsum, .inr ⟨id', rfl, hid', rfl⟩⟩
theorem Own.form {T T1 : Tab} {z n : Nat} {v : AV} {xs : List AV} (h : Own T z v n xs T1) : v.plain = true /\ v.isOne = true /\ v.sto = true /\ v.cells = [v] /\ v.isLp = false /\ ∀ k, v.offLp k = v := by
 rcases h.2 with ⟨rfl, _⟩ | ⟨id, rfl, _⟩ <;> exact ⟨rfl, rfl, rfl, rfl, rfl, fun _ => rfl⟩
section
variable {T : Tab} {S : List Nat}
theorem qbs {k : IntKind} {n : Int} : qc6 T S (.i k n) = .i k n := rfl
theorem qch {x : Bool} : qc6 T S (.b x) = .b x := rfl
theorem quc {l : List UInt8} : qc6 T S (.s l) = .s l := rfl
theorem qha {n : Nat} {c : List AV} {k : Option Nat} : qc6 T S (.fz n c k) = .fz n c k := rfl
theorem qy5 : qc6 T S .nilifc = .nilifc := rfl
theorem qy6 {t : TypeId} {x : AV} : qc6 T S (.ifc t x) = .ifc t x := rfl
theorem qy7 {c : List AV} : qc6 T S (.fptr c) = .fptr c := rfl
end
structure Ow where
 z : Nat
 v : AV
 n : Nat
 xs : List AV
def Owns (T : Tab) : List Ow -> Tab -> Prop
 | [], T' => T' = T
 | a :: l, T' => ∃ T1, Owns T l T1 /\ Own T1 a.z a.v a.n a.xs T'
theorem Owns.swap {T T' : Tab} {a b : Ow} {l : List Ow} (h : Owns T (a :: b :: l) T') : Owns T (b :: a :: l) T' := by
 obtain ⟨T2, ⟨T1, h1, hb, hb'⟩, ha, ha'⟩ := h
 rcases hb' with ⟨e1, e2, rfl⟩ | ⟨id, e1, e2, rfl⟩ <;> rcases ha' with ⟨e3, e4, rfl⟩ | ⟨id', e3, e4, rfl⟩
 ·exact ⟨_, ⟨_, h1, ha, .inl ⟨e3, e4, rfl⟩⟩, hb, .inl ⟨e1, e2, rfl⟩⟩
 ·exact ⟨_, ⟨_, h1, ha, .inr ⟨id', e3, e4, rfl⟩⟩, hb, .inl ⟨e1, e2, rfl⟩⟩
 ·exact ⟨_, ⟨_, h1, ha, .inl ⟨e3, e4, rfl⟩⟩, hb, .inr ⟨id, e1, e2, rfl⟩⟩
 ·obtain ⟨hne, hu⟩ := Tab.unused_put e4
  refine ⟨_, ⟨_, h1, ha, .inr ⟨id', e3, hu, rfl⟩⟩, hb, .inr ⟨id, e1, ?_, ?_⟩⟩
  ·rw [Tab.put_ne _ _ (Ne.symm hne)]; exact e2
  ·exact Tab.put_comm _ (Ne.symm hne) _ _
theorem Owns.bring {T T' : Tab} {a : Ow} : ∀ {l m : List Ow}, Owns T (l ++ a :: m) T' -> Owns T (a :: (l ++ m)) T'
 | [], _, h => h
 | b :: l, m, h => by
  obtain ⟨T1, h1, h2⟩ := h
  exact Owns.swap ⟨T1, Owns.bring h1, h2⟩
theorem Owns.app {T T1 : Tab} {a : Ow} {l : List Ow} {b m : Nat} {y : AV} {news : List AV} {K : AV -> Tab -> Prop} (h : Owns T (a :: l) T1) (hy : Z4 T1 a.z y = some news) (hm : q0a y = m)
  (h1 : (a.n + m) * b <= 140737488355328) (h2 : a.n + m <= 9223372036854775807) (hk : ∀ v' T2, Owns T (⟨a.z, v', a.n + m, a.xs ++ news⟩ :: l) T2 -> K v' T2) : q1k a.z b T1 a.v y K := by
 obtain ⟨T0, h0, ho⟩ := h
 exact ho.app hy hm h1 h2 fun v' T2 h' => hk v' T2 ⟨T0, h0, h'⟩
theorem Owns.form {T : Tab} {a : Ow} : ∀ {l : List Ow} {T1 : Tab}, Owns T l T1 -> a ∈ l -> a.v.plain = true /\ a.v.isOne = true /\ a.v.sto = true /\ a.v.cells = [a.v] /\ a.v.isLp = false /\ ∀ k, a.v.offLp k = a.v
 | b :: l, T1, ⟨T0, h0, ho⟩, hm => by
  rcases List.mem_cons.1 hm with rfl | hm
  ·exact ho.form
  ·exact Owns.form h0 hm
theorem Owns.one {T T' : Tab} {z n : Nat} {v : AV} {xs : List AV} (h : Own T z v n xs T') : Owns T [⟨z, v, n, xs⟩] T' := ⟨T, rfl, h⟩
theorem Owns.fin {T : Tab} : ∀ {l : List Ow} {T' : Tab}, Owns T l T' -> ∃ S, S.Nodup /\ (∀ id ∈ S, T' id ≠ .unused /\ T id = .unused) /\ qfo T' S = T /\ ∀ a ∈ l, ∃ cap, qc6 T' S a.v = .fz a.n a.xs cap
 | [], T', h => ⟨[], List.nodup_nil, by simp, h, by simp⟩
 | a :: l, T', h => by
  obtain ⟨T1, h1, hx, h2⟩ := h
  obtain ⟨S, k1, k2, k3, k4⟩ := Owns.fin h1
  rcases h2 with ⟨e1, e2, rfl⟩ | ⟨id, e1, e2, rfl⟩
  ·refine ⟨S, k1, k2, k3, fun b hb => ?_⟩
   rcases List.mem_cons.1 hb with rfl | hb
   ·have : b.xs = [] := by rw [e2] at hx; simpa using hx
    rw [e1, e2, this]; exact ⟨some 0, rfl⟩
   ·exact k4 b hb
  ·have hid : id ∉ S := fun e => (k2 id e).1 e2
   have hkill : ∀ (S' : List Nat) (T2 : Tab), id ∉ S' -> qfo (T2.put id (.row a.z a.xs)) S' = (qfo T2 S').put id (.row a.z a.xs) := by
    intro S'
    induction S' with
    | nil => intro T2 _; rfl
    | cons j S' ih =>
     intro T2 hj
     simp only [List.mem_cons, not_or] at hj
     simp only [qfo]
     rw [ih T2 hj.2, Tab.put_comm _ hj.1]
   have hTid : T id = .unused := by
    rw [<- k3, qei hid]; exact e2
   refine ⟨id :: S, List.nodup_cons.2 ⟨hid, k1⟩, fun j hj => ?_, ?_, fun b hb => ?_⟩
   ·rcases List.mem_cons.1 hj with rfl | hj
    ·exact ⟨by rw [Tab.put_same]; simp, hTid⟩
    ·refine ⟨?_, (k2 j hj).2⟩
     rw [Tab.put_ne _ _ (fun e => hid (by rw [<- e]; exact hj))]; exact (k2 j hj).1
   ·simp only [qfo]
    rw [hkill S T1 hid, Tab.put_put, k3, Tab.put_self hTid]
   ·rcases List.mem_cons.1 hb with rfl | hb
    ·refine ⟨none, ?_⟩
     rw [e1]
     simp only [qc6, List.mem_cons, true_or, if_true, Tab.put_same, Nat.zero_add, List.drop_zero]
     rw [if_pos (by omega), List.take_of_length_le (by omega)]
    ·obtain ⟨cap, hc⟩ := k4 b hb
     refine ⟨cap, ?_⟩
     rw [<- hc]
     cases hv : b.v with
     | sl id' o n cap' =>
      have hne : id' ≠ id := by
       rintro rfl
       rw [hv] at hc
       simp only [qc6] at hc
       rw [if_neg hid] at hc
       cases hc
      simp only [qc6, List.mem_cons, hne, false_or, Tab.put_ne _ _ hne]
     | ptr id' o => rw [hv] at hc; simp only [qc6] at hc; split at hc <;> (try split at hc) <;> cases hc
     | _ => rfl
theorem q33 {T T' : Tab} {l : List Ow} {r r' : AV} (h : Owns T l T') (hr : ∀ S, (∀ a ∈ l, ∃ cap, qc6 T' S a.v = .fz a.n a.xs cap) -> Wk (qm5 T' S r) r') : qn5 r (fun v T'' => v = r' /\ T'' = T) T' := by
 obtain ⟨S, k1, k2, k3, k4⟩ := h.fin
 unfold qn5
 exact ⟨S, T, r', k1, fun id hid => (k2 id hid).1, fun id => .inr (.inl (by rw [k3])), hr S k4, rfl, rfl⟩
end Go.Aw
namespace Go.Aw
open Go
variable [Glob]
set_option linter.all false
theorem Y6 {α : Type} {xs ys : List α} {y : α} {k : Nat} (hk : xs.drop k = y :: ys) : k < xs.length /\ xs[k]? = some y /\ xs.drop (k + 1) = ys := by
 refine ⟨?_, ?_, by rw [<- List.drop_drop, hk]; rfl⟩
 ·have : (xs.drop k).length = ys.length + 1 := by rw [hk]; rfl
  rw [List.length_drop] at this; omega
 ·have : (xs.drop k)[0]? = some y := by rw [hk]; rfl
  simpa using this
theorem V6 {α : Type} {xs : List α} {k : Nat} (hk : xs.drop k = []) (hle : k <= xs.length) : xs.length = k := by have := List.drop_eq_nil_iff.1 hk; omega
theorem q1v {α : Type} {xs : List α} {k : Nat} {y : α} (h : xs[k]? = some y) : xs.take (k + 1) = xs.take k ++ [y] := by
 rw [List.take_add_one, h]; rfl
theorem Own.fin {T T' : Tab} {z n : Nat} {v : AV} {xs : List AV} {Q : AV -> Tab -> Prop} (h : Own T z v n xs T') (hQ : ∀ v T', Own T z v n xs T' -> Q v T') : qn5 v Q T' :=
 Y3 T' (fun _ => .inr (.inl rfl)) (hQ v T' h)
theorem CallK.as {P : Program} {f : FuncId} {avs : List AV} {T T1 : Tab} {k : AV -> Tab -> Prop} {r : AV} (h : ACalls P f avs T (fun v T' => v = r /\ T' = T1)) (hk : k r T1) : CallK P f avs T k :=
 .of h fun v T' h => by rw [h.1, h.2]; exact hk
theorem q82 {T T1 : Tab} {r r' : AV} (h : Wk r r') (hT : T = T1) : qn5 r (fun v T' => v = r' /\ T' = T1) T := by
 subst hT
 exact ⟨[], T, r', List.nodup_nil, by simp, fun _ => .inr (.inl rfl), by rw [qdh]; exact h, rfl, rfl⟩
theorem Q2 {P : Program} {d : Option Nat} {f : FuncId} {args : List Operand} {k : Nat} {want : Bool} {rc : RC} {K : Env -> Loc -> Tab -> Prop} {e : Env} {L : Loc} {T : Tab} : Y5 P ⟨d, .call f args, some (k, want), rc⟩ K e L T =
  gst e k want (Hold.mk (a := Y5 P ⟨d, .call f args, none, rc⟩ K e L T)) (Hold.mk (a := I2 (q06 e d (.tup [])) L T rc /\ K (q06 e d (.tup [])) L T)) := by
 rw [z7u _ rfl, z3p]
theorem Owns.base_get {T : Tab} {id : Nat} (hid : T id ≠ .unused) : ∀ {l : List Ow} {T' : Tab}, Owns T l T' -> T' id = T id
 | [], T', h => by rw [show T' = T from h]
 | a :: l, T', ⟨T1, h1, hx, h2⟩ => by
  have ih := Owns.base_get hid h1
  rcases h2 with ⟨_, _, rfl⟩ | ⟨j, _, hj, rfl⟩
  ·exact ih
  ·have hne : id ≠ j := fun e => by subst e; rw [ih] at hj; exact hid hj
   rw [Tab.put_ne _ _ hne]; exact ih
theorem Owns.base_put {T : Tab} {id : Nat} {s : Slot} (hid : T id ≠ .unused) : ∀ {l : List Ow} {T' : Tab}, Owns T l T' -> Owns (T.put id s) l (T'.put id s)
 | [], T', h => by rw [show T' = T from h]; rfl
 | a :: l, T', ⟨T1, h1, hx, h2⟩ => by
  have ih := Owns.base_put (s := s) hid h1
  have hg := Owns.base_get hid h1
  rcases h2 with ⟨e1, e2, rfl⟩ | ⟨j, e1, hj, rfl⟩
  ·exact ⟨_, ih, hx, .inl ⟨e1, e2, rfl⟩⟩
  ·have hne : j ≠ id := fun e => by subst e; rw [hg] at hj; exact hid hj
   refine ⟨_, ih, hx, .inr ⟨j, e1, by rw [Tab.put_ne _ _ hne]; exact hj, ?_⟩⟩
   exact (Tab.put_comm _ hne _ _)
theorem Owns.le {T : Tab} : ∀ {l : List Ow} {T' : Tab}, Owns T l T' -> ∀ j, SlotLe (T j) (T' j)
 | [], T', h, j => by rw [show T' = T from h]; exact .inr (.inl rfl)
 | a :: l, T', ⟨T1, h1, hx, h2⟩, j => by
  have ih := Owns.le h1 j
  rcases h2 with ⟨_, _, rfl⟩ | ⟨i, _, hi, rfl⟩
  ·exact ih
  ·by_cases e : j = i
   ·subst e
    rw [hi] at ih
    rcases ih with h | h | ⟨_, _, _, h, _⟩
    ·exact .inl h
    ·exact .inl h
    ·cases h
   ·rw [Tab.put_ne _ _ e]; exact ih
theorem Owns.get {T : Tab} {a : Ow} : ∀ {l : List Ow} {T' : Tab}, Owns T l T' -> a ∈ l -> 0 < a.n -> ∃ id, a.v = .sl id 0 a.n none /\ T' id = .row a.z a.xs /\ T id = .unused
 | b :: l, T', ⟨T1, h1, hx, h2⟩, hm, hn => by
  rcases List.mem_cons.1 hm with rfl | hm
  ·rcases h2 with ⟨_, e, _⟩ | ⟨i, e1, hi, rfl⟩
   ·omega
   ·refine ⟨i, e1, Tab.put_same .., ?_⟩
    have hle := h1.le i
    rw [hi] at hle
    rcases hle with h | h | ⟨_, _, _, h, _⟩
    ·exact h
    ·exact h
    ·cases h
  ·obtain ⟨id, e1, e2, e3⟩ := Owns.get h1 hm hn
   rcases h2 with ⟨_, _, rfl⟩ | ⟨i, _, hi, rfl⟩
   ·exact ⟨id, e1, e2, e3⟩
   ·refine ⟨id, e1, ?_, e3⟩
    have hne : id ≠ i := fun e => by subst e; rw [hi] at e2; cases e2
    rw [Tab.put_ne _ _ hne]; exact e2
theorem SlotLe.refl (s : Slot) : SlotLe s s := .inr (.inl rfl)
theorem Q5 {α : Type} {f : α -> List AV} {z : Nat} (hf : ∀ x, (f x).length = z) (l : List α) : (l.flatMap f).length = l.length * z := by
 induction l with
 | nil => simp
 | cons c l ih => simp only [List.flatMap_cons, List.length_append, List.length_cons, ih, hf, Nat.add_mul]; omega
theorem q08 {α : Type} {f : α -> List AV} {z : Nat} (hf : ∀ x, (f x).length = z) {l : List α} {k : Nat} {x : α} (h : l[k]? = some x) : (l.flatMap f).drop (k * z) = f x ++ (l.drop (k + 1)).flatMap f := by
 induction l generalizing k with
 | nil => simp at h
 | cons a l ih =>
  cases k with
  | zero => simp at h; subst h; simp
  | succ k =>
   have := ih (k := k) (by simpa using h)
   rw [List.flatMap_cons, List.drop_succ_cons, <- this, show (k + 1) * z = (f a).length + k * z by rw [hf, Nat.add_mul]; omega, List.drop_length_add_append]
theorem Own.fzn {T T' : Tab} {z n : Nat} {v : AV} {xs : List AV} (h : Own T z v n xs T') : qn5 v (fun x T'' => x = .fz n xs none /\ T'' = T) T' := by
 have h' := h
 refine q33 (Owns.one h) fun S hS => ?_
 obtain ⟨c, e⟩ := hS _ (List.mem_cons_self ..)
 simp only at e
 rcases h'.2 with ⟨rfl, _⟩ | ⟨id, rfl, _⟩ <;>
 ·simp only [qm5, q99, e]
  exact Wk.fz
def qn8 : AV -> Bool
 | .b _ | .i _ _ | .s _ | .nilptr | .fz _ _ _ | .nilmap | .nilfn | .nilifc => true
 | .agg l => l.all fun x => match x with
  | .b _ | .i _ _ | .s _ | .nilptr | .fz _ _ _ | .nilmap | .nilfn | .nilifc => true
  | _ => false
 | _ => false
theorem z1k {T : Tab} {S : List Nat} {x : AV} (h : qn8 x = true) : q99 T S x = x := by
 cases x <;> simp only [qn8] at h <;> first
  | (cases h; done)
  | rfl
  | skip
 rename_i l
 have : l.map (qc6 T S) = l := by
  induction l with
  | nil => rfl
  | cons a l ih =>
   simp only [List.all_cons, Bool.and_eq_true] at h
   rw [List.map_cons, ih h.2]
   congr 1
   cases a <;> first | rfl | (simp at h; done)
 simp only [q99, this]
theorem qk9 {T : Tab} {S : List Nat} : ∀ {l : List AV}, l.all qn8 = true -> l.map (q99 T S) = l
 | [], _ => rfl
 | a :: l, h => by
  simp only [List.all_cons, Bool.and_eq_true] at h
  rw [List.map_cons, z1k h.1, qk9 h.2]
theorem CallK.give {P : Program} {f : FuncId} {T T' : Tab} {z n : Nat} {v : AV} {xs : List AV} {pre post : List AV} {R k : AV -> Tab -> Prop} (h : Own T z v n xs T') (h1 : pre.all qn8 = true) (h2 : post.all qn8 = true)
  (hc : ∀ q, ACalls P f (pre ++ .fz n xs q :: post) T R) (hk : ∀ v T', R v T' -> k v T') : CallK P f (pre ++ v :: post) T' k := by
 obtain ⟨hx, h⟩ := h
 rcases h with ⟨rfl, rfl, rfl⟩ | ⟨id, rfl, hid, rfl⟩
 ·have : xs = [] := by simpa using hx
  subst this
  exact .of (hc (some 0)) hk
 ·unfold CallK; refine ⟨[id], R, by simp, by simp [Tab.put_same], ?_, hk⟩
  have e : ((pre ++ AV.sl id 0 n none :: post).map (q99 (T.put id (.row z xs)) [id])) = pre ++ .fz n xs none :: post := by
   rw [List.map_append, List.map_cons, qk9 h1, qk9 h2]
   simp only [q99, qc6, List.mem_singleton, if_true, Tab.put_same, Nat.zero_add, List.drop_zero]
   rw [if_pos (by omega), List.take_of_length_le (by omega)]
  rw [e]
  have : qfo (T.put id (.row z xs)) [id] = T := by
   simp only [qfo]; rw [Tab.put_put, Tab.put_self hid]
  rw [this]
  exact hc none
theorem CallK.give0 {P : Program} {f : FuncId} {T T' : Tab} {z n : Nat} {v : AV} {xs : List AV} {post : List AV} {R k : AV -> Tab -> Prop} (h : Own T z v n xs T') (h2 : post.all qn8 = true)
  (hc : ∀ q, ACalls P f (.fz n xs q :: post) T R) (hk : ∀ v T', R v T' -> k v T') : CallK P f (v :: post) T' k := CallK.give (pre := []) h rfl h2 hc hk
theorem z1l {T : Tab} {z b n m : Nat} {cells news : List AV} {y : AV} {K : AV -> Tab -> Prop} (hy : Z4 T z y = some news) (hm : q0a y = m) (h0 : 0 < m) (hn : cells.length = n * z)
  (h1 : (n + m) * b <= 140737488355328) (h2 : n + m <= 9223372036854775807) (hk : ∀ v T2, Own T z v (n + m) (cells ++ news) T2 -> K v T2) : q1k z b T (.fz n cells (some n)) y K := by
 have hlen := qk8 hy
 rw [hm] at hlen
 unfold q1k
 rw [hy]
 simp only [hm]
 rw [if_neg (by omega)]
 refine ⟨hn, by omega, h1, h2, fun id hid => hk _ _ ⟨?_, .inr ⟨id, rfl, hid, rfl⟩⟩⟩
 rw [List.length_append, hn, hlen, Nat.add_mul]
def Gr (T : Tab) (z : Nat) (v : AV) (n : Nat) (xs : List AV) (T' : Tab) : Prop := Own T z v n xs T' \/ (v = .fz n xs (some n) /\ xs.length = n * z /\ T' = T)
theorem Gr.form {T T1 : Tab} {z n : Nat} {v : AV} {xs : List AV} (h : Gr T z v n xs T1) : v.plain = true /\ v.isOne = true /\ v.sto = true /\ v.cells = [v] /\ v.isLp = false /\ ∀ k, v.offLp k = v := by
 rcases h with h | ⟨rfl, _⟩
 ·exact h.form
 ·exact ⟨rfl, rfl, rfl, rfl, rfl, fun _ => rfl⟩
theorem Gr.app {T T1 : Tab} {z b n m : Nat} {v y : AV} {xs news : List AV} {K : AV -> Tab -> Prop} (h : Gr T z v n xs T1) (hy : Z4 T1 z y = some news) (hm : q0a y = m) (h0 : 0 < m)
  (h1 : (n + m) * b <= 140737488355328) (h2 : n + m <= 9223372036854775807) (hk : ∀ v' T2, Own T z v' (n + m) (xs ++ news) T2 -> K v' T2) : q1k z b T1 v y K := by
 rcases h with h | ⟨rfl, hx, rfl⟩
 ·exact h.app hy hm h1 h2 hk
 ·exact z1l hy hm h0 hx h1 h2 hk
theorem Gr.fzn {T T' : Tab} {z n : Nat} {v : AV} {xs : List AV} (h : Gr T z v n xs T') : qn5 v (fun x T'' => x = .fz n xs none /\ T'' = T) T' := by
 rcases h with h | ⟨rfl, hx, rfl⟩
 ·exact h.fzn
 ·exact q82 .fz rfl
theorem Gr.fin {T T' : Tab} {z n : Nat} {v : AV} {xs : List AV} {Q : AV -> Tab -> Prop} (h : Gr T z v n xs T') (hQ : ∀ v T', Gr T z v n xs T' -> Q v T') : qn5 v Q T' :=
 Y3 T' (fun _ => .inr (.inl rfl)) (hQ v T' h)
theorem Gr.sl {T T' : Tab} {z n : Nat} {v : AV} {xs : List AV} (h : Gr T z v n xs T') : Z4 T' z v = some xs /\ q0a v = n := by
 rcases h with ⟨hx, h⟩ | ⟨rfl, hx, rfl⟩
 ·rcases h with ⟨rfl, rfl, rfl⟩ | ⟨id, rfl, hid, rfl⟩
  ·have : xs = [] := by simpa using hx
   subst this
   simp [Z4, q0a]
  ·simp only [Z4, Tab.put_same, q0a, Nat.zero_add, List.drop_zero, true_and, and_true]
   rw [if_pos (by omega), List.take_of_length_le (by omega)]
 ·simp only [Z4, q0a]
  rw [if_pos hx]; exact ⟨rfl, trivial⟩
end Go.Aw
namespace Go.Aw
open Go
variable [Glob]
set_option linter.all false
theorem CallK.owns {P : Program} {f : FuncId} {avs : List AV} {T T' : Tab} {l : List Ow} {R k : AV -> Tab -> Prop} (h : Owns T l T')
  (hc : ∀ S, (∀ a ∈ l, ∃ cap, qc6 T' S a.v = .fz a.n a.xs cap) -> ACalls P f (avs.map (q99 T' S)) T R) (hk : ∀ v T', R v T' -> k v T') : CallK P f avs T' k := by
 obtain ⟨S, k1, k2, k3, k4⟩ := h.fin
 unfold CallK
 exact ⟨S, R, k1, fun id hid => (k2 id hid).1, by rw [k3]; exact hc S k4, hk⟩
theorem Own.frzv {T T1 T2 : Tab} {S : List Nat} {z n : Nat} {v : AV} {xs : List AV} (h : Own T z v n xs T1) : Aw.q99 T2 S v = qc6 T2 S v := by
 rcases h.2 with ⟨rfl, _⟩ | ⟨id, rfl, _⟩ <;> rfl
theorem SlotLe.trans {a b c : Slot} (h : SlotLe a b) (k : SlotLe b c) : SlotLe a c := by
 rcases h with rfl | rfl | ⟨z, cs, m, rfl, rfl⟩
 ·exact .inl rfl
 ·exact k
 ·rcases k with k | k | ⟨z', cs', m', rfl, k⟩
  ·cases k
  ·subst k; exact .inr (.inr ⟨z, cs, m, rfl, rfl⟩)
  ·injection k with k1 k2
   subst k1; subst k2
   exact .inr (.inr ⟨z, cs', min m m', rfl, by rw [List.take_take]⟩)
def TabLe (T T' : Tab) : Prop := ∀ j, SlotLe (T j) (T' j)
theorem TabLe.refl (T : Tab) : TabLe T T := fun _ => .inr (.inl rfl)
theorem TabLe.trans {T T1 T2 : Tab} (h : TabLe T T1) (k : TabLe T1 T2) : TabLe T T2 := fun j => (h j).trans (k j)
theorem TabLe.put {T T1 : Tab} {id : Nat} {s : Slot} (h : TabLe T T1) (hid : T id = .unused) : TabLe T (T1.put id s) := fun j => by
 by_cases e : j = id
 ·subst e; rw [hid]; exact .inl rfl
 ·rw [Tab.put_ne _ _ e]; exact h j
theorem TabLe.unused {T T' : Tab} {id : Nat} (h : TabLe T T') (hid : T' id = .unused) : T id = .unused := by
 rcases h id with e | e | ⟨z, cs, m, e, _⟩
 ·exact e
 ·rw [e, hid]
 ·rw [hid] at e; cases e
theorem TabLe.fin {T T' : Tab} {r : AV} (h : TabLe T T') : qn5 r (fun v T'' => v = r /\ T'' = T) T' := Y3 T h ⟨rfl, rfl⟩
theorem Own.sl {T T' : Tab} {z n : Nat} {v : AV} {xs : List AV} (h : Own T z v n xs T') : Z4 T' z v = some xs /\ q0a v = n := Gr.sl (.inl h)
theorem Own.ne {T T' : Tab} {z n : Nat} {v : AV} {xs : List AV} (h : Own T z v n xs T') (hn : 0 < n) : ∃ id, v = .sl id 0 n none /\ T id = .unused /\ T' = T.put id (.row z xs) := by
 rcases h.2 with ⟨_, e, _⟩ | h
 ·omega
 ·exact h
end Go.Aw
namespace Go.Aw
open Go
variable [Glob]
set_option linter.all false
def Indep (r : AV) : Prop := ∀ X X' w w' v, vr X w r v -> vr X' w' r v
theorem Indep.b {x : Bool} : Indep (.b x) := fun _ _ _ _ _ h => by simp only [vr] at h ⊢; exact h
theorem Indep.i {k : IntKind} {n : Int} : Indep (.i k n) := fun _ _ _ _ _ h => by simp only [vr] at h ⊢; exact h
theorem Indep.s {l : List UInt8} : Indep (.s l) := fun _ _ _ _ _ h => by simp only [vr] at h ⊢; exact h
theorem Indep.tup {l : List AV} (h : ∀ x ∈ l, Indep x) : Indep (.tup l) := fun X X' w w' v hv => by
 simp only [vr] at hv ⊢
 obtain ⟨us, h1, h2⟩ := hv
 refine ⟨us, ?_, h2⟩
 clear h2
 induction l generalizing us with
 | nil => simpa [vrs] using h1
 | cons x l ih =>
  simp only [vrs] at h1 ⊢
  obtain ⟨u, us', e, k1, k2⟩ := h1
  exact ⟨u, us', e, h x (List.mem_cons_self ..) _ _ _ _ _ k1, ih (fun y hy => h y (List.mem_cons_of_mem _ hy)) us' k2⟩
theorem ACalls.borrow {P : Program} {f : FuncId} {avs : List AV} {T : Tab} {S : List Nat} {r : AV} (hn : S.Nodup) (hS : ∀ id ∈ S, T id ≠ .unused) (h : PCalls P f (avs.map (q99 T S)) r) (hr : Indep r) :
  ACalls P f avs T (fun v T' => v = r /\ T' = T) := by
 intro X lam w cargs hrel hv
 have h0 : SR X T w X lam [] [] T { tmps := #[], defers := [] } w := ⟨hrel, .refl X T w, fun l c hc => by simp [q10] at hc, fun s x hs => by simp [q10] at hs, rfl⟩
 have h1 := h0.freezes S hn hS
 have h2 := h1.sub (T' := Tab.nil) (fun id => .inl rfl)
 have hv' : vrs (X.addFzs S) w (avs.map (q99 T S)) cargs := hv.map fun x v hx => qa1 hrel hx
 have hc := h Tab.nil (X.addFzs S) lam w cargs h2.rel hv'
 refine hc.mono fun e w' ⟨v, x, T', X', lam', he, ⟨hx, hT⟩, hvr, hrel', hst⟩ => ?_
 subst hx; subst hT
 have hk : ∀ b, b < w.heap.size -> w'.heap[b]? = w.heap[b]? := fun b hb => hst.kept b hb fun ⟨id, hid, _⟩ => hid rfl
 have hfz : q5e X w w' := fun b hb => hk b (hrel.fzlt b hb)
 have hlt : ∀ id, T id ≠ .unused -> (X.β id).blk < w.heap.size := fun id hid => hrel.live_lt ⟨id, hid, rfl⟩
 refine ⟨v, x, T, X, lam, he, ⟨rfl, rfl⟩, hr _ _ _ _ _ hvr, ⟨hrel.fresh, fun b hb => Nat.lt_of_lt_of_le (hrel.fzlt b hb) hst.size, fun id esz cells hT => ?_, fun id es hT => ?_, hrel.live_fz, hrel.live_inj, fun l c hc => by simp [q10] at hc, fun l c hc => by simp [q10] at hc, fun l l' c c' hc => by simp [q10] at hc, fun l c hc => by simp [q10] at hc, q19 (.refl X) hfz hrel.glob⟩,
  ⟨.refl X, hst.os, hst.tape, hst.output, hst.size, fun b hb _ => hk b hb, fun _ _ hf => .inl hf, fun _ _ hl => hl, fun _ _ hT => hT⟩⟩
 ·exact (hrel.row id esz cells hT).mono (.refl X) hfz (hrel.id_lt (by simp [hT])) (hk _ (hlt id (by simp [hT])))
 ·exact (hrel.map id es hT).mono (.refl X) hfz (hrel.id_lt (by simp [hT])) (hk _ (hlt id (by simp [hT])))
theorem CallK.borrow {P : Program} {f : FuncId} {avs : List AV} {T T' : Tab} {l : List Ow} {r : AV} {k : AV -> Tab -> Prop} (h : Owns T l T')
  (hc : ∀ S, (∀ a ∈ l, ∃ cap, qc6 T' S a.v = .fz a.n a.xs cap) -> PCalls P f (avs.map (q99 T' S)) r) (hr : Indep r) (hk : k r T') : CallK P f avs T' k := by
 obtain ⟨S, k1, k2, k3, k4⟩ := h.fin
 exact CallK.as (ACalls.borrow k1 (fun id hid => (k2 id hid).1) (hc S k4) hr) hk
end Go.Aw
namespace Go.Aw
open Go
variable [Glob]
set_option linter.all false
theorem Wk.fzs {n : Nat} {cells cells' : List AV} {cap : Option Nat} (h : Wks cells cells') : Wk (.fz n cells cap) (.fz n cells' none) := fun X w v hv => by
 have h1 := Wk.fz (n := n) (cells := cells) (cap := cap) X w v hv
 simp only [vr] at h1 ⊢
 obtain ⟨us, h2, h3⟩ := h1
 exact ⟨us, h.vrs h2, h3⟩
theorem Wks.append : ∀ {a b c d : List AV}, Wks a b -> Wks c d -> Wks (a ++ c) (b ++ d)
 | [], [], _, _, _, h => h
 | _ :: _, _ :: _, _, _, h, k => ⟨h.1, Wks.append h.2 k⟩
section
variable {T : Tab} {S : List Nat}
theorem Own.frX {T0 T1 : Tab} {z n : Nat} {v : AV} {xs : List AV} (h : Own T0 z v n xs T1) : Aw.frX T S v = qc6 T S v := by
 rcases h.2 with ⟨rfl, _⟩ | ⟨id, rfl, _⟩ <;> rfl
end
theorem Own.lenAv {T0 T1 : Tab} {z n : Nat} {v : AV} {xs : List AV} (h : Own T0 z v n xs T1) : Aw.qiu false v = some (.i .i64 (n : Nat)) := by
 rcases h.2 with ⟨rfl, rfl, _⟩ | ⟨id, rfl, _⟩ <;> rfl
theorem Owns.lenAv {T T' : Tab} {a : Ow} {l : List Ow} (h : Owns T (a :: l) T') : Aw.qiu false a.v = some (.i .i64 (a.n : Nat)) := by
 obtain ⟨T0, _, ho⟩ := h
 exact ho.lenAv
end Go.Aw
namespace Go.Aw
open Go
set_option linter.all false
def enc (n : Nat) : List UInt8 := if h : n < 128 then [UInt8.ofNat n] else UInt8.ofNat (n % 128 + 128) :: enc (n / 128)
termination_by n
decreasing_by omega
theorem q5h {n : Nat} (h : n < 128) : enc n = [UInt8.ofNat n] := by rw [enc, dif_pos h]
theorem qka {n : Nat} (h : ¬ n < 128) : enc n = UInt8.ofNat (n % 128 + 128) :: enc (n / 128) := by rw [enc, dif_neg h]
theorem zd4 : ∀ m : Fin 256, (BitVec.ofInt 8 (m.val : Int) ||| BitVec.ofInt 8 128).toNat = m.val % 128 + 128 := by decide +kernel
theorem z9u : ∀ m : Fin 256, (BitVec.ofInt 8 (m.val : Int) &&& BitVec.ofInt 8 127).toNat = m.val % 128 := by decide +kernel
theorem qkb (n : Int) : IntKind.u8.wrap n = n % 256 := by
 simp [IntKind.wrap, IntKind.signed, IntKind.bits]
theorem z50 (n : Nat) : IntKind.u8.wrap ((BitVec.ofInt 8 (IntKind.u8.wrap (n : Int)) ||| BitVec.ofInt 8 128).toNat : Nat) = ((n % 128 + 128 : Nat) : Int) := by
 have h := zd4 ⟨n % 256, Nat.mod_lt _ (by decide)⟩
 simp only at h
 rw [qkb (n : Int), show (n : Int) % 256 = ((n % 256 : Nat) : Int) by omega, h, qkb]
 omega
end Go.Aw
namespace Go.Aw
open Go
set_option linter.all false
def dec : Nat -> Nat -> List UInt8 -> Option (Nat × Nat)
 | _, _, [] => none
 | i, a, c :: cs => if 9 < i \/ (i = 9 /\ 1 < c.toNat) then none else
   if c.toNat < 128 then (if c.toNat = 0 /\ 0 < i then none else some (a + c.toNat % 128 * 128 ^ i, i + 1)) else dec (i + 1) (a + c.toNat % 128 * 128 ^ i) cs
theorem z3q (i : Nat) : 128 ^ i = 2 ^ (7 * i) := by rw [show 128 = 2 ^ 7 from rfl, <- Nat.pow_mul]
theorem z9v (m : Nat) : enc m ≠ [] := by rw [enc]; split <;> simp
theorem qy8 : ∀ (k m : Nat), m < 128 ^ (k + 1) -> (enc m).length <= k + 1
 | 0, m, h => by rw [q5h (by omega)]; simp
 | k + 1, m, h => by
  by_cases h1 : m < 128
  ·rw [q5h h1]; simp
  ·rw [qka h1]
   have := qy8 k (m / 128) (by rw [Nat.div_lt_iff_lt_mul (by decide)]; rw [Nat.pow_succ] at h; omega)
   simp; omega
theorem K5 {m : Nat} (h : m < 18446744073709551616) : (enc m).length <= 10 := qy8 9 m (by omega)
theorem qy9 : ∀ (k n i a : Nat) (rest : List UInt8), i + k = 9 -> n < 128 ^ (k + 1) -> n * 128 ^ i < 18446744073709551616 -> (0 < i -> 0 < n) -> dec i a (enc n ++ rest) = some (a + n * 128 ^ i, i + (enc n).length)
 | k, n, i, a, rest, hk, hn, hb, h0 => by
  by_cases hs : n < 128
  ·rw [q5h hs]
   have e : (UInt8.ofNat n).toNat = n := by rw [UInt8.toNat_ofNat_of_lt' (by show n < 256; omega)]
   simp only [List.cons_append, List.nil_append, dec, e, List.length_cons, List.length_nil, Nat.zero_add]
   rw [if_neg, if_pos hs, if_neg, Nat.mod_eq_of_lt hs]
   ·rintro ⟨h1, h2⟩; have := h0 h2; omega
   ·rintro (h | ⟨rfl, h⟩)
    ·omega
    ·have : (128 : Nat) ^ 9 = 9223372036854775808 := by decide
     rw [this] at hb
     omega
  ·rw [qka hs]
   have e : (UInt8.ofNat (n % 128 + 128)).toNat = n % 128 + 128 := by rw [UInt8.toNat_ofNat_of_lt' (by show n % 128 + 128 < 256; omega)]
   have hk0 : k ≠ 0 := by rintro rfl; simp at hn; omega
   obtain ⟨j, rfl⟩ := Nat.exists_eq_succ_of_ne_zero hk0
   have hp : 0 < 128 ^ i := Nat.pow_pos (by decide)
   have hdiv : n / 128 * 128 + n % 128 = n := by omega
   have hsplit : n * 128 ^ i = n % 128 * 128 ^ i + n / 128 * 128 ^ (i + 1) := by
    rw [Nat.pow_succ]
    calc n * 128 ^ i = (n / 128 * 128 + n % 128) * 128 ^ i := by rw [hdiv]
     _ = n % 128 * 128 ^ i + n / 128 * (128 ^ i * 128) := by rw [Nat.add_mul, Nat.add_comm, Nat.mul_assoc, Nat.mul_comm 128]
   simp only [List.cons_append, dec, e, List.length_cons]
   rw [if_neg (by omega), if_neg (by omega), qy9 j (n / 128) (i + 1) _ rest (by omega) (by rw [Nat.div_lt_iff_lt_mul (by decide)]; rw [Nat.pow_succ] at hn; omega) (by omega) (by intro _; omega)]
   rw [show (n % 128 + 128) % 128 = n % 128 by omega, hsplit]
   congr 2
   ·omega
   ·omega
theorem z51 {n : Nat} (h : n < 18446744073709551616) (rest : List UInt8) : dec 0 0 (enc n ++ rest) = some (n, (enc n).length) := by
 rw [qy9 9 n 0 0 rest rfl (by omega) (by simpa using h) (by omega)]; simp
theorem qya : ∀ (bs : List UInt8) (i a n z : Nat), i <= 10 -> a < 128 ^ i -> dec i a bs = some (n, z) -> ∃ m, n = a + m * 128 ^ i /\ z = i + (enc m).length /\ (enc m).length <= bs.length /\ bs.take (enc m).length = enc m /\ n < 18446744073709551616 /\ (0 < i -> 0 < m)
 | [], _, _, _, _, _, _, h => by simp [dec] at h
 | c :: cs, i, a, n, z, hi, ha, h => by
  simp only [dec] at h
  have hc := c.toNat_lt
  split at h
  ·cases h
  ·rename_i hn
   have hi9 : i <= 9 := by omega
   have hp : 0 < 128 ^ i := Nat.pow_pos (by decide)
   split at h
   ·rename_i hs
    split at h
    ·cases h
    ·rename_i hz
     injection h with h; injection h with h1 h2
     subst h1; subst h2
     have e : UInt8.ofNat c.toNat = c := by simp
     refine ⟨c.toNat, by rw [Nat.mod_eq_of_lt hs], by rw [q5h hs]; rfl, by rw [q5h hs]; simp, by rw [q5h hs]; simp, ?_, by omega⟩
     rw [Nat.mod_eq_of_lt hs]
     by_cases h9 : i = 9
     ·subst h9
      have : (128 : Nat) ^ 9 = 9223372036854775808 := by decide
      rw [this] at ha ⊢
      have : c.toNat <= 1 := by omega
      omega
     ·have h8 : 128 ^ i <= 128 ^ 8 := Nat.pow_le_pow_right (by decide) (by omega)
      have h88 : (128 : Nat) ^ 8 = 72057594037927936 := by decide
      have : c.toNat * 128 ^ i <= 127 * 128 ^ i := Nat.mul_le_mul_right _ (by omega)
      omega
   ·rename_i hs
    have hn9 : i ≠ 9 := by omega
    have ha' : a + c.toNat % 128 * 128 ^ i < 128 ^ (i + 1) := by
     have : c.toNat % 128 * 128 ^ i <= 127 * 128 ^ i := Nat.mul_le_mul_right _ (by omega)
     rw [Nat.pow_succ]; omega
    obtain ⟨m, h1, h2, h3, h4, h5, h6⟩ := qya cs (i + 1) _ n z (by omega) ha' h
    have hm := h6 (by omega)
    have hbig : ¬ (m * 128 + c.toNat % 128 < 128) := by omega
    have e1 : (m * 128 + c.toNat % 128) % 128 = c.toNat % 128 := by omega
    have e2 : (m * 128 + c.toNat % 128) / 128 = m := by omega
    have e3 : UInt8.ofNat (c.toNat % 128 + 128) = c := by
     apply UInt8.toNat_inj.1
     rw [UInt8.toNat_ofNat_of_lt' (by show c.toNat % 128 + 128 < 256; omega)]; omega
    have henc : enc (m * 128 + c.toNat % 128) = c :: enc m := by rw [qka hbig, e1, e2, e3]
    refine ⟨m * 128 + c.toNat % 128, ?_, by rw [henc, h2, List.length_cons]; omega, by rw [henc, List.length_cons, List.length_cons]; omega, by rw [henc, List.length_cons, List.take_succ_cons, h4], h5, by omega⟩
    rw [h1, Nat.pow_succ, Nat.add_mul, Nat.mul_assoc, Nat.mul_comm 128 (128 ^ i)]; omega
theorem qud {bs : List UInt8} {n z : Nat} (h : dec 0 0 bs = some (n, z)) : z = (enc n).length /\ z <= bs.length /\ bs = enc n ++ bs.drop z /\ n < 18446744073709551616 := by
 obtain ⟨m, h1, h2, h3, h4, h5, _⟩ := qya bs 0 0 n z (by omega) (by decide) h
 have e : n = m := by omega
 subst e
 have hz : z = (enc n).length := by omega
 refine ⟨hz, by omega, ?_, h5⟩
 have h6 := (List.take_append_drop z bs).symm
 rw [hz, h4] at h6
 rw [hz]
 exact h6
abbrev RS := List UInt8 × Bool
def K3 (k : Nat) (s : RS) : Nat × RS :=
 if s.2 = true then (0, s) else match dec 0 0 s.1 with
  | some (n, z) => if n <= k then (n, (s.1.drop z, false)) else (0, (s.1, true))
  | none => (0, (s.1, true))
def q1q (k : Nat) (s : RS) : List UInt8 × RS :=
 if (K3 k s).2.2 = true \/ (K3 k s).2.1.length < (K3 k s).1 then ([], ((K3 k s).2.1, true)) else ((K3 k s).2.1.take (K3 k s).1, ((K3 k s).2.1.drop (K3 k s).1, false))
theorem qyb {k : Nat} {s : RS} (h : s.2 = true) : K3 k s = (0, s) := by simp [K3, h]
theorem q24 (k : Nat) (s : RS) : (K3 k s).1 <= k := by
 unfold K3
 split
 ·exact Nat.zero_le _
 ·split
  ·split
   ·assumption
   ·exact Nat.zero_le _
  ·exact Nat.zero_le _
theorem O7 (k : Nat) (s : RS) : (K3 k s).2.1.length <= s.1.length := by
 unfold K3
 split
 ·exact Nat.le_refl _
 ·split
  ·split
   ·simp
   ·exact Nat.le_refl _
  ·exact Nat.le_refl _
theorem q6o (k : Nat) (s : RS) : (q1q k s).2.1.length <= s.1.length := by
 unfold q1q
 have := O7 k s
 split
 ·exact this
 ·simp only [List.length_drop]; omega
theorem qfz (k : Nat) (s : RS) : (q1q k s).1.length <= k := by
 unfold q1q
 have := q24 k s
 split
 ·exact Nat.zero_le _
 ·simp only [List.length_take]; omega
theorem Q9 {k n : Nat} (h : n <= k) (hk : n < 18446744073709551616) (rest : List UInt8) : K3 k (enc n ++ rest, false) = (n, (rest, false)) := by
 simp only [K3, Bool.false_eq_true, if_false, z51 hk, if_pos h]
 rw [List.drop_left' rfl]
theorem qa8 {k : Nat} {s : List UInt8} (h : s.length <= k) (hk : s.length < 18446744073709551616) (rest : List UInt8) : q1q k (enc s.length ++ s ++ rest, false) = (s, (rest, false)) := by
 rw [List.append_assoc]
 simp only [q1q, Q9 h hk]
 rw [if_neg (by simp)]
 simp
end Go.Aw
namespace Go.Aw
open Go
variable [Glob]
set_option linter.all false
theorem q14 {a b : Nat} (h : a <= b) (hb : Len b) : Len a := by unfold Len at *; omega
def qvm (b : Bool) : UInt8 := if b = true then 1 else 0
theorem qhb (b : Bool) : [qvm b] = enc (if b = true then 1 else 0) := by cases b <;> (rw [q5h (by decide)]; rfl)
theorem enc_bit' (b : Bool) : enc (if b = true then (1 : Nat) else 0) = [qvm b] := (qhb b).symm
def Y1 {α : Type} (f : RS -> α × RS) : Nat -> RS -> List α × RS
 | 0, s => ([], s)
 | n + 1, s => if s.2 = true then ([], s) else ((f s).1 :: (Y1 f n (f s).2).1, (Y1 f n (f s).2).2)
theorem qci {α : Type} {f : RS -> α × RS} {g : α -> List UInt8} {ok : α -> Prop} (hf : ∀ x rest, ok x -> f (g x ++ rest, false) = (x, (rest, false))) : ∀ (l : List α) (rest : List UInt8), (∀ x ∈ l, ok x) -> Y1 f l.length (l.flatMap g ++ rest, false) = (l, (rest, false))
 | [], rest, _ => rfl
 | x :: l, rest, h => by
  have e : (x :: l).flatMap g ++ rest = g x ++ (l.flatMap g ++ rest) := by simp
  simp only [List.length_cons, Y1, Bool.false_eq_true, if_false]
  rw [e, hf x _ (h x (List.mem_cons_self ..)), qci hf l rest fun y hy => h y (List.mem_cons_of_mem _ hy)]
theorem q6p {α : Type} {f : RS -> α × RS} (hf : ∀ s, (f s).2.1.length <= s.1.length) : ∀ (n : Nat) (s : RS), (Y1 f n s).2.1.length <= s.1.length
 | 0, s => Nat.le_refl _
 | n + 1, s => by
  simp only [Y1]
  split
  ·exact Nat.le_refl _
  ·exact Nat.le_trans (q6p hf n _) (hf s)
theorem qdi {α : Type} {f : RS -> α × RS} : ∀ (n : Nat) (s : RS), (Y1 f n s).1.length <= n
 | 0, s => Nat.le_refl _
 | n + 1, s => by
  simp only [Y1]
  split
  ·exact Nat.zero_le _
  ·have := qdi (f := f) n (f s).2; simp only [List.length_cons]; omega
theorem q8i {α : Type} {f : RS -> α × RS} {p : α -> Prop} (h : ∀ s, p (f s).1) : ∀ (n : Nat) (s : RS), ∀ x ∈ (Y1 f n s).1, p x
 | 0, s, x, hx => by simp [Y1] at hx
 | n + 1, s, x, hx => by
  simp only [Y1] at hx
  split at hx
  ·cases hx
  ·simp only [List.mem_cons] at hx
   rcases hx with rfl | hx
   ·exact h s
   ·exact q8i h n _ x hx
theorem q5i {α : Type} {g : α -> List UInt8} {m : Nat} : ∀ (l : List α), (∀ x ∈ l, (g x).length <= m) -> (l.flatMap g).length <= l.length * m
 | [], _ => by simp
 | x :: l, h => by
  have h1 := q5i l fun y hy => h y (List.mem_cons_of_mem _ hy)
  have h2 := h x (List.mem_cons_self ..)
  rw [List.flatMap_cons, List.length_append, List.length_cons, Nat.add_mul]; omega
theorem qa9 {n : Nat} (h : n < 1000000000) : IntKind.i64.wrap (((n + 1 : Nat) : Int) - 1) = (n : Int) := by rw [q0c (by unfold I64; omega)]; omega
theorem Own.at {B T1 : Tab} {id z n : Nat} {v : AV} {xs : List AV} (h : Own B z v n xs T1) (hB : B id ≠ .unused) : T1 id = B id := Owns.base_get hB (Owns.one h)
end Go.Aw
namespace Go.Aw
open Go Go.ChangeShapes Go.WideShapes Go.ChangeAt Go.RowKit
variable [Glob]
set_option linter.all false
inductive Ty where
 | int (k : IntKind)
 | bool
 | str
 | sl (e : Ty)
 | st (fs : List Ty)
 | ar (n : Nat) (e : Ty)
mutual
def q7t : Ty -> List AV -> Prop
 | .int k, cs => ∃ n, cs = [.i k n] /\ (Lit.int k n).wf = true
 | .bool, cs => ∃ b, cs = [.b b]
 | .str, cs => ∃ l : List UInt8, cs = [.s l] /\ l.length <= maxLen
 | .sl e, cs => ∃ ps : List (List AV), ps.length <= maxLen /\ (∀ p ∈ ps, q7t e p) /\ ∃ k, cs = [.fz ps.length ps.flatten k]
 | .st fs, cs => q47 fs cs
 | .ar n e, cs => ∃ ps : List (List AV), ps.length = n /\ (∀ p ∈ ps, q7t e p) /\ cs = ps.flatten
def q47 : List Ty -> List AV -> Prop
 | [], cs => cs = []
 | f :: fs, cs => ∃ a b, cs = a ++ b /\ q7t f a /\ q47 fs b
end
mutual
def qp5 (P : Program) : Ty -> TypeId -> Bool
 | .int k, t => match P.underlying t with
  | some (.int k') => decide (k' = k)
  | _ => false
 | .bool, t => match P.underlying t with
  | some .bool => true
  | _ => false
 | .str, t => match P.underlying t with
  | some .string => true
  | _ => false
 | .sl e, t => match P.underlying t with
  | some (.slice e') => qp5 P e e'
  | _ => false
 | .st fs, t => match P.underlying t with
  | some (.struct gs) => qru P fs gs.toList 0 (P.cellsOf t)
  | _ => false
 | .ar n e, t => match P.underlying t with
  | some (.array m e') => decide (m = n) && qp5 P e e' && decide (P.cellsOf t = n * P.cellsOf e')
  | _ => false
def qru (P : Program) : List Ty -> List Field -> Nat -> Nat -> Bool
 | [], [], o, n => decide (o = n)
 | f :: fs, g :: gs, o, n => decide (g.offset = o) && qp5 P f g.type && qru P fs gs (o + P.cellsOf g.type) n
 | _, _, _, _ => false
end
section
variable {P : Program} {X : Cx} {W : World} {H : Type} {enc : TypeId × Value -> H} {base : Nat} {sp : Nat -> Bool} {held : Bool}
theorem z1m {a : Addr} {j : Nat} {u : Value} (h : W.cell? (a.add j) = some u) : W.cell? ⟨a.block, a.off + j, none⟩ = some u := by
 by_cases hj : j = 0
 ·subst hj
  have e : a.add 0 = a := by simp [Addr.add]
  rw [e] at h
  have hs : a.spot = none := by
   unfold World.cell? at h
   split at h
   ·split at h
    ·cases h
    ·rename_i hs; simpa using hs
   ·cases h
  rw [qdc hs] at h
  simpa using h
 ·simpa [Addr.add, hj] using h
theorem add_add' (a : Addr) (i j : Nat) : (a.add i).add j = a.add (i + j) := by
 unfold Addr.add
 by_cases hi : i = 0 <;> by_cases hj : j = 0 <;> simp [hi, hj, Nat.add_assoc]
theorem qyc {a : Addr} {u : Value} (h : W.cell? a = some u) : a.block < W.heap.size := by
 unfold World.cell? at h
 split at h
 ·rename_i hb; exact (Array.getElem?_eq_some_iff.1 hb).1
 ·cases h
theorem qyd {a : Addr} {u : Value} (h : W.cell? a = some u) : a.spot = none := by
 unfold World.cell? at h
 split at h
 ·split at h
  ·cases h
  ·rename_i hs; simpa using hs
 ·cases h
theorem qrv {l m : List AV} {us vs : List Value} (h : vrs X W l us) (k : vrs X W m vs) : vrs X W (l ++ m) (us ++ vs) := by
 induction l generalizing us with
 | nil => simp only [vrs] at h; subst h; exact k
 | cons x l ih =>
  simp only [vrs] at h
  obtain ⟨u, us', rfl, h1, h2⟩ := h
  exact ⟨u, us' ++ vs, rfl, h1, ih h2⟩
theorem z1n {z : Nat} {e : Ty} {a : Addr} {len : Nat} (h : ∀ i, i < len -> ∃ cs ps, cs.length = z /\ (∀ r, r < z -> W.cell? ((a.add (i * z)).add r) = cs[r]?) /\ vrs X W ps cs /\ q7t e ps /\ ∀ u ∈ cs, u.oneCell' = true) :
  ∃ (us : List Value) (ps : List (List AV)), ps.length = len /\ us.length = len * z /\ vrs X W ps.flatten us /\ (∀ p ∈ ps, q7t e p) /\ (∀ u ∈ us, u.oneCell' = true) /\ ∀ (j : Nat) u, us[j]? = some u -> W.cell? (a.add j) = some u := by
 induction len with
 | zero => exact ⟨[], [], rfl, by simp, by simp [vrs], by simp, by simp, by simp⟩
 | succ n ih =>
  obtain ⟨us, ps, h1, h2, h3, h4, h5, h6⟩ := ih fun i hi => h i (Nat.lt_succ_of_lt hi)
  obtain ⟨cs, p, k1, k2, k3, k4, k5⟩ := h n (Nat.lt_succ_self n)
  refine ⟨us ++ cs, ps ++ [p], by simp [h1], by simp [h2, k1, Nat.succ_mul], ?_, ?_, ?_, ?_⟩
  ·rw [List.flatten_append]
   simpa using qrv h3 k3
  ·intro q hq
   rcases List.mem_append.1 hq with hq | hq
   ·exact h4 q hq
   ·rw [List.mem_singleton] at hq; subst hq; exact k4
  ·intro u hu
   rcases List.mem_append.1 hu with hu | hu
   ·exact h5 u hu
   ·exact k5 u hu
  ·intro j u hj
   by_cases hlt : j < us.length
   ·rw [List.getElem?_append_left hlt] at hj; exact h6 j u hj
   ·rw [List.getElem?_append_right (by omega)] at hj
    have hr : j - us.length < z := by rw [<- k1]; exact (List.getElem?_eq_some_iff.1 hj).1
    have := k2 (j - us.length) hr
    rw [hj, add_add', show n * z + (j - us.length) = j by omega] at this
    exact this
mutual
theorem qo6 (hX : ∀ b, b < W.heap.size -> X.fz b) : ∀ (ty : Ty) {t : TypeId} {fuel : Nat} {cs : List Value} {x : DataW H × List MemPlace}, qp5 P ty t = true -> DataW.trod enc P W base sp held fuel t cs = some x ->
  ∃ avs, vrs X W avs cs /\ q7t ty avs /\ ∀ u ∈ cs, u.oneCell' = true
 | .int k, t, fuel, cs, x, ht, h => by
  simp only [qp5] at ht
  split at ht
  ·rename_i k' hu
   have hk : k' = k := of_decide_eq_true ht
   subst hk
   obtain ⟨n, e1, _, hw⟩ := DataW.trod_int hu h
   subst e1
   exact ⟨[.i k' n], by simp [vrs, vr], by simp only [q7t]; exact ⟨n, rfl, hw⟩, by simp [Value.oneCell']⟩
  ·cases ht
 | .bool, t, fuel, cs, x, ht, h => by
  simp only [qp5] at ht
  split at ht
  ·rename_i hu
   cases fuel with
   | zero => simp [DataW.trod] at h
   | succ n =>
    unfold DataW.trod at h
    rw [hu] at h
    split at h <;> simp_all
    rename_i b
    exact ⟨[.b b], by simp [vrs, vr], by simp only [q7t]; exact ⟨b, rfl⟩, by simp [Value.oneCell']⟩
  ·cases ht
 | .str, t, fuel, cs, x, ht, h => by
  simp only [qp5] at ht
  split at ht
  ·rename_i hu
   cases fuel with
   | zero => simp [DataW.trod] at h
   | succ n =>
    unfold DataW.trod at h
    rw [hu] at h
    split at h <;> simp_all
    rename_i s
    exact ⟨[.s s.data.toList], by simp [vrs, vr], by simp only [q7t]; exact ⟨_, rfl, by have h1 := h.1; rw [Array.length_toList]; exact h1⟩, by simp [Value.oneCell']⟩
  ·cases ht
 | .sl e, t, fuel, cs, x, ht, h => by
  simp only [qp5] at ht
  split at ht
  ·rename_i e' hu
   rcases DataW.trod_slice hu h with ⟨rfl, _⟩ | ⟨a, len, cap, elems, rest, n, _, rfl, _, _, hl, hm, hlen, hel, _⟩
   ·exact ⟨[.fz 0 [] (some 0)], by simp [vrs, vr, fzSlice, qp7], by simp only [q7t]; exact ⟨[], Nat.zero_le _, by simp, some 0, rfl⟩, by simp [Value.oneCell']⟩
   ·obtain ⟨us, ps, h1, h2, h3, h4, h5, h6⟩ := z1n (X := X) (W := W) (z := P.cellsOf e') (e := e) (a := a) (len := len) (fun i hi => by
     have k := hel i hi
     rw [List.getElem?_eq_getElem (by omega)] at k
     obtain ⟨cs', k1, k2⟩ := Option.bind_eq_some_iff.1 k
     obtain ⟨_, k3, k4⟩ := World.cells?_some k1
     obtain ⟨ps, k5, k6, k7⟩ := qo6 hX e ht k2
     exact ⟨cs', ps, k3, k4, k5, k6, k7⟩)
    refine ⟨[.fz len ps.flatten none], ?_, ?_, by simp [Value.oneCell']⟩
    ·simp only [vrs, vr]
     refine ⟨_, [], rfl, ⟨us, h3, .inr ⟨a, cap, rfl, ?_, hl, (fun k hk => by cases hk), ?_⟩⟩, rfl⟩
     ·cases us with
      | nil => exact .inl rfl
      | cons u us =>
       have := h6 0 u rfl
       have e0 : a.add 0 = a := by simp [Addr.add]
       rw [e0] at this
       exact .inr (qyd this)
     ·cases us with
      | nil => exact .inl rfl
      | cons u us =>
       have := h6 0 u rfl
       have e0 : a.add 0 = a := by simp [Addr.add]
       rw [e0] at this
       exact .inr ⟨hX _ (qyc this), h5, fun j v hv => z1m (h6 j v hv)⟩
    ·simp only [q7t]
     exact ⟨ps, by omega, h4, none, by rw [h1]⟩
  ·cases ht
 | .st fs, t, fuel, cs, x, ht, h => by
  simp only [qp5] at ht
  split at ht
  ·rename_i gs hu
   obtain ⟨xs, n, _, _, hl, hlen, hf⟩ := DataW.trod_struct hu h
   obtain ⟨avs, h1, h2, h3⟩ := que hX fs (cs := cs) (o := 0) (n := P.cellsOf t) (m := n) (gs := gs.toList) ht (by omega) (fun g hg => by
    obtain ⟨i, hi, rfl⟩ := List.mem_iff_getElem.1 hg
    have hi' : i < gs.size := by simpa using hi
    have := hf i gs[i] (Array.getElem?_eq_getElem hi')
    rw [List.getElem?_eq_getElem (by omega)] at this
    exact ⟨_, by simpa using this⟩)
   refine ⟨avs, ?_, ?_, ?_⟩
   ·simpa using h1
   ·simp only [q7t]; exact h2
   ·simpa using h3
  ·cases ht
 | .ar n e, t, fuel, cs, x, ht, h => by
  simp only [qp5] at ht
  split at ht
  ·rename_i m e' hu
   simp only [Bool.and_eq_true, decide_eq_true_eq] at ht
   obtain ⟨⟨rfl, ht⟩, hc⟩ := ht
   obtain ⟨xs, q, _, _, hl, hlen, hf⟩ := DataW.trod_array hu h
   rw [hc] at hl
   have key : ∀ k, k <= m -> ∃ ps : List (List AV), ps.length = k /\ (∀ p ∈ ps, q7t e p) /\ vrs X W ps.flatten (cs.take (k * P.cellsOf e')) /\ ∀ u ∈ cs.take (k * P.cellsOf e'), u.oneCell' = true := by
    intro k
    induction k with
    | zero => intro _; exact ⟨[], rfl, by simp, by simp [vrs], by simp⟩
    | succ k ih =>
     intro hk
     obtain ⟨ps, h1, h2, h3, h4⟩ := ih (by omega)
     have hx := hf k (by omega)
     rw [List.getElem?_eq_getElem (by omega)] at hx
     obtain ⟨avs, a1, a2, a3⟩ := qo6 hX e ht hx
     have e1 : cs.take ((k + 1) * P.cellsOf e') = cs.take (k * P.cellsOf e') ++ (cs.drop (k * P.cellsOf e')).take (P.cellsOf e') := by
      rw [Nat.add_mul, Nat.one_mul, List.take_add]
     rw [e1]
     refine ⟨ps ++ [avs], by simp [h1], ?_, ?_, ?_⟩
     ·intro p hp
      rcases List.mem_append.1 hp with hp | hp
      ·exact h2 p hp
      ·rw [List.mem_singleton] at hp; subst hp; exact a2
     ·rw [List.flatten_append]; simpa using qrv h3 a1
     ·intro u hu
      rcases List.mem_append.1 hu with hu | hu
      ·exact h4 u hu
      ·exact a3 u hu
   obtain ⟨ps, h1, h2, h3, h4⟩ := key m (Nat.le_refl _)
   rw [List.take_of_length_le (by omega)] at h3 h4
   exact ⟨ps.flatten, h3, by simp only [q7t]; exact ⟨ps, h1, h2, rfl⟩, h4⟩
  ·cases ht
theorem que (hX : ∀ b, b < W.heap.size -> X.fz b) : ∀ (fs : List Ty) {gs : List Field} {o n m : Nat} {cs : List Value}, qru P fs gs o n = true -> cs.length = n ->
  (∀ g ∈ gs, ∃ x, DataW.trod enc P W base sp held m g.type ((cs.drop g.offset).take (P.cellsOf g.type)) = some x) ->
  ∃ avs, vrs X W avs (cs.drop o) /\ q47 fs avs /\ ∀ u ∈ cs.drop o, u.oneCell' = true
 | [], gs, o, n, m, cs, ht, hn, h => by
  cases gs with
  | cons g gs => simp [qru] at ht
  | nil =>
   simp only [qru] at ht
   have : o = n := of_decide_eq_true ht
   have e : cs.drop o = [] := List.drop_eq_nil_of_le (by omega)
   rw [e]
   exact ⟨[], by simp [vrs], by simp only [q47], by simp⟩
 | f :: fs, gs, o, n, m, cs, ht, hn, h => by
  cases gs with
  | nil => simp [qru] at ht
  | cons g gs =>
   simp only [qru, Bool.and_eq_true] at ht
   obtain ⟨⟨h1, h2⟩, h3⟩ := ht
   have ho : g.offset = o := of_decide_eq_true h1
   obtain ⟨x, hx⟩ := h g (List.mem_cons_self ..)
   rw [ho] at hx
   obtain ⟨a, a1, a2, a3⟩ := qo6 hX f h2 hx
   obtain ⟨b, b1, b2, b3⟩ := que hX fs h3 hn fun g' hg' => h g' (List.mem_cons_of_mem _ hg')
   have e : cs.drop o = (cs.drop o).take (P.cellsOf g.type) ++ cs.drop (o + P.cellsOf g.type) := by
    rw [<- List.drop_drop]; exact (List.take_append_drop _ _).symm
   rw [e]
   refine ⟨a ++ b, qrv a1 b1, ?_, ?_⟩
   ·simp only [q47]; exact ⟨a, b, rfl, a2, b2⟩
   ·intro u hu
    rcases List.mem_append.1 hu with hu | hu
    ·exact a3 u hu
    ·exact b3 u hu
end
def qye : Ty -> AV -> Prop
 | .st fs, a => ∃ cells, a = .agg cells /\ q47 fs cells
 | .ar n e, a => ∃ cells, a = .agg cells /\ q7t (.ar n e) cells
 | ty, a => q7t ty [a]
def qkc : List Ty -> List AV -> Prop
 | [], as => as = []
 | t :: ts, as => ∃ a as', as = a :: as' /\ qye t a /\ qkc ts as'
def qn9 (P : Program) : List Ty -> List TypeId -> Bool
 | [], [] => true
 | ty :: tys, t :: ts => qp5 P ty t && qn9 P tys ts
 | _, _ => false
theorem quf {v : Value} {avs : List AV} {ty : Ty} (h : ∀ cs, v ≠ .agg cs) (h1 : vrs X W avs v.cells.toList) (h2 : q7t ty avs) : ∃ a, vr X W a v /\ q7t ty [a] := by
 have e : v.cells = #[v] := by
  cases v <;> first | rfl | exact absurd rfl (h _)
 rw [e] at h1
 match avs, h1 with
 | [a], h1 =>
  simp only [vrs] at h1
  obtain ⟨u, us', hu, h1, rfl⟩ := h1
  injection hu with hu; subst hu
  exact ⟨a, h1, h2⟩
 | [], h1 => simp [vrs] at h1
 | a :: b :: l, h1 =>
  simp only [vrs] at h1
  obtain ⟨u, us', hu, _, u2, us2, rfl, _⟩ := h1
  simp at hu
theorem z9w (hX : ∀ b, b < W.heap.size -> X.fz b) {ty : Ty} {t : TypeId} {v : Value} {d : DataW H} {ps : List MemPlace} {r : Reach} {b0 : Nat} (ht : qp5 P ty t = true) (hval : Value.okWide P W r b0 t v) (hd : DataW.Trod enc P W base sp held t v d ps) :
  ∃ a, vr X W a v /\ qye ty a := by
 obtain ⟨fuel, h⟩ := hd
 obtain ⟨avs, h1, h2, h3⟩ := qo6 hX ty ht h
 cases ty with
 | st fs =>
  simp only [qp5] at ht
  split at ht
  ·rename_i gs hu
   unfold Value.okWide at hval
   rw [hu] at hval
   obtain ⟨cs, rfl, _⟩ := hval
   exact ⟨.agg avs, by simp only [vr]; exact ⟨cs.toList, h1, h3, by simp⟩, avs, rfl, h2⟩
  ·cases ht
 | ar n e =>
  simp only [qp5] at ht
  split at ht
  ·rename_i m e' hu
   unfold Value.okWide at hval
   rw [hu] at hval
   obtain ⟨cs, rfl, _⟩ := hval
   exact ⟨.agg avs, by simp only [vr]; exact ⟨cs.toList, h1, h3, by simp⟩, avs, rfl, h2⟩
  ·cases ht
 | int k =>
  refine quf (fun cs e => ?_) h1 h2
  subst e
  simp only [qp5] at ht
  split at ht
  ·rename_i k' hu
   unfold Value.okWide Cell.okWide Cell.ok at hval
   rw [hu] at hval
   exact hval
  ·cases ht
 | bool =>
  refine quf (fun cs e => ?_) h1 h2
  subst e
  simp only [qp5] at ht
  split at ht
  ·rename_i hu
   unfold Value.okWide Cell.okWide Cell.ok at hval
   rw [hu] at hval
   exact hval
  ·cases ht
 | str =>
  refine quf (fun cs e => ?_) h1 h2
  subst e
  simp only [qp5] at ht
  split at ht
  ·rename_i hu
   unfold Value.okWide Cell.okWide Cell.ok at hval
   rw [hu] at hval
   exact hval
  ·cases ht
 | sl e =>
  refine quf (fun cs e => ?_) h1 h2
  subst e
  simp only [qp5] at ht
  split at ht
  ·rename_i e' hu
   unfold Value.okWide Cell.okWide Cell.ok at hval
   rw [hu] at hval
   exact hval
  ·cases ht
theorem qyf (hX : ∀ b, b < W.heap.size -> X.fz b) {r : Reach} {b0 : Nat} : ∀ {tys : List Ty} {ts : List TypeId} {vs : List Value} {ds : List (DataW H)} {ps : List MemPlace}, qn9 P tys ts = true ->
  (∀ (j : Nat) t v, ts[j]? = some t -> vs[j]? = some v -> Value.okWide P W r b0 t v) -> DataW.TrodAll enc P W base sp held ts vs ds ps -> ∃ as, vrs X W as vs /\ qkc tys as
 | [], [], vs, ds, ps, _, _, h => by
  obtain ⟨rfl, _, _⟩ := trodAll_nil h
  exact ⟨[], by simp [vrs], by simp only [qkc]⟩
 | ty :: tys, t :: ts, vs, ds, ps, ht, hv, h => by
  simp only [qn9, Bool.and_eq_true] at ht
  obtain ⟨v, vs', d, ds', p, q, rfl, rfl, rfl, hd, hrest⟩ := trodAll_cons h
  obtain ⟨a, h1, h2⟩ := z9w hX ht.1 (hv 0 t v rfl rfl) hd
  obtain ⟨as, h3, h4⟩ := qyf hX ht.2 (fun j t v h5 h6 => hv (j + 1) t v (by simpa using h5) (by simpa using h6)) hrest
  exact ⟨a :: as, by simp only [vrs]; exact ⟨v, vs', rfl, h1, h3⟩, by simp only [qkc]; exact ⟨a, as, rfl, h2, h4⟩⟩
 | [], _ :: _, _, _, _, ht, _, _ => by simp [qn9] at ht
 | _ :: _, [], _, _, _, ht, _, _ => by simp [qn9] at ht
theorem qg0 (hl : laidOutB P = true) {W' : World} (hb : Below W.heap.size W W') : ∀ {ts : List TypeId} {vs : List Value} {ds : List (DataW H)} {ps : List MemPlace}, (∀ t ∈ ts, P.readableRec t = true /\ t < P.types.size) ->
  DataW.TrodAll enc P W 0 (fun _ => true) true ts vs ds ps -> (∀ x ∈ ps, x.block < W.heap.size) -> DataW.TrodAll enc P W' 0 (fun b => decide (b < W.heap.size)) true ts vs ds ps
 | [], vs, ds, ps, _, h, _ => by
  obtain ⟨rfl, rfl, rfl⟩ := trodAll_nil h
  simp [DataW.TrodAll]
 | t :: ts, vs, ds, ps, hp, h, hx => by
  obtain ⟨v, vs', d, ds', p, q, rfl, rfl, rfl, hd, hrest⟩ := trodAll_cons h
  have h1 := hp t (List.mem_cons_self ..)
  exact ⟨p, q, Below.trod hl h1.1 h1.2 hd hb (fun x hm => hx x (List.mem_append_left _ hm)), qg0 hl hb (fun t ht => hp t (List.mem_cons_of_mem _ ht)) hrest (fun x hm => hx x (List.mem_append_right _ hm)), rfl⟩
def cx0 (W : World) : Cx := ⟨fun b => b < W.heap.size, fun _ => default, 0⟩
theorem zf3 (W : World) (hg : ∀ p ∈ Glob.gl, W.cell? ⟨p.1, 0, none⟩ = some p.2) : Rel (cx0 W) Tab.nil [] (fun _ => 0) W := by
 have hn : ∀ id, Tab.nil id = .unused := fun _ => rfl
 refine ⟨fun _ _ => rfl, fun b h => h, fun id z c h => ?_, fun id es h => ?_, fun id h => absurd (hn id) h, fun id id' h => absurd (hn id) h, fun l c h => ?_, fun l c h => ?_, fun l l' c c' h => ?_, fun l c h => ?_, fun p hp => ⟨qyc (hg p hp), hg p hp⟩⟩
 ·rw [hn] at h; cases h
 ·rw [hn] at h; cases h
 ·simp [q10] at h
 ·simp [q10] at h
 ·simp [q10] at h
 ·simp [q10] at h
theorem z9x {X' : Cx} {T' : Tab} {W' : World} (h : Step (cx0 W) Tab.nil W X' T' W') : Below W.heap.size W W' :=
 ⟨h.os, h.tape, h.output, h.size, fun k hk => h.kept k hk fun ⟨id, hid, _⟩ => hid rfl⟩
theorem z52 {f : FuncId} {fn : Func} {s : ChangeSpec} {tb : TypeId} {apart fresh : Bool} (tys : List Ty) (hty : qn9 P tys fn.params.toList = true) (hr : fn.resultTypes = #[tb]) (htb : P.underlying tb = some .bool) (hvars : s.vars = [])
  (hs : ∀ (ds : List (DataW H)), ds.length = fn.params.size -> s.fn H ds = { results := [.lit (.bool true)], args := ds }) (hl : laidOutB P = true) (hp : ∀ t ∈ fn.params.toList, P.readableRec t = true /\ t < P.types.size)
  (hcall : ∀ as, qkc tys as -> ACalls P f as Tab.nil (fun v T' => v = .b true /\ T' = Tab.nil)) (W : World) (hgl : ∀ p ∈ Glob.gl, W.cell? ⟨p.1, 0, none⟩ = some p.2) (base : Nat) (args : Array Value) (ds gs : List (DataW H)) (before : List MemPlace)
  (hval : ∀ (j : Nat) t v, fn.params[j]? = some t -> args[j]? = some v -> Value.okWide P W .any base t v) (hW : DataW.Whole enc P fn.params.toList s.vars apart W args.toList ds gs before) :
  Calls P f args W fun e W' => ∃ v, e = .returned v /\ s.post enc P fn apart fresh false false W args v W' := by
 have hlt : ∀ p ∈ before, p.block < W.heap.size := fun p hp => hW.lt p hp
 have hW' := hW
 obtain ⟨p, q, hA, hV, rfl, hfz, hnd⟩ := hW
 rw [hvars] at hV
 obtain ⟨rfl, rfl⟩ := trodVars_none hV
 obtain ⟨as, h1, h2⟩ := qyf (X := cx0 W) (fun b hb => hb) hty (fun j t v h3 h4 => hval j t v (by simpa using h3) (by simpa using h4)) hA
 have hc := hcall as h2 (cx0 W) _ W args.toList (zf3 W hgl) h1
 refine hc.mono fun e W' ⟨v, x, T', X', lam', he, ⟨hx, _⟩, hv, _, hst⟩ => ?_
 subst he; subst hx
 simp only [vr] at hv
 subst hv
 have hb := z9x hst
 have hlen : ds.length = fn.params.size := by
  have key : ∀ {ts : List TypeId} {vs : List Value} {ds : List (DataW H)} {ps : List MemPlace}, DataW.TrodAll enc P W 0 (fun _ => true) true ts vs ds ps -> ds.length = ts.length := by
   intro ts
   induction ts with
   | nil => intro vs ds ps h; obtain ⟨_, rfl, _⟩ := trodAll_nil h; rfl
   | cons t ts ih => intro vs ds ps h; obtain ⟨v, vs', d, ds', p, q, rfl, rfl, rfl, hd, hrest⟩ := trodAll_cons h; simp [ih hrest]
  simpa using key hA
 simp only [List.append_nil] at hlt
 have hs' := hs ds hlen
 refine ⟨_, rfl, ds, [], p ++ [], [], p, [], hW', ?_, ?_, ?_, hb.frame _, fun h => nomatch h⟩
 ·rw [List.append_nil, hs', hr]
  exact trodAll_mk1 (RowKit.shut_bool htb true)
 ·rw [List.append_nil, hs']
  exact qg0 hl hb hp hA hlt
 ·rw [hvars, List.append_nil, hs']
  rfl
end
end Go.Aw
namespace Go.Aw
open Go
variable [Glob]
set_option linter.all false
theorem qyg {k : IntKind} {b : AV} (h : qye (.int k) b) : ∃ n, b = .i k n /\ (Lit.int k n).wf = true := by
 simp only [qye, q7t] at h
 obtain ⟨n, hn, hw⟩ := h
 injection hn with hn
 exact ⟨n, hn, hw⟩
theorem z53 {k : IntKind} {n : Int} (h : (Lit.int k n).wf = true) : k.min <= n /\ n <= k.max := by
 simp [Lit.wf, IntKind.has] at h
 exact h
theorem q5j {n : Int} (h : (Lit.int .i64 n).wf = true) : I64 n := by
 have := z53 h
 simp [IntKind.min, IntKind.max, IntKind.signed, IntKind.bits] at this
 unfold I64
 omega
theorem z9y {n : Int} (h : (Lit.int .u16 n).wf = true) : 0 <= n /\ n < 65536 := by
 have := z53 h
 simp [IntKind.min, IntKind.max, IntKind.signed, IntKind.bits] at this
 omega
theorem qe9 {n : Int} (h : (Lit.int .u64 n).wf = true) : 0 <= n /\ n < 18446744073709551616 := by
 have := z53 h
 simp [IntKind.min, IntKind.max, IntKind.signed, IntKind.bits] at this
 omega
theorem qyh {α : Type} {e : Ty} {cells : α -> List AV} {ok : α -> Prop} (h : ∀ p, q7t e p -> ∃ x, p = cells x /\ ok x) : ∀ (ps : List (List AV)), (∀ p ∈ ps, q7t e p) -> ∃ l : List α, l.length = ps.length /\ ps.flatten = l.flatMap cells /\ ∀ x ∈ l, ok x
 | [], _ => ⟨[], rfl, rfl, by simp⟩
 | p :: ps, hp => by
  obtain ⟨l, h1, h2, h3⟩ := qyh h ps fun q hq => hp q (List.mem_cons_of_mem _ hq)
  obtain ⟨x, rfl, hx⟩ := h p (hp p (List.mem_cons_self ..))
  refine ⟨x :: l, by simp [h1], by simp [h2], ?_⟩
  intro y hy
  rcases List.mem_cons.1 hy with rfl | hy
  ·exact hx
  ·exact h3 y hy
theorem qax {α : Type} {e : Ty} {cells : α -> List AV} {ok : α -> Prop} (h : ∀ p, q7t e p -> ∃ x, p = cells x /\ ok x) {p : List AV} (hp : q7t (.sl e) p) :
  ∃ (l : List α) (k : Option Nat), p = [.fz l.length (l.flatMap cells) k] /\ Len l.length /\ ∀ x ∈ l, ok x := by
 simp only [q7t] at hp
 obtain ⟨ps, hps, hf, k, rfl⟩ := hp
 obtain ⟨l, h1, h2, h3⟩ := qyh h ps hf
 refine ⟨l, k, by rw [h1, h2], ?_, h3⟩
 unfold Len
 rw [h1]
 unfold maxLen at hps
 omega
theorem qyi {α : Type} {e : Ty} {cells : α -> List AV} {ok : α -> Prop} (h : ∀ p, q7t e p -> ∃ x, p = cells x /\ ok x) {a : AV} (ha : qye (.sl e) a) :
  ∃ (l : List α) (k : Option Nat), a = .fz l.length (l.flatMap cells) k /\ Len l.length /\ ∀ x ∈ l, ok x := by
 have ha' : q7t (.sl e) [a] := ha
 obtain ⟨l, k, h1, h2⟩ := qax h ha'
 injection h1 with h1
 exact ⟨l, k, h1, h2⟩
theorem cpn {P : Program} {f : FuncId} {avs : List AV} {r : AV} {K : Env -> Loc -> Tab -> Prop} {e : Env} {L : Loc} {d : Option Nat} {T : Tab} (h : PCalls P f avs r) (hk : K (q06 e d r) L T) : CallK P f avs T (aft K e L d []) := CallK.pure h (J1 hk)
theorem can {P : Program} {f : FuncId} {avs : List AV} {r : AV} {K : Env -> Loc -> Tab -> Prop} {e : Env} {L : Loc} {d : Option Nat} {T T1 : Tab} (h : ACalls P f avs T (fun v T' => v = r /\ T' = T1)) (hk : K (q06 e d r) L T1) : CallK P f avs T (aft K e L d []) := CallK.as h (J1 hk)
end Go.Aw
