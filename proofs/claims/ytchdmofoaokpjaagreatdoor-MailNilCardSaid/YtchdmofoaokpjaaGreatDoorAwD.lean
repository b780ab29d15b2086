import Derived.Test.YtchdmofoaokpjaaGreatDoorAwC
import Derived.IntWalk
import Derived.ProofKit
import Derived.OpenShut
namespace Go.Aw
open Go
set_option linter.all false
variable [Glob]
section
variable {P : Program} {R : I2} {K : Env -> Loc -> Tab -> Prop} {e : Env} {L : Loc} {T : Tab}
theorem z43 : AW P .skip R e L T = R .normal e L T := rfl
theorem z6s (l : List SOp) : AW P (.ops l) R e L T = qpf P l (R .normal) e L T := rfl
theorem z6t (a b : SC) : AW P (.seq a b) R e L T = AW P a (q9v (AW P b R) R) e L T := rfl
theorem z0t (id : Nat) (c : SC) : AW P (.block id c) R e L T = AW P c (qwl id R) e L T := rfl
theorem z44 (id : Nat) : AW P (.exit id) R e L T = R (.exit id) e L T := rfl
theorem z6u : AW P .ret R e L T = R .ret e L T := rfl
theorem z45 (ts ls : List Nat) : AW P (.keep ts ls) R e L T = R .normal (qc5 ts e) (qc5 ls L) T := rfl
theorem qpn : q9v K R .normal = K := rfl
theorem qvg (id : Nat) : q9v K R (.exit id) = R (.exit id) := rfl
theorem qxn : q9v K R .ret = R .ret := rfl
theorem qro (id : Nat) : qwl id R .normal = R .normal := rfl
theorem qxo (id id' : Nat) : qwl id R (.exit id') = if id' = id then R .normal else R (.exit id') := rfl
theorem z0u (id : Nat) : qwl id R .ret = R .ret := rfl
theorem qrp (rs : List SO) (Q : AV -> Tab -> Prop) : z6r rs Q .normal = z0d rs Q := rfl
theorem z0v (rs : List SO) (Q : AV -> Tab -> Prop) : z6r rs Q .ret = z0d rs Q := rfl
theorem z0w : qpf P [] K e L T = K e L T := rfl
theorem qxp (o : SOp) (l : List SOp) : qpf P (o :: l) K e L T = Y3 P o (qpf P l K) e L T := rfl
theorem qxq (d : Nat) (x : AV) : q06 e (some d) x = q8z e d x := rfl
theorem qxr (x : AV) : q06 e none x = e := rfl
variable {d : Option Nat} {rc : RC}
inductive Hold.{u} {α : Sort u} (a : α) : Type
 | mk
def vst (x : Option AV) {K : AV -> Prop} (_ : Hold K) : Prop :=
 match x with
 | some x => K x
 | none => False
def gzS (e : Env) (L : Loc) (T : Tab) {K : Env -> Loc -> Tab -> Prop} (_ : Hold K) : Prop := ∃ (S : List Nat) (T' : Tab) (E' : Env), S.Nodup /\ (∀ id ∈ S, T id ≠ .unused) /\ (∀ j, qu7 T S (T' j) (qfo T S j)) /\ z3y T S e E' /\ K E' L T'
theorem z6v : AW P .gfz R e L T = gzS e L T (Hold.mk (a := R .normal)) := rfl
theorem z0x (x : AV) (K : AV -> Prop) (h : Hold K) : vst (some x) h = K x := rfl
def br (x : Bool) {a b : Prop} (_ : Hold a) (_ : Hold b) : Prop := if x = true then a else b
theorem z46 (a b : Prop) (p : Hold a) (q : Hold b) : br true p q = a := rfl
theorem z0y (a b : Prop) (p : Hold a) (q : Hold b) : br false p q = b := rfl
theorem K0 {x : Bool} {a b : Prop} {p : Hold a} {q : Hold b} (ha : x = true -> a) (hb : x = false -> b) : br x p q := by
 cases x
 ·exact hb rfl
 ·exact ha rfl
def snl (neg : Bool) (x : Option AV) {K : AV -> Prop} (_ : Hold K) : Prop := qal neg x K
theorem z6w (neg : Bool) (id o n : Nat) (cap : Option Nat) (K : AV -> Prop) (h : Hold K) : snl neg (some (.sl id o n cap)) h = K (.b neg) := rfl
theorem qxs (neg : Bool) (n : Nat) (c : List AV) (cap : Option Nat) (K : AV -> Prop) (h : Hold K) : snl neg (some (.fz n c cap)) h = if 0 < n then K (.b neg) else ∀ b, K (.b b) := rfl
def brO (x : Option AV) {a b : Prop} (p : Hold a) (q : Hold b) : Prop :=
 match x with
 | some (.b x) => br x p q
 | _ => False
theorem zau (x : Bool) (a b : Prop) (p : Hold a) (q : Hold b) : brO (some (.b x)) p q = br x p q := rfl
def gsO (x : Option AV) {a b : Prop} (p : Hold a) (q : Hold b) : Prop :=
 match x with
 | some (.b x) => br x p q
 | some (.tup []) => b
 | _ => False
theorem zav (x : Bool) (a b : Prop) (p : Hold a) (q : Hold b) : gsO (some (.b x)) p q = br x p q := rfl
theorem zaw (a b : Prop) (p : Hold a) (q : Hold b) : gsO (some (.tup [])) p q = b := rfl
def gsN (x : Option AV) {a b : Prop} (p : Hold a) (q : Hold b) : Prop :=
 match x with
 | some (.b x) => br x q p
 | some (.tup []) => b
 | _ => False
theorem zax (x : Bool) (a b : Prop) (p : Hold a) (q : Hold b) : gsN (some (.b x)) p q = br x q p := rfl
theorem zay (a b : Prop) (p : Hold a) (q : Hold b) : gsN (some (.tup [])) p q = b := rfl
def vs2 (x : Option (Env × Loc)) {K : Env -> Loc -> Prop} (_ : Hold K) : Prop :=
 match x with
 | some (e, l) => K e l
 | none => False
theorem z0z (e : Env) (l : Loc) (K : Env -> Loc -> Prop) (h : Hold K) : vs2 (some (e, l)) h = K e l := rfl
def gst (e : Env) (k : Nat) (want : Bool) {y n : Prop} (p : Hold y) (q : Hold n) : Prop :=
 match q19 e k with
 | some (.b x) => if want then br x p q else br x q p
 | some (.tup []) => n
 | _ => False
theorem zea (x) : Y3 P ⟨d, .mv x, none, rc⟩ K e L T = vst (Z6 e x) (Hold.mk (a := fun v => K (q06 e d v) L T)) := rfl
theorem z6x (c x y) : Y3 P ⟨d, .pick c x y, none, rc⟩ K e L T = vst ((Z6 e c).bind fun c => qpe c (Z6 e x) (Z6 e y)) (Hold.mk (a := fun v => K (q06 e d v) L T)) := rfl
theorem zaz (o x y) : Y3 P ⟨d, .bin o x y, none, rc⟩ K e L T = vst ((Z6 e x).bind fun x => (Z6 e y).bind fun y => qra o x y) (Hold.mk (a := fun v => K (q06 e d v) L T)) := rfl
theorem zeb (o k x y) : Y3 P ⟨d, .eq o k x y, none, rc⟩ K e L T = vst ((Z6 e x).bind fun x => (Z6 e y).bind fun y => (qmm k x y).map fun r => .b (if o then !r else r)) (Hold.mk (a := fun v => K (q06 e d v) L T)) := rfl
theorem z6y (neg x) : Y3 P ⟨d, .snil neg x, none, rc⟩ K e L T = snl neg (Z6 e x) (Hold.mk (a := fun v => K (q06 e d v) L T)) := rfl
theorem zec (o x) : Y3 P ⟨d, .un o x, none, rc⟩ K e L T = vst ((Z6 e x).bind (z6h o)) (Hold.mk (a := fun v => K (q06 e d v) L T)) := rfl
theorem zb0 (k x) : Y3 P ⟨d, .cvi k x, none, rc⟩ K e L T = vst ((Z6 e x).bind (qms k)) (Hold.mk (a := fun v => K (q06 e d v) L T)) := rfl
theorem zb1 (x) : Y3 P ⟨d, .b2s x, none, rc⟩ K e L T = vst ((Z6 e x).bind fun x => (Z3 T 1 x).bind fun c => match x with
   | .s _ => none
   | _ => (q7m c).map .s) (Hold.mk (a := fun v => K (q06 e d v) L T)) := rfl
theorem zb2 (x) : Y3 P ⟨d, .s2b x, none, rc⟩ K e L T = vst ((Z6 e x).bind fun x => match x with
  | .s l => some (.fz l.length (N5 l) none)
  | _ => none) (Hold.mk (a := fun v => K (q06 e d v) L T)) := rfl
theorem zb3 (x) : Y3 P ⟨d, .cvs x, none, rc⟩ K e L T = vst ((Z6 e x).bind fun x => match x with
   | .s l => some (.s l)
   | _ => none) (Hold.mk (a := fun v => K (q06 e d v) L T)) := rfl
theorem zb4 (t x) : Y3 P ⟨d, .ifc t x, none, rc⟩ K e L T = vst ((Z6 e x).map (.ifc t)) (Hold.mk (a := fun v => K (q06 e d v) L T)) := rfl
theorem z6z (f a c) : Y3 P ⟨d, .mkfn f a c, none, rc⟩ K e L T = vst ((q89 e a).bind fun a => (q89 e c).map fun b => .fn f a b) (Hold.mk (a := fun v => K (q06 e d v) L T)) := rfl
theorem zb5 (z x lo hi mx) : Y3 P ⟨d, .slc z x lo hi mx, none, rc⟩ K e L T = vst ((Z6 e x).bind fun x => (q55 e lo).bind fun lo => (q55 e hi).bind fun hi => (q55 e mx).bind fun mx => qre z T lo hi mx x) (Hold.mk (a := fun v => K (q06 e d v) L T)) := rfl
theorem z70 (x lo hi) : Y3 P ⟨d, .slcs x lo hi, none, rc⟩ K e L T = vst ((Z6 e x).bind fun x => (q55 e lo).bind fun lo => (q55 e hi).bind fun hi => qjp lo hi x) (Hold.mk (a := fun v => K (q06 e d v) L T)) := rfl
theorem z71 (l o x) : Y3 P ⟨d, .fadr l o x, none, rc⟩ K e L T = vst ((qiw e l x).bind (qjn o)) (Hold.mk (a := fun v => K (q06 e d v) L T)) := rfl
theorem zb6 (o z x) : Y3 P ⟨d, .fld o z x, none, rc⟩ K e L T = vst ((Z6 e x).bind (quz o z)) (Hold.mk (a := fun v => K (q06 e d v) L T)) := rfl
theorem z72 (l z a x i) : Y3 P ⟨d, .iadr l z a x i, none, rc⟩ K e L T = vst ((qiw e l x).bind fun x => (Z6 e i).bind fun i => qjo z a i x) (Hold.mk (a := fun v => K (q06 e d v) L T)) := rfl
theorem z73 (x i) : Y3 P ⟨d, .idxs x i, none, rc⟩ K e L T = vst ((Z6 e x).bind fun x => (Z6 e i).bind fun i => qmo i x) (Hold.mk (a := fun v => K (q06 e d v) L T)) := rfl
theorem zb7 (i x) : Y3 P ⟨d, .ext i x, none, rc⟩ K e L T = vst ((Z6 e x).bind (qv0 i)) (Hold.mk (a := fun v => K (q06 e d v) L T)) := rfl
theorem zb8 (s x) : Y3 P ⟨d, .len s x, none, rc⟩ K e L T = vst ((Z6 e x).bind (qiv s)) (Hold.mk (a := fun v => K (q06 e d v) L T)) := rfl
theorem z74 (z l n x i) : Y3 P ⟨d, .idxa z l n x i, none, rc⟩ K e L T = vst ((Z6 e x).bind fun x => (Z6 e i).bind fun i => qv1 z l n i x) (Hold.mk (a := fun v => K (q06 e d v) L T)) := rfl
theorem zb9 (x) : Y3 P ⟨d, .cap x, none, rc⟩ K e L T = vst ((Z6 e x).bind qv2) (Hold.mk (a := fun v => K (q06 e d v) L T)) := rfl
theorem zba : Y3 P ⟨d, .bad, none, rc⟩ K e L T = False := rfl
def mkS (z b : Nat) (zero : List AV) (x y : Option AV) (T : Tab) {k : AV -> Tab -> Prop} (_ : Hold k) : Prop :=
 match x, y with
 | some (.i _ j), some (.i _ q) => 0 <= j /\ j <= q /\ q.toNat * b <= 140737488355328 /\ q <= 9223372036854775807 /\ ∀ id, T id = .unused -> k (.sl id 0 j.toNat none) (T.put id (.row z (rep zero q.toNat)))
 | _, _ => False
theorem zbb (m x y) : Y3 P ⟨d, .mnx m x y, none, rc⟩ K e L T = vst ((Z6 e x).bind fun x => (Z6 e y).bind fun y => qww m x y) (Hold.mk (a := fun v => K (q06 e d v) L T)) := rfl
theorem z47 (l x) : Y3 P ⟨d, .nilck l x, none, rc⟩ K e L T = vst ((qiw e l x).bind qh3) (Hold.mk (a := fun v => K (q06 e d v) L T)) := rfl
theorem zbc (z ps) : Y3 P ⟨d, .bld z ps, none, rc⟩ K e L T = vst ((q90 e z ps).map .agg) (Hold.mk (a := fun v => K (q06 e d v) L T)) := rfl
theorem zbd (n q z ps) : Y3 P ⟨d, .bsl n q z ps, none, rc⟩ K e L T = vst ((q90 e z ps).map fun cells => .fz n cells (some n)) (Hold.mk (a := fun v => K (q06 e d v) L T)) := rfl
theorem zed (z x) : Y3 P ⟨d, .ld z x, none, rc⟩ K e L T = vst ((Z6 e x).bind (z6i z T)) (Hold.mk (a := fun v => K (q06 e d v) L T)) := rfl
theorem zbe (l z x) : Y3 P ⟨d, .lld l z x, none, rc⟩ K e L T = vst ((qiw e (some l) x).bind (qrd l z L)) (Hold.mk (a := fun v => K (q06 e d v) L T)) := rfl
theorem z75 (x) : Y3 P ⟨d, .fbox x, none, rc⟩ K e L T = vst ((Z6 e x).bind fun v => if v.sto = true then some (.fptr v.cells) else none) (Hold.mk (a := fun v => K (q06 e d v) L T)) := rfl
theorem zbf (l z x v) : Y3 P ⟨d, .lst l z x v, none, rc⟩ K e L T = vs2 ((qiw e (some l) x).bind fun p => (Z6 e v).bind fun y => match p with
  | .lp _ o => (q19 L l).bind fun cells => if y.sto = true /\ y.cells.length = z /\ o + z <= cells.length then some (q06 e d (.tup []), q8z L l (q0a cells o y.cells)) else none
  | _ => none) (Hold.mk (a := fun e l => K e l T)) := rfl
theorem z10 (k : Nat) (z) : Y3 P ⟨some k, .lalloc z, none, rc⟩ K e L T = K (q8z (q1s e k) k (.lp k 0)) (q8z L k z) T := rfl
theorem z76 (k : Nat) (x) : Y3 P ⟨some k, .lbox x, none, rc⟩ K e L T = vs2 ((Z6 e x).bind fun v => if v.sto = true then some (q8z (q1s e k) k (.lp k 0), q8z L k v.cells) else none) (Hold.mk (a := fun e l => K e l T)) := rfl
def CallK (P : Program) (f : FuncId) (avs : List AV) (T : Tab) (k : AV -> Tab -> Prop) : Prop :=
 ∃ S R, S.Nodup /\ (∀ id ∈ S, T id ≠ .unused) /\ ACalls P f (avs.map (qah T S)) (qfo T S) R /\ ∀ v T', R v T' -> k v T'
def aft (K : Env -> Loc -> Tab -> Prop) (e : Env) (L : Loc) (d : Option Nat) (rc : RC) : AV -> Tab -> Prop := fun v T' => v.isLp = false -> I4 (q06 e d v) L T' rc /\ K (q06 e d v) L T'
def zbg (P : Program) (f : FuncId) (avs : Option (List AV)) (T : Tab) {k : AV -> Tab -> Prop} (_ : Hold k) : Prop :=
 match avs with
 | some avs => CallK P f avs T k
 | none => False
theorem qxt (f : FuncId) (avs : List AV) (k : AV -> Tab -> Prop) (h : Hold k) : zbg P f (some avs) T h = CallK P f avs T k := rfl
def zao (P : Program) (x : Option AV) (avs : Option (List AV)) (T : Tab) {k : AV -> Tab -> Prop} (_ : Hold k) : Prop :=
 match x, avs with
 | some (.fn (.func f) first cap), some avs => K4 P f = true /\ CallK P f (first ++ avs ++ cap) T k
 | _, _ => False
theorem qc7 (f : FuncId) (first cap avs : List AV) (k : AV -> Tab -> Prop) (h : Hold k) (hc : K4 P f = true) : zao P (some (.fn (.func f) first cap)) (some avs) T h = CallK P f (first ++ avs ++ cap) T k := by
 simp [zao, hc]
theorem J0 (f args) (hc : K4 P f = true) : Y3 P ⟨d, .call f args, none, rc⟩ K e L T = zbg P f (q89 e args) T (Hold.mk (a := aft K e L d rc)) := by
 have : Y3 P ⟨d, .call f args, none, rc⟩ K e L T = (K4 P f = true /\ match q89 e args with
  | some avs => CallK P f avs T (aft K e L d rc)
  | none => False) := rfl
 rw [this]; simp only [hc, true_and]; rfl
theorem z48 (x args) : Y3 P ⟨d, .callv x args, none, rc⟩ K e L T = zao P (Z6 e x) (q89 e args) T (Hold.mk (a := aft K e L d rc)) := rfl
theorem z11 (z c) : Y3 P ⟨d, .halloc z c, none, rc⟩ K e L T = ∀ id, T id = .unused -> aft K e L d rc (.ptr id 0) (T.put id (.row z c)) := rfl
def hbS (z : Nat) (x : Option AV) (T : Tab) {k : AV -> Tab -> Prop} (_ : Hold k) : Prop :=
 match x with
 | some v => v.sto = true /\ ∀ id, T id = .unused -> k (.ptr id 0) (T.put id (.row z v.cells))
 | none => False
theorem z12 (z : Nat) (v : AV) (k : AV -> Tab -> Prop) (h : Hold k) (hv : v.sto = true) : hbS z (some v) T h = ∀ id, T id = .unused -> k (.ptr id 0) (T.put id (.row z v.cells)) := by simp [hbS, hv]
theorem z77 (z x) : Y3 P ⟨d, .hbox z x, none, rc⟩ K e L T = hbS z (Z6 e x) T (Hold.mk (a := aft K e L d rc)) := rfl
def stS (z : Nat) (x y : Option AV) (T : Tab) {k : AV -> Tab -> Prop} (_ : Hold k) : Prop :=
 match x, y with
 | some (.ptr id o), some y => match T id with
  | .row q cells => y.sto = true /\ y.cells.length = z /\ o + z <= cells.length /\ k (.tup []) (T.put id (.row q (q0a cells o y.cells)))
  | _ => False
 | _, _ => False
theorem q16 {z id o q : Nat} {y : AV} {cells : List AV} {k : AV -> Tab -> Prop} {h : Hold k} (hT : T id = .row q cells) (h1 : y.sto = true) (h2 : y.cells.length = z) (h3 : o + z <= cells.length)
  (hk : k (.tup []) (T.put id (.row q (q0a cells o y.cells)))) : stS z (some (.ptr id o)) (some y) T h := by
 unfold stS; simp only [hT]; exact ⟨h1, h2, h3, hk⟩
theorem zee (z x v) : Y3 P ⟨d, .st z x v, none, rc⟩ K e L T = stS z (Z6 e x) (Z6 e v) T (Hold.mk (a := aft K e L d rc)) := rfl
def apS (z b : Nat) (x y : Option AV) (T : Tab) {k : AV -> Tab -> Prop} (_ : Hold k) : Prop :=
 match x, y with
 | some x, some y => q1i z b T x y k
 | _, _ => False
theorem z13 (z b : Nat) (x y : AV) (k : AV -> Tab -> Prop) (h : Hold k) : apS z b (some x) (some y) T h = q1i z b T x y k := rfl
theorem zbh (z b x y) : Y3 P ⟨d, .app z b x y, none, rc⟩ K e L T = apS z b (Z6 e x) (Z6 e y) T (Hold.mk (a := aft K e L d rc)) := rfl
def clS (z : Nat) (zero : List AV) (x : Option AV) (T : Tab) {k : AV -> Tab -> Prop} (_ : Hold k) : Prop :=
 match x with
 | some (.fz 0 _ _) => k (.tup []) T
 | some (.sl id o n _) => match T id with
  | .row q cells => q = z /\ zero.length = z /\ o + n * z <= cells.length /\ k (.tup []) (T.put id (.row q (q0a cells o (rep zero n))))
  | _ => False
 | _ => False
theorem zbi (z zero x) : Y3 P ⟨d, .clr z zero x, none, rc⟩ K e L T = clS z zero (Z6 e x) T (Hold.mk (a := aft K e L d rc)) := rfl
def ze0 (n z : Nat) (x : Option (List AV)) (T : Tab) {k : AV -> Tab -> Prop} (_ : Hold k) : Prop :=
 match x with
 | some cells => ∀ id, T id = .unused -> k (.sl id 0 n (some n)) (T.put id (.row z cells))
 | none => False
theorem qxu (n z : Nat) (cells : List AV) (k : AV -> Tab -> Prop) (h : Hold k) : ze0 n z (some cells) T h = ∀ id, T id = .unused -> k (.sl id 0 n (some n)) (T.put id (.row z cells)) := rfl
theorem zbj (n z zero ps) : Y3 P ⟨d, .hbs n z zero ps, none, rc⟩ K e L T = ze0 n z (q90 e zero ps) T (Hold.mk (a := aft K e L d rc)) := rfl
def zef (x : Option AV) (T : Tab) {k : AV -> Tab -> Prop} (_ : Hold k) : Prop :=
 match x with
 | some (.sl id o n cap) => match T id with
  | .row z cells => z = 1 /\ o + n <= cells.length /\ k (.fz n ((cells.drop o).take n) cap) (T.put id .unused)
  | _ => False
 | _ => False
theorem zbk (x) : Y3 P ⟨d, .cvm x, none, rc⟩ K e L T = zef (Z6 e x) T (Hold.mk (a := aft K e L d rc)) := rfl
def ze1 (z b : Nat) (zero : List AV) (x y : Option AV) (T : Tab) {k : AV -> Tab -> Prop} (_ : Hold k) : Prop :=
 match x, y with
 | some (.fz 0 [] (some 0)), some (.i _ q) => 0 < q /\ q.toNat * b <= 140737488355328 /\ q <= 9223372036854775807 /\ ∀ id, T id = .unused -> k (.sl id 0 q.toNat none) (T.put id (.row z (rep zero q.toNat)))
 | _, _ => False
theorem z49 {z b : Nat} {zero : List AV} {k2 : IntKind} {q : Int} {k : AV -> Tab -> Prop} {h : Hold k} (h2 : 0 < q) (h3 : q.toNat * b <= 140737488355328) (h4 : q <= 9223372036854775807)
  (hk : ∀ id, T id = .unused -> k (.sl id 0 q.toNat none) (T.put id (.row z (rep zero q.toNat)))) : ze1 z b zero (some (.fz 0 [] (some 0))) (some (.i k2 q)) T h := ⟨h2, h3, h4, hk⟩
theorem zbl (z b zero x y) : Y3 P ⟨d, .apz z b zero x y, none, rc⟩ K e L T = ze1 z b zero (Z6 e x) (Z6 e y) T (Hold.mk (a := aft K e L d rc)) := rfl
theorem zbm : Y3 P ⟨d, .mkm, none, rc⟩ K e L T = ∀ id, T id = .unused -> aft K e L d rc (.mp id) (T.put id (.mapo [])) := rfl
def z78 (m : MK) (ok : Bool) (zero : AV) (x y : Option AV) (T : Tab) {k : AV -> Tab -> Prop} (_ : Hold k) : Prop :=
 match x, y with
 | some (.mp id), some kv => match T id with
  | .mapo es => q1j m kv = true /\ match qlu m kv es with
   | some (some v) => k (if ok then .tup [v, .b true] else v) T
   | some none => k (if ok then .tup [zero, .b false] else zero) T
   | none => False
  | _ => False
 | _, _ => False
theorem qny {m : MK} {ok : Bool} {zero kv v : AV} {id : Nat} {es : List (AV × AV)} {k : AV -> Tab -> Prop} {h : Hold k} (hT : T id = .mapo es) (h1 : q1j m kv = true) (h2 : qlu m kv es = some (some v))
  (hk : k (if ok then .tup [v, .b true] else v) T) : z78 m ok zero (some (.mp id)) (some kv) T h := by
 unfold z78; simp only [hT, h2]; exact ⟨h1, hk⟩
theorem z14 {m : MK} {ok : Bool} {zero kv : AV} {id : Nat} {es : List (AV × AV)} {k : AV -> Tab -> Prop} {h : Hold k} (hT : T id = .mapo es) (h1 : q1j m kv = true) (h2 : qlu m kv es = some none)
  (hk : k (if ok then .tup [zero, .b false] else zero) T) : z78 m ok zero (some (.mp id)) (some kv) T h := by
 unfold z78; simp only [hT, h2]; exact ⟨h1, hk⟩
theorem zbn (m ok zero x y) : Y3 P ⟨d, .lku m ok zero x y, none, rc⟩ K e L T = z78 m ok zero (Z6 e x) (Z6 e y) T (Hold.mk (a := aft K e L d rc)) := rfl
def zbo (m : MK) (x y z : Option AV) (T : Tab) {k : AV -> Tab -> Prop} (_ : Hold k) : Prop :=
 match x, y, z with
 | some (.mp id), some kv, some y => match T id with
  | .mapo es => q1j m kv = true /\ (qlu m kv es).isSome = true /\ k (.tup []) (T.put id (.mapo (qnj kv y es)))
  | _ => False
 | _, _, _ => False
theorem qxv {m : MK} {kv y : AV} {id : Nat} {es : List (AV × AV)} {k : AV -> Tab -> Prop} {h : Hold k} (hT : T id = .mapo es) (h1 : q1j m kv = true) (h2 : (qlu m kv es).isSome = true)
  (hk : k (.tup []) (T.put id (.mapo (qnj kv y es)))) : zbo m (some (.mp id)) (some kv) (some y) T h := by
 unfold zbo; simp only [hT]; exact ⟨h1, h2, hk⟩
theorem zbp (m x y z) : Y3 P ⟨d, .mup m x y z, none, rc⟩ K e L T = zbo m (Z6 e x) (Z6 e y) (Z6 e z) T (Hold.mk (a := aft K e L d rc)) := rfl
theorem z79 (z b zero x y) : Y3 P ⟨d, .mksl z b zero x y, none, rc⟩ K e L T = mkS z b zero (Z6 e x) (Z6 e y) T (Hold.mk (a := aft K e L d rc)) := rfl
theorem J1 {v : AV} {T' : Tab} (h : K (q06 e d v) L T') : aft K e L d [] v T' := fun _ => ⟨trivial, h⟩
theorem z37 (k : Nat) (want : Bool) {y n : Prop} (p : Hold y) (q : Hold n) : gst e k want p q = gdd e (some (k, want)) y n False := by
 unfold gst gdd
 simp only
 rcases q19 e k with _ | x
 ·rfl
 ·cases x with
  | b x => cases x <;> cases want <;> rfl
  | tup l => cases l <;> rfl
  | _ => rfl
theorem zeg (o : SO) (k : Nat) (want : Bool) : Y3 P ⟨d, o, some (k, want), []⟩ K e L T = gst e k want (Hold.mk (a := Y3 P ⟨d, o, none, []⟩ K e L T)) (Hold.mk (a := K (q06 e d (.tup [])) L T)) := by
 rw [z37]
 have hm0 : ∀ {α : Type} (f : α -> Prop) (y n z : α), f (gdd e (some (k, want)) y n z) = gdd e (some (k, want)) (f y) (f n) (f z) := fun f y n z => by
  unfold gdd
  simp only
  split <;> (try split) <;> rfl
 cases hk : o.kind with
 | val =>
  have e1 : ∀ gd, Y3 P ⟨d, o, gd, []⟩ K e L T = vst (qby o gd e L T) (Hold.mk (a := fun v => K (q06 e d v) L T)) := fun gd => by unfold Y3; simp only [hk]; rfl
  rw [e1, e1]
  exact hm0 (fun x => vst x (Hold.mk (a := fun v => K (q06 e d v) L T))) _ _ _
 | snil => unfold Y3; simp only [hk]; rfl
 | leff =>
  have e1 : ∀ gd, Y3 P ⟨d, o, gd, []⟩ K e L T = (fun x : Option (Env × Loc) => match x with | some (e, l) => K e l T | none => False) (gdd e gd (lev o d e L) (some (q06 e d (.tup []), L)) none) := fun gd => by unfold Y3; simp only [hk]; rfl
  rw [e1, e1]
  exact hm0 (fun x : Option (Env × Loc) => match x with | some (e, l) => K e l T | none => False) _ _ _
 | teff => unfold Y3; simp only [hk, I4, true_and]; rfl
theorem z7a (o : SO) (ho : o.kind = .teff) (k : Nat) (want : Bool) : Y3 P ⟨d, o, some (k, want), rc⟩ K e L T = gdd e (some (k, want)) (Y3 P ⟨d, o, none, rc⟩ K e L T) (I4 (q06 e d (.tup [])) L T rc /\ K (q06 e d (.tup [])) L T) False := by
 unfold Y3
 simp only [ho, gdd]
theorem Q3 {l c : SC} (hl : l = .loop c) (hR : ExtR R) (h : AW P c (q9v (AW P l R) R) e L T) : AW P l R e L T := by
 subst hl; exact V1 hR h
theorem qnz (x : AV) : qah T [] x = x := by
 have h1 : ∀ y, qd6 T [] y = y := fun y => by cases y <;> simp [qd6]
 have : (qd6 T []) = id := funext h1
 cases x <;> simp [qah, h1, this]
theorem qdc (x : AV) : qlw T [] x = x := by
 have : (qah T []) = id := funext qnz
 cases x <;> simp [qlw, qnz, this]
theorem CallK.of {f : FuncId} {avs : List AV} {k : AV -> Tab -> Prop} {Q : AV -> Tab -> Prop} (h : ACalls P f avs T Q) (hk : ∀ v T', Q v T' -> k v T') : CallK P f avs T k := by
 have : (qah T []) = id := funext qnz
 refine ⟨[], Q, List.nodup_nil, by simp, ?_, hk⟩
 rw [this, List.map_id]
 exact h
theorem CallK.pure {f : FuncId} {avs : List AV} {k : AV -> Tab -> Prop} {r : AV} (h : PCalls P f avs r) (hk : k r T) : CallK P f avs T k :=
 .of (h T) fun v T' h => by rw [h.1, h.2]; exact hk
theorem K5 (hm : P.follows .mixedOrders = true) {f : FuncId} {n : Nat} {sc : SC} {rs : List SO} (ht : FnTxt P f n sc rs) {args : List AV} {r : AV} (hl : args.length <= n)
  (h : ∀ T, AW P sc (z6r rs fun v T' => v = r /\ T' = T) (z36 0 args) [] T) : PCalls P f args r := fun T => U7 hm ht hl (h T)
theorem Wk.refl (x : AV) : Wk x x := fun _ _ _ h => h
theorem Wk.trans {x y z : AV} (h : Wk x y) (k : Wk y z) : Wk x z := fun X w v hv => k X w v (h X w v hv)
theorem Wk.fz {n : Nat} {cells : List AV} {cap : Option Nat} : Wk (.fz n cells cap) (.fz n cells none) := fun X w v h => by
 simp only [vr] at h ⊢
 obtain ⟨us, h1, h2⟩ := h
 refine ⟨us, h1, ?_⟩
 rcases h2 with ⟨a, b, c, _⟩ | ⟨a, c, h3, h4, h5, _, h6⟩
 ·exact .inl ⟨a, b, c, fun k hk => by cases hk⟩
 ·exact .inr ⟨a, c, h3, h4, h5, (fun k hk => by cases hk), h6⟩
def Wks : List AV -> List AV -> Prop
 | [], [] => True
 | x :: l, y :: m => Wk x y /\ Wks l m
 | _, _ => False
theorem Wks.vrs {X : Cx} {w : World} : ∀ {l m : List AV}, Wks l m -> ∀ {us}, Aw.vrs X w l us -> Aw.vrs X w m us
 | [], [], _, us, h => h
 | x :: l, y :: m, h, us, hv => by
  simp only [Aw.vrs] at hv ⊢
  obtain ⟨u, us', rfl, h2, h3⟩ := hv
  exact ⟨u, us', rfl, h.1 _ _ _ h2, Wks.vrs h.2 h3⟩
 | [], _ :: _, h, _, _ => h.elim
 | _ :: _, [], h, _, _ => h.elim
theorem Wks.refl : ∀ l, Wks l l
 | [] => trivial
 | x :: l => ⟨.refl x, Wks.refl l⟩
theorem Wk.agg {l m : List AV} (h : Wks l m) : Wk (.agg l) (.agg m) := fun X w v hv => by
 simp only [vr] at hv ⊢
 obtain ⟨us, h1, h2⟩ := hv
 exact ⟨us, h.vrs h1, h2⟩
theorem Wk.tup {l m : List AV} (h : Wks l m) : Wk (.tup l) (.tup m) := fun X w v hv => by
 simp only [vr] at hv ⊢
 obtain ⟨us, h1, h2⟩ := hv
 exact ⟨us, h.vrs h1, h2⟩
theorem z4a (rs : List SO) (Q : AV -> Tab -> Prop) : z0d rs Q e L T = fin (qbf rs e L T) Q T := rfl
theorem z15 (l : List AV) (Q : AV -> Tab -> Prop) : fin (some l) Q T = qn0 (qnw l) Q T := rfl
theorem qxw (x : AV) : qnw [x] = x := rfl
theorem qxx : qnw [] = .tup [] := rfl
theorem qxy (x y : AV) (l : List AV) : qnw (x :: y :: l) = .tup (x :: y :: l) := rfl
theorem J9 {r r' : AV} (hr : r' = r) : qn0 r' (fun v T' => v = r /\ T' = T) T :=
 ⟨[], T, r, List.nodup_nil, by simp, fun _ => .inr (.inl rfl), by rw [qdc, hr]; exact .refl r, rfl, rfl⟩
theorem Y8 {r : AV} {Q : AV -> Tab -> Prop} (T' : Tab) (hT : ∀ id, SlotLe (T' id) (T id)) (hQ : Q r T') : qn0 r Q T :=
 ⟨[], T', r, List.nodup_nil, by simp, hT, by rw [qdc]; exact .refl r, hQ⟩
theorem z4b (c : Operand) (a b : SC) : AW P (.cond c a b) R e L T = brO (Z6 e c) (Hold.mk (a := AW P a R e L T)) (Hold.mk (a := AW P b R e L T)) := rfl
theorem zbq (k : Nat) (y n : Prop) (p : Hold y) (q : Hold n) : gst e k true p q = gsO (q19 e k) p q := rfl
theorem zbr (k : Nat) (y n : Prop) (p : Hold y) (q : Hold n) : gst e k false p q = gsN (q19 e k) p q := rfl
end
theorem zeh {x : Bool} : AV.plain (.b x) = true := rfl
theorem zbs {x : Bool} : AV.isLp (.b x) = false := rfl
theorem zbt {x : Bool} : AV.isOne (.b x) = true := rfl
theorem zbu {x : Bool} : AV.sto (.b x) = true := rfl
theorem zbv {x : Bool} : AV.cells (.b x) = [(.b x)] := rfl
theorem zbw {x : Bool} (j : Nat) : AV.offLp j (.b x) = (.b x) := rfl
theorem zei {k : IntKind} {n : Int} : AV.plain (.i k n) = true := rfl
theorem zbx {k : IntKind} {n : Int} : AV.isLp (.i k n) = false := rfl
theorem zby {k : IntKind} {n : Int} : AV.isOne (.i k n) = true := rfl
theorem zbz {k : IntKind} {n : Int} : AV.sto (.i k n) = true := rfl
theorem zc0 {k : IntKind} {n : Int} : AV.cells (.i k n) = [(.i k n)] := rfl
theorem zc1 {k : IntKind} {n : Int} (j : Nat) : AV.offLp j (.i k n) = (.i k n) := rfl
theorem zej {l : List UInt8} : AV.plain (.s l) = true := rfl
theorem zc2 {l : List UInt8} : AV.isLp (.s l) = false := rfl
theorem zc3 {l : List UInt8} : AV.isOne (.s l) = true := rfl
theorem zc4 {l : List UInt8} : AV.sto (.s l) = true := rfl
theorem zc5 {l : List UInt8} : AV.cells (.s l) = [(.s l)] := rfl
theorem zc6 {l : List UInt8} (j : Nat) : AV.offLp j (.s l) = (.s l) := rfl
theorem zc7  : AV.plain .nilptr = true := rfl
theorem z7b  : AV.isLp .nilptr = false := rfl
theorem z7c  : AV.isOne .nilptr = true := rfl
theorem z7d  : AV.sto .nilptr = true := rfl
theorem z7e  : AV.cells .nilptr = [.nilptr] := rfl
theorem z7f  (j : Nat) : AV.offLp j .nilptr = .nilptr := rfl
theorem z7g {id o : Nat} : AV.plain (.ptr id o) = true := rfl
theorem z4c {id o : Nat} : AV.isLp (.ptr id o) = false := rfl
theorem z4d {id o : Nat} : AV.isOne (.ptr id o) = true := rfl
theorem z4e {id o : Nat} : AV.sto (.ptr id o) = true := rfl
theorem z4f {id o : Nat} : AV.cells (.ptr id o) = [(.ptr id o)] := rfl
theorem z4g {id o : Nat} (j : Nat) : AV.offLp j (.ptr id o) = (.ptr id o) := rfl
theorem zc8 {c : List AV} : AV.plain (.fptr c) = true := rfl
theorem z7h {c : List AV} : AV.isLp (.fptr c) = false := rfl
theorem z7i {c : List AV} : AV.isOne (.fptr c) = true := rfl
theorem z7j {c : List AV} : AV.sto (.fptr c) = true := rfl
theorem z7k {c : List AV} : AV.cells (.fptr c) = [(.fptr c)] := rfl
theorem z7l {c : List AV} (j : Nat) : AV.offLp j (.fptr c) = (.fptr c) := rfl
theorem zc9 {n : Nat} {c : List AV} {k : Option Nat} : AV.plain (.fz n c k) = true := rfl
theorem z7m {n : Nat} {c : List AV} {k : Option Nat} : AV.isLp (.fz n c k) = false := rfl
theorem z7n {n : Nat} {c : List AV} {k : Option Nat} : AV.isOne (.fz n c k) = true := rfl
theorem z7o {n : Nat} {c : List AV} {k : Option Nat} : AV.sto (.fz n c k) = true := rfl
theorem z7p {n : Nat} {c : List AV} {k : Option Nat} : AV.cells (.fz n c k) = [(.fz n c k)] := rfl
theorem z7q {n : Nat} {c : List AV} {k : Option Nat} (j : Nat) : AV.offLp j (.fz n c k) = (.fz n c k) := rfl
theorem zca {id o n : Nat} {k : Option Nat} : AV.plain (.sl id o n k) = true := rfl
theorem z7r {id o n : Nat} {k : Option Nat} : AV.isLp (.sl id o n k) = false := rfl
theorem z7s {id o n : Nat} {k : Option Nat} : AV.isOne (.sl id o n k) = true := rfl
theorem z7t {id o n : Nat} {k : Option Nat} : AV.sto (.sl id o n k) = true := rfl
theorem z7u {id o n : Nat} {k : Option Nat} : AV.cells (.sl id o n k) = [(.sl id o n k)] := rfl
theorem z7v {id o n : Nat} {k : Option Nat} (j : Nat) : AV.offLp j (.sl id o n k) = (.sl id o n k) := rfl
theorem zcb  : AV.plain .nilmap = true := rfl
theorem z7w  : AV.isLp .nilmap = false := rfl
theorem z7x  : AV.isOne .nilmap = true := rfl
theorem z7y  : AV.sto .nilmap = true := rfl
theorem z7z  : AV.cells .nilmap = [.nilmap] := rfl
theorem z80  (j : Nat) : AV.offLp j .nilmap = .nilmap := rfl
theorem zcc {id : Nat} : AV.plain (.mp id) = true := rfl
theorem z81 {id : Nat} : AV.isLp (.mp id) = false := rfl
theorem z82 {id : Nat} : AV.isOne (.mp id) = true := rfl
theorem z83 {id : Nat} : AV.sto (.mp id) = true := rfl
theorem z84 {id : Nat} : AV.cells (.mp id) = [(.mp id)] := rfl
theorem z85 {id : Nat} (j : Nat) : AV.offLp j (.mp id) = (.mp id) := rfl
theorem zcd {f : Fn} {a b : List AV} : AV.plain (.fn f a b) = true := rfl
theorem z86 {f : Fn} {a b : List AV} : AV.isLp (.fn f a b) = false := rfl
theorem z87 {f : Fn} {a b : List AV} : AV.isOne (.fn f a b) = true := rfl
theorem z88 {f : Fn} {a b : List AV} : AV.sto (.fn f a b) = true := rfl
theorem z89 {f : Fn} {a b : List AV} : AV.cells (.fn f a b) = [(.fn f a b)] := rfl
theorem z8a {f : Fn} {a b : List AV} (j : Nat) : AV.offLp j (.fn f a b) = (.fn f a b) := rfl
theorem zce  : AV.plain .nilfn = true := rfl
theorem z8b  : AV.isLp .nilfn = false := rfl
theorem z8c  : AV.isOne .nilfn = true := rfl
theorem z8d  : AV.sto .nilfn = true := rfl
theorem z8e  : AV.cells .nilfn = [.nilfn] := rfl
theorem z8f  (j : Nat) : AV.offLp j .nilfn = .nilfn := rfl
theorem zcf {t : TypeId} {x : AV} : AV.plain (.ifc t x) = true := rfl
theorem z8g {t : TypeId} {x : AV} : AV.isLp (.ifc t x) = false := rfl
theorem z8h {t : TypeId} {x : AV} : AV.isOne (.ifc t x) = true := rfl
theorem z8i {t : TypeId} {x : AV} : AV.sto (.ifc t x) = true := rfl
theorem z8j {t : TypeId} {x : AV} : AV.cells (.ifc t x) = [(.ifc t x)] := rfl
theorem z8k {t : TypeId} {x : AV} (j : Nat) : AV.offLp j (.ifc t x) = (.ifc t x) := rfl
theorem zcg  : AV.plain .nilifc = true := rfl
theorem z8l  : AV.isLp .nilifc = false := rfl
theorem z8m  : AV.isOne .nilifc = true := rfl
theorem z8n  : AV.sto .nilifc = true := rfl
theorem z8o  : AV.cells .nilifc = [.nilifc] := rfl
theorem z8p  (j : Nat) : AV.offLp j .nilifc = .nilifc := rfl
theorem zch {l : List AV} : AV.plain (.agg l) = true := rfl
theorem z8q {l : List AV} : AV.isLp (.agg l) = false := rfl
theorem z8r {l : List AV} : AV.isOne (.agg l) = false := rfl
theorem z8s {l : List AV} : AV.sto (.agg l) = true := rfl
theorem z8t {l : List AV} : AV.cells (.agg l) = l := rfl
theorem z8u {l : List AV} (j : Nat) : AV.offLp j (.agg l) = (.agg l) := rfl
theorem zci {l : List AV} : AV.plain (.tup l) = true := rfl
theorem z8v {l : List AV} : AV.isLp (.tup l) = false := rfl
theorem z8w {l : List AV} : AV.isOne (.tup l) = false := rfl
theorem z8x {l : List AV} : AV.sto (.tup l) = false := rfl
theorem z8y {l : List AV} : AV.cells (.tup l) = [(.tup l)] := rfl
theorem z8z {l : List AV} (j : Nat) : AV.offLp j (.tup l) = (.tup l) := rfl
theorem zcj {l o : Nat} : AV.plain (.lp l o) = false := rfl
theorem z90 {l o : Nat} : AV.isLp (.lp l o) = true := rfl
theorem z91 {l o : Nat} : AV.isOne (.lp l o) = false := rfl
theorem z92 {l o : Nat} : AV.sto (.lp l o) = false := rfl
theorem z93 {l o : Nat} : AV.cells (.lp l o) = [(.lp l o)] := rfl
theorem z94 {l o : Nat} (j : Nat) : AV.offLp j (.lp l o) = if l = j then .any else .lp l o := rfl
theorem zck {v : Value} : AV.plain (.raw v) = true := rfl
theorem z95 {v : Value} : AV.isLp (.raw v) = false := rfl
theorem z96 {v : Value} : AV.isOne (.raw v) = true := rfl
theorem z97 {v : Value} : AV.sto (.raw v) = true := rfl
theorem z98 {v : Value} : AV.cells (.raw v) = [(.raw v)] := rfl
theorem z99 {v : Value} (j : Nat) : AV.offLp j (.raw v) = (.raw v) := rfl
attribute [irreducible] gzS vst br brO gsO gsN vs2 snl zbg zao hbS stS apS clS CallK aft
attribute [go_sem ↓] z6v z43 z6s z6t z4b z0t z44 z6u z45 qpn qvg qxn qro qxo z0u qrp z0v z0w qxp zea z6x zaz zeb z6y zec zb0 zb1 zb2 zb3 zb4 z6z zb5 z70 z71 zb6 z72 z73 z74 zb9 zba z79 zbj zbk zbl zbm zbn zbp qxu zb7 zb8 zbb z47 zbc zbd zed zbe z75 zbf z10 z76 z48 z11 z77 zee zbh zeg zbq zbr z4a zbi
attribute [go_sem] qxq qxr z0x z36 q19 q8z qc5 q1s Z6 opd qiw q89 q55 cav qpe qra qp6 qd4 qp7 z6h qmm qms qjn qjo quz qv1 qv2 qv0 qiv qww qh3 q90 qhu z6i qrd q4e qmn q0a qre qjp qmo bnd Z3 q7m qpd z6w Option.bind_some Option.bind_none Option.map_some Option.map_none List.getElem?_cons_zero List.getElem?_cons_succ List.getElem?_nil List.drop_zero List.drop_succ_cons List.take_zero List.take_succ_cons List.drop_nil List.take_nil List.length_cons List.length_nil List.set_cons_zero List.set_cons_succ List.append_nil List.nil_append List.cons_append if_true if_false ite_true ite_false and_true true_and and_self Bool.not_true Bool.not_false Bool.false_eq_true decide_true decide_false z15 qxw qxy qxx qbf vev pev z46 z0y Nat.zero_mul Nat.sub_zero Nat.mul_one Nat.zero_add Nat.add_zero zau zav zaw zax zay z0z qxt z12 z13 zeh zbs zbt zbu zbv zbw zei zbx zby zbz zc0 zc1 zej zc2 zc3 zc4 zc5 zc6 zc7 z7b z7c z7d z7e z7f z7g z4c z4d z4e z4f z4g zc8 z7h z7i z7j z7k z7l zc9 z7m z7n z7o z7p z7q zca z7r z7s z7t z7u z7v zcb z7w z7x z7y z7z z80 zcc z81 z82 z83 z84 z85 zcd z86 z87 z88 z89 z8a zce z8b z8c z8d z8e z8f zcf z8g z8h z8i z8j z8k zcg z8l z8m z8n z8o z8p zch z8q z8r z8s z8t z8u zci z8v z8w z8x z8y z8z zcj z90 z91 z92 z93 z94 zck z95 z96 z97 z98 z99
end Go.Aw
namespace Go.Aw
open Go
set_option linter.all false
variable [Glob]
def qdl (l : List Int) : List AV := l.map (.i .i64)
def q9x (l : List Bool) : List AV := l.map .b
theorem qo0 (l : List Int) (k : Nat) : ((qdl l).drop k)[0]? = (l[k]?).map (.i .i64) := by simp [qdl]
theorem qu8 (l : List Bool) (k : Nat) : ((q9x l).drop k)[0]? = (l[k]?).map .b := by simp [q9x]
theorem qxz (l : List Int) (k : Nat) : (qdl l).take k = qdl (l.take k) := by simp [qdl, List.map_take]
theorem qrq (l m : List Int) : qdl l ++ qdl m = qdl (l ++ m) := by simp [qdl]
theorem qpo (l m : List Bool) : q9x l ++ q9x m = q9x (l ++ m) := by simp [q9x]
def I64 (n : Int) : Prop := -9223372036854775808 <= n /\ n <= 9223372036854775807
instance (n : Int) : Decidable (I64 n) := inferInstanceAs (Decidable (_ /\ _))
theorem q2d {n : Int} (h : I64 n) : IntKind.i64.wrap n = n := IntWalk.i64_in n h
def Len (n : Nat) : Prop := n < 9223372036854775808
theorem Q0 {k : Nat} (h : k < 9223372036854775807) : IntKind.i64.wrap ((k : Int) + 1) = ((k + 1 : Nat) : Int) := by
 rw [q2d (by unfold I64; omega)]; simp
end Go.Aw
namespace Go.Aw
open Go
set_option linter.all false
variable [Glob]
def Own (T : Tab) (z : Nat) (v : AV) (n : Nat) (xs : List AV) (T' : Tab) : Prop :=
 xs.length = n * z /\ ((v = .fz 0 [] (some 0) /\ n = 0 /\ T' = T) \/ ∃ id, v = .sl id 0 n none /\ T id = .unused /\ T' = T.put id (.row z xs))
theorem Tab.put_put (T : Tab) (id : Nat) (a b : Slot) : (T.put id a).put id b = T.put id b := by
 funext j; simp only [Tab.put]; split <;> rfl
theorem Tab.put_comm (T : Tab) {id id' : Nat} (h : id ≠ id') (a b : Slot) : (T.put id a).put id' b = (T.put id' b).put id a := by
 funext j; simp only [Tab.put]; split
 ·rename_i e; subst e; rw [if_neg (Ne.symm h)]
 ·rfl
theorem Tab.put_self {T : Tab} {id : Nat} {a : Slot} (h : T id = a) : T.put id a = T := by
 funext j; simp only [Tab.put]; split
 ·rename_i e; subst e; exact h.symm
 ·rfl
theorem Tab.unused_put {T : Tab} {id j z : Nat} {c : List AV} (h : T.put id (.row z c) j = .unused) : j ≠ id /\ T j = .unused := by
 simp only [Tab.put] at h
 split at h
 ·cases h
 ·rename_i e; exact ⟨e, h⟩
theorem Own.nil (T : Tab) (z : Nat) : Own T z (.fz 0 [] (some 0)) 0 [] T := ⟨by simp, .inl ⟨rfl, rfl, rfl⟩⟩
theorem qk4 {T : Tab} {z : Nat} {y : AV} {news : List AV} (h : Z3 T z y = some news) : news.length = q08 y * z := by
 cases y <;> simp only [Z3] at h <;> first
  | (cases h; done)
  | skip
 ·split at h
  ·rename_i e; subst e; injection h with h; subst h; simp [q08]
  ·cases h
 ·split at h
  ·injection h with h; subst h; assumption
  ·cases h
 ·split at h
  ·split at h
   ·rename_i hle; injection h with h; subst h; rw [List.length_take, List.length_drop]; simp only [q08]; omega
   ·cases h
  ·cases h
theorem Own.app {T T1 : Tab} {z b n m : Nat} {v y : AV} {xs news : List AV} {K : AV -> Tab -> Prop} (h : Own T z v n xs T1) (hy : Z3 T1 z y = some news) (hm : q08 y = m)
  (h1 : (n + m) * b <= 140737488355328) (h2 : n + m <= 9223372036854775807) (hk : ∀ v' T2, Own T z v' (n + m) (xs ++ news) T2 -> K v' T2) : q1i z b T1 v y K := by
 have hlen := qk4 hy
 rw [hm] at hlen
 obtain ⟨hx, h⟩ := h
 have hsum : (xs ++ news).length = (n + m) * z := by rw [List.length_append, hx, hlen, Nat.add_mul]
 unfold q1i
 rw [hy]
 simp only
 rcases h with ⟨rfl, rfl, rfl⟩ | ⟨id, rfl, hid, rfl⟩
 ·have : xs = [] := by simpa using hx
  subst this
  simp only [hm]
  split
  ·rename_i e
   subst e
   have : news = [] := by simpa using hlen
   subst this
   exact hk _ _ ⟨by simp, .inl ⟨rfl, rfl, rfl⟩⟩
  ·refine ⟨by simp, by omega, h1, h2, fun id hid => ?_⟩
   exact hk _ _ ⟨hsum, .inr ⟨id, by simp, hid, rfl⟩⟩
 ·simp only [Tab.put_same, hm, true_and]
  rw [if_pos (by omega)]
  refine ⟨h1, h2, fun id' hid' => ?_⟩
  obtain ⟨_, hid'⟩ := Tab.unused_put hid'
  rw [Tab.put_put, Tab.put_self hid, List.drop_zero]
  exact hk _ _ ⟨hsum, .inr ⟨id', rfl, hid', rfl⟩⟩
theorem Own.form {T T1 : Tab} {z n : Nat} {v : AV} {xs : List AV} (h : Own T z v n xs T1) : v.plain = true /\ v.isOne = true /\ v.sto = true /\ v.cells = [v] /\ v.isLp = false /\ ∀ k, v.offLp k = v := by
 rcases h.2 with ⟨rfl, _⟩ | ⟨id, rfl, _⟩ <;> exact ⟨rfl, rfl, rfl, rfl, rfl, fun _ => rfl⟩
section
variable {T : Tab} {S : List Nat}
theorem qbg {k : IntKind} {n : Int} : qd6 T S (.i k n) = .i k n := rfl
theorem qc8 {x : Bool} : qd6 T S (.b x) = .b x := rfl
theorem qu9 {l : List UInt8} : qd6 T S (.s l) = .s l := rfl
theorem qha {n : Nat} {c : List AV} {k : Option Nat} : qd6 T S (.fz n c k) = .fz n c k := rfl
theorem qy0 : qd6 T S .nilifc = .nilifc := rfl
theorem qy1 {t : TypeId} {x : AV} : qd6 T S (.ifc t x) = .ifc t x := rfl
theorem qy2 {c : List AV} : qd6 T S (.fptr c) = .fptr c := rfl
end
structure Ow where
 z : Nat
 v : AV
 n : Nat
 xs : List AV
def Owns (T : Tab) : List Ow -> Tab -> Prop
 | [], T' => T' = T
 | a :: l, T' => ∃ T1, Owns T l T1 /\ Own T1 a.z a.v a.n a.xs T'
theorem Owns.swap {T T' : Tab} {a b : Ow} {l : List Ow} (h : Owns T (a :: b :: l) T') : Owns T (b :: a :: l) T' := by
 obtain ⟨T2, ⟨T1, h1, hb, hb'⟩, ha, ha'⟩ := h
 rcases hb' with ⟨e1, e2, rfl⟩ | ⟨id, e1, e2, rfl⟩ <;> rcases ha' with ⟨e3, e4, rfl⟩ | ⟨id', e3, e4, rfl⟩
 ·exact ⟨_, ⟨_, h1, ha, .inl ⟨e3, e4, rfl⟩⟩, hb, .inl ⟨e1, e2, rfl⟩⟩
 ·exact ⟨_, ⟨_, h1, ha, .inr ⟨id', e3, e4, rfl⟩⟩, hb, .inl ⟨e1, e2, rfl⟩⟩
 ·exact ⟨_, ⟨_, h1, ha, .inl ⟨e3, e4, rfl⟩⟩, hb, .inr ⟨id, e1, e2, rfl⟩⟩
 ·obtain ⟨hne, hu⟩ := Tab.unused_put e4
  refine ⟨_, ⟨_, h1, ha, .inr ⟨id', e3, hu, rfl⟩⟩, hb, .inr ⟨id, e1, ?_, ?_⟩⟩
  ·rw [Tab.put_ne _ _ (Ne.symm hne)]; exact e2
  ·exact Tab.put_comm _ (Ne.symm hne) _ _
theorem Owns.bring {T T' : Tab} {a : Ow} : ∀ {l m : List Ow}, Owns T (l ++ a :: m) T' -> Owns T (a :: (l ++ m)) T'
 | [], _, h => h
 | b :: l, m, h => by
  obtain ⟨T1, h1, h2⟩ := h
  exact Owns.swap ⟨T1, Owns.bring h1, h2⟩
theorem Owns.app {T T1 : Tab} {a : Ow} {l : List Ow} {b m : Nat} {y : AV} {news : List AV} {K : AV -> Tab -> Prop} (h : Owns T (a :: l) T1) (hy : Z3 T1 a.z y = some news) (hm : q08 y = m)
  (h1 : (a.n + m) * b <= 140737488355328) (h2 : a.n + m <= 9223372036854775807) (hk : ∀ v' T2, Owns T (⟨a.z, v', a.n + m, a.xs ++ news⟩ :: l) T2 -> K v' T2) : q1i a.z b T1 a.v y K := by
 obtain ⟨T0, h0, ho⟩ := h
 exact ho.app hy hm h1 h2 fun v' T2 h' => hk v' T2 ⟨T0, h0, h'⟩
theorem Owns.form {T : Tab} {a : Ow} : ∀ {l : List Ow} {T1 : Tab}, Owns T l T1 -> a ∈ l -> a.v.plain = true /\ a.v.isOne = true /\ a.v.sto = true /\ a.v.cells = [a.v] /\ a.v.isLp = false /\ ∀ k, a.v.offLp k = a.v
 | b :: l, T1, ⟨T0, h0, ho⟩, hm => by
  rcases List.mem_cons.1 hm with rfl | hm
  ·exact ho.form
  ·exact Owns.form h0 hm
theorem Owns.one {T T' : Tab} {z n : Nat} {v : AV} {xs : List AV} (h : Own T z v n xs T') : Owns T [⟨z, v, n, xs⟩] T' := ⟨T, rfl, h⟩
theorem Owns.fin {T : Tab} : ∀ {l : List Ow} {T' : Tab}, Owns T l T' -> ∃ S, S.Nodup /\ (∀ id ∈ S, T' id ≠ .unused /\ T id = .unused) /\ qfo T' S = T /\ ∀ a ∈ l, ∃ cap, qd6 T' S a.v = .fz a.n a.xs cap
 | [], T', h => ⟨[], List.nodup_nil, by simp, h, by simp⟩
 | a :: l, T', h => by
  obtain ⟨T1, h1, hx, h2⟩ := h
  obtain ⟨S, k1, k2, k3, k4⟩ := Owns.fin h1
  rcases h2 with ⟨e1, e2, rfl⟩ | ⟨id, e1, e2, rfl⟩
  ·refine ⟨S, k1, k2, k3, fun b hb => ?_⟩
   rcases List.mem_cons.1 hb with rfl | hb
   ·have : b.xs = [] := by rw [e2] at hx; simpa using hx
    rw [e1, e2, this]; exact ⟨some 0, rfl⟩
   ·exact k4 b hb
  ·have hid : id ∉ S := fun e => (k2 id e).1 e2
   have hkill : ∀ (S' : List Nat) (T2 : Tab), id ∉ S' -> qfo (T2.put id (.row a.z a.xs)) S' = (qfo T2 S').put id (.row a.z a.xs) := by
    intro S'
    induction S' with
    | nil => intro T2 _; rfl
    | cons j S' ih =>
     intro T2 hj
     simp only [List.mem_cons, not_or] at hj
     simp only [qfo]
     rw [ih T2 hj.2, Tab.put_comm _ hj.1]
   have hTid : T id = .unused := by
    rw [<- k3, qeh hid]; exact e2
   refine ⟨id :: S, List.nodup_cons.2 ⟨hid, k1⟩, fun j hj => ?_, ?_, fun b hb => ?_⟩
   ·rcases List.mem_cons.1 hj with rfl | hj
    ·exact ⟨by rw [Tab.put_same]; simp, hTid⟩
    ·refine ⟨?_, (k2 j hj).2⟩
     rw [Tab.put_ne _ _ (fun e => hid (by rw [<- e]; exact hj))]; exact (k2 j hj).1
   ·simp only [qfo]
    rw [hkill S T1 hid, Tab.put_put, k3, Tab.put_self hTid]
   ·rcases List.mem_cons.1 hb with rfl | hb
    ·refine ⟨none, ?_⟩
     rw [e1]
     simp only [qd6, List.mem_cons, true_or, if_true, Tab.put_same, Nat.zero_add, List.drop_zero]
     rw [if_pos (by omega), List.take_of_length_le (by omega)]
    ·obtain ⟨cap, hc⟩ := k4 b hb
     refine ⟨cap, ?_⟩
     rw [<- hc]
     cases hv : b.v with
     | sl id' o n cap' =>
      have hne : id' ≠ id := by
       rintro rfl
       rw [hv] at hc
       simp only [qd6] at hc
       rw [if_neg hid] at hc
       cases hc
      simp only [qd6, List.mem_cons, hne, false_or, Tab.put_ne _ _ hne]
     | ptr id' o => rw [hv] at hc; simp only [qd6] at hc; split at hc <;> (try split at hc) <;> cases hc
     | _ => rfl
theorem q30 {T T' : Tab} {l : List Ow} {r r' : AV} (h : Owns T l T') (hr : ∀ S, (∀ a ∈ l, ∃ cap, qd6 T' S a.v = .fz a.n a.xs cap) -> Wk (qlw T' S r) r') : qn0 r (fun v T'' => v = r' /\ T'' = T) T' := by
 obtain ⟨S, k1, k2, k3, k4⟩ := h.fin
 unfold qn0
 exact ⟨S, T, r', k1, fun id hid => (k2 id hid).1, fun id => .inr (.inl (by rw [k3])), hr S k4, rfl, rfl⟩
end Go.Aw
namespace Go.Aw
open Go
variable [Glob]
set_option linter.all false
theorem Y9 {α : Type} {xs ys : List α} {y : α} {k : Nat} (hk : xs.drop k = y :: ys) : k < xs.length /\ xs[k]? = some y /\ xs.drop (k + 1) = ys := by
 refine ⟨?_, ?_, by rw [<- List.drop_drop, hk]; rfl⟩
 ·have : (xs.drop k).length = ys.length + 1 := by rw [hk]; rfl
  rw [List.length_drop] at this; omega
 ·have : (xs.drop k)[0]? = some y := by rw [hk]; rfl
  simpa using this
theorem Y0 {α : Type} {xs : List α} {k : Nat} (hk : xs.drop k = []) (hle : k <= xs.length) : xs.length = k := by have := List.drop_eq_nil_iff.1 hk; omega
theorem q1t {α : Type} {xs : List α} {k : Nat} {y : α} (h : xs[k]? = some y) : xs.take (k + 1) = xs.take k ++ [y] := by
 rw [List.take_add_one, h]; rfl
theorem Own.fin {T T' : Tab} {z n : Nat} {v : AV} {xs : List AV} {Q : AV -> Tab -> Prop} (h : Own T z v n xs T') (hQ : ∀ v T', Own T z v n xs T' -> Q v T') : qn0 v Q T' :=
 Y8 T' (fun _ => .inr (.inl rfl)) (hQ v T' h)
theorem CallK.as {P : Program} {f : FuncId} {avs : List AV} {T T1 : Tab} {k : AV -> Tab -> Prop} {r : AV} (h : ACalls P f avs T (fun v T' => v = r /\ T' = T1)) (hk : k r T1) : CallK P f avs T k :=
 .of h fun v T' h => by rw [h.1, h.2]; exact hk
theorem q7v {T T1 : Tab} {r r' : AV} (h : Wk r r') (hT : T = T1) : qn0 r (fun v T' => v = r' /\ T' = T1) T := by
 subst hT
 exact ⟨[], T, r', List.nodup_nil, by simp, fun _ => .inr (.inl rfl), by rw [qdc]; exact h, rfl, rfl⟩
theorem Q4 {P : Program} {d : Option Nat} {f : FuncId} {args : List Operand} {k : Nat} {want : Bool} {rc : RC} {K : Env -> Loc -> Tab -> Prop} {e : Env} {L : Loc} {T : Tab} : Y3 P ⟨d, .call f args, some (k, want), rc⟩ K e L T =
  gst e k want (Hold.mk (a := Y3 P ⟨d, .call f args, none, rc⟩ K e L T)) (Hold.mk (a := I4 (q06 e d (.tup [])) L T rc /\ K (q06 e d (.tup [])) L T)) := by
 rw [z7a _ rfl, z37]
theorem Owns.base_get {T : Tab} {id : Nat} (hid : T id ≠ .unused) : ∀ {l : List Ow} {T' : Tab}, Owns T l T' -> T' id = T id
 | [], T', h => by rw [show T' = T from h]
 | a :: l, T', ⟨T1, h1, hx, h2⟩ => by
  have ih := Owns.base_get hid h1
  rcases h2 with ⟨_, _, rfl⟩ | ⟨j, _, hj, rfl⟩
  ·exact ih
  ·have hne : id ≠ j := fun e => by subst e; rw [ih] at hj; exact hid hj
   rw [Tab.put_ne _ _ hne]; exact ih
theorem Owns.base_put {T : Tab} {id : Nat} {s : Slot} (hid : T id ≠ .unused) : ∀ {l : List Ow} {T' : Tab}, Owns T l T' -> Owns (T.put id s) l (T'.put id s)
 | [], T', h => by rw [show T' = T from h]; rfl
 | a :: l, T', ⟨T1, h1, hx, h2⟩ => by
  have ih := Owns.base_put (s := s) hid h1
  have hg := Owns.base_get hid h1
  rcases h2 with ⟨e1, e2, rfl⟩ | ⟨j, e1, hj, rfl⟩
  ·exact ⟨_, ih, hx, .inl ⟨e1, e2, rfl⟩⟩
  ·have hne : j ≠ id := fun e => by subst e; rw [hg] at hj; exact hid hj
   refine ⟨_, ih, hx, .inr ⟨j, e1, by rw [Tab.put_ne _ _ hne]; exact hj, ?_⟩⟩
   exact (Tab.put_comm _ hne _ _)
theorem Owns.le {T : Tab} : ∀ {l : List Ow} {T' : Tab}, Owns T l T' -> ∀ j, SlotLe (T j) (T' j)
 | [], T', h, j => by rw [show T' = T from h]; exact .inr (.inl rfl)
 | a :: l, T', ⟨T1, h1, hx, h2⟩, j => by
  have ih := Owns.le h1 j
  rcases h2 with ⟨_, _, rfl⟩ | ⟨i, _, hi, rfl⟩
  ·exact ih
  ·by_cases e : j = i
   ·subst e
    rw [hi] at ih
    rcases ih with h | h | ⟨_, _, _, h, _⟩
    ·exact .inl h
    ·exact .inl h
    ·cases h
   ·rw [Tab.put_ne _ _ e]; exact ih
theorem Owns.get {T : Tab} {a : Ow} : ∀ {l : List Ow} {T' : Tab}, Owns T l T' -> a ∈ l -> 0 < a.n -> ∃ id, a.v = .sl id 0 a.n none /\ T' id = .row a.z a.xs /\ T id = .unused
 | b :: l, T', ⟨T1, h1, hx, h2⟩, hm, hn => by
  rcases List.mem_cons.1 hm with rfl | hm
  ·rcases h2 with ⟨_, e, _⟩ | ⟨i, e1, hi, rfl⟩
   ·omega
   ·refine ⟨i, e1, Tab.put_same .., ?_⟩
    have hle := h1.le i
    rw [hi] at hle
    rcases hle with h | h | ⟨_, _, _, h, _⟩
    ·exact h
    ·exact h
    ·cases h
  ·obtain ⟨id, e1, e2, e3⟩ := Owns.get h1 hm hn
   rcases h2 with ⟨_, _, rfl⟩ | ⟨i, _, hi, rfl⟩
   ·exact ⟨id, e1, e2, e3⟩
   ·refine ⟨id, e1, ?_, e3⟩
    have hne : id ≠ i := fun e => by subst e; rw [hi] at e2; cases e2
    rw [Tab.put_ne _ _ hne]; exact e2
theorem SlotLe.refl (s : Slot) : SlotLe s s := .inr (.inl rfl)
theorem Q6 {α : Type} {f : α -> List AV} {z : Nat} (hf : ∀ x, (f x).length = z) (l : List α) : (l.flatMap f).length = l.length * z := by
 induction l with
 | nil => simp
 | cons c l ih => simp only [List.flatMap_cons, List.length_append, List.length_cons, ih, hf, Nat.add_mul]; omega
theorem q0b {α : Type} {f : α -> List AV} {z : Nat} (hf : ∀ x, (f x).length = z) {l : List α} {k : Nat} {x : α} (h : l[k]? = some x) : (l.flatMap f).drop (k * z) = f x ++ (l.drop (k + 1)).flatMap f := by
 induction l generalizing k with
 | nil => simp at h
 | cons a l ih =>
  cases k with
  | zero => simp at h; subst h; simp
  | succ k =>
   have := ih (k := k) (by simpa using h)
   rw [List.flatMap_cons, List.drop_succ_cons, <- this, show (k + 1) * z = (f a).length + k * z by rw [hf, Nat.add_mul]; omega, List.drop_length_add_append]
theorem Own.fzn {T T' : Tab} {z n : Nat} {v : AV} {xs : List AV} (h : Own T z v n xs T') : qn0 v (fun x T'' => x = .fz n xs none /\ T'' = T) T' := by
 have h' := h
 refine q30 (Owns.one h) fun S hS => ?_
 obtain ⟨c, e⟩ := hS _ (List.mem_cons_self ..)
 simp only at e
 rcases h'.2 with ⟨rfl, _⟩ | ⟨id, rfl, _⟩ <;>
 ·simp only [qlw, qah, e]
  exact Wk.fz
def qn3 : AV -> Bool
 | .b _ | .i _ _ | .s _ | .nilptr | .fz _ _ _ | .nilmap | .nilfn | .nilifc => true
 | .agg l => l.all fun x => match x with
  | .b _ | .i _ _ | .s _ | .nilptr | .fz _ _ _ | .nilmap | .nilfn | .nilifc => true
  | _ => false
 | _ => false
theorem z16 {T : Tab} {S : List Nat} {x : AV} (h : qn3 x = true) : qah T S x = x := by
 cases x <;> simp only [qn3] at h <;> first
  | (cases h; done)
  | rfl
  | skip
 rename_i l
 have : l.map (qd6 T S) = l := by
  induction l with
  | nil => rfl
  | cons a l ih =>
   simp only [List.all_cons, Bool.and_eq_true] at h
   rw [List.map_cons, ih h.2]
   congr 1
   cases a <;> first | rfl | (simp at h; done)
 simp only [qah, this]
theorem qk5 {T : Tab} {S : List Nat} : ∀ {l : List AV}, l.all qn3 = true -> l.map (qah T S) = l
 | [], _ => rfl
 | a :: l, h => by
  simp only [List.all_cons, Bool.and_eq_true] at h
  rw [List.map_cons, z16 h.1, qk5 h.2]
theorem CallK.give {P : Program} {f : FuncId} {T T' : Tab} {z n : Nat} {v : AV} {xs : List AV} {pre post : List AV} {R k : AV -> Tab -> Prop} (h : Own T z v n xs T') (h1 : pre.all qn3 = true) (h2 : post.all qn3 = true)
  (hc : ∀ q, ACalls P f (pre ++ .fz n xs q :: post) T R) (hk : ∀ v T', R v T' -> k v T') : CallK P f (pre ++ v :: post) T' k := by
 obtain ⟨hx, h⟩ := h
 rcases h with ⟨rfl, rfl, rfl⟩ | ⟨id, rfl, hid, rfl⟩
 ·have : xs = [] := by simpa using hx
  subst this
  exact .of (hc (some 0)) hk
 ·unfold CallK; refine ⟨[id], R, by simp, by simp [Tab.put_same], ?_, hk⟩
  have e : ((pre ++ AV.sl id 0 n none :: post).map (qah (T.put id (.row z xs)) [id])) = pre ++ .fz n xs none :: post := by
   rw [List.map_append, List.map_cons, qk5 h1, qk5 h2]
   simp only [qah, qd6, List.mem_singleton, if_true, Tab.put_same, Nat.zero_add, List.drop_zero]
   rw [if_pos (by omega), List.take_of_length_le (by omega)]
  rw [e]
  have : qfo (T.put id (.row z xs)) [id] = T := by
   simp only [qfo]; rw [Tab.put_put, Tab.put_self hid]
  rw [this]
  exact hc none
theorem CallK.give0 {P : Program} {f : FuncId} {T T' : Tab} {z n : Nat} {v : AV} {xs : List AV} {post : List AV} {R k : AV -> Tab -> Prop} (h : Own T z v n xs T') (h2 : post.all qn3 = true)
  (hc : ∀ q, ACalls P f (.fz n xs q :: post) T R) (hk : ∀ v T', R v T' -> k v T') : CallK P f (v :: post) T' k := CallK.give (pre := []) h rfl h2 hc hk
theorem z17 {T : Tab} {z b n m : Nat} {cells news : List AV} {y : AV} {K : AV -> Tab -> Prop} (hy : Z3 T z y = some news) (hm : q08 y = m) (h0 : 0 < m) (hn : cells.length = n * z)
  (h1 : (n + m) * b <= 140737488355328) (h2 : n + m <= 9223372036854775807) (hk : ∀ v T2, Own T z v (n + m) (cells ++ news) T2 -> K v T2) : q1i z b T (.fz n cells (some n)) y K := by
 have hlen := qk4 hy
 rw [hm] at hlen
 unfold q1i
 rw [hy]
 simp only [hm]
 rw [if_neg (by omega)]
 refine ⟨hn, by omega, h1, h2, fun id hid => hk _ _ ⟨?_, .inr ⟨id, rfl, hid, rfl⟩⟩⟩
 rw [List.length_append, hn, hlen, Nat.add_mul]
def Gr (T : Tab) (z : Nat) (v : AV) (n : Nat) (xs : List AV) (T' : Tab) : Prop := Own T z v n xs T' \/ (v = .fz n xs (some n) /\ xs.length = n * z /\ T' = T)
theorem Gr.form {T T1 : Tab} {z n : Nat} {v : AV} {xs : List AV} (h : Gr T z v n xs T1) : v.plain = true /\ v.isOne = true /\ v.sto = true /\ v.cells = [v] /\ v.isLp = false /\ ∀ k, v.offLp k = v := by
 rcases h with h | ⟨rfl, _⟩
 ·exact h.form
 ·exact ⟨rfl, rfl, rfl, rfl, rfl, fun _ => rfl⟩
theorem Gr.app {T T1 : Tab} {z b n m : Nat} {v y : AV} {xs news : List AV} {K : AV -> Tab -> Prop} (h : Gr T z v n xs T1) (hy : Z3 T1 z y = some news) (hm : q08 y = m) (h0 : 0 < m)
  (h1 : (n + m) * b <= 140737488355328) (h2 : n + m <= 9223372036854775807) (hk : ∀ v' T2, Own T z v' (n + m) (xs ++ news) T2 -> K v' T2) : q1i z b T1 v y K := by
 rcases h with h | ⟨rfl, hx, rfl⟩
 ·exact h.app hy hm h1 h2 hk
 ·exact z17 hy hm h0 hx h1 h2 hk
theorem Gr.fzn {T T' : Tab} {z n : Nat} {v : AV} {xs : List AV} (h : Gr T z v n xs T') : qn0 v (fun x T'' => x = .fz n xs none /\ T'' = T) T' := by
 rcases h with h | ⟨rfl, hx, rfl⟩
 ·exact h.fzn
 ·exact q7v .fz rfl
theorem Gr.fin {T T' : Tab} {z n : Nat} {v : AV} {xs : List AV} {Q : AV -> Tab -> Prop} (h : Gr T z v n xs T') (hQ : ∀ v T', Gr T z v n xs T' -> Q v T') : qn0 v Q T' :=
 Y8 T' (fun _ => .inr (.inl rfl)) (hQ v T' h)
theorem Gr.sl {T T' : Tab} {z n : Nat} {v : AV} {xs : List AV} (h : Gr T z v n xs T') : Z3 T' z v = some xs /\ q08 v = n := by
 rcases h with ⟨hx, h⟩ | ⟨rfl, hx, rfl⟩
 ·rcases h with ⟨rfl, rfl, rfl⟩ | ⟨id, rfl, hid, rfl⟩
  ·have : xs = [] := by simpa using hx
   subst this
   simp [Z3, q08]
  ·simp only [Z3, Tab.put_same, q08, Nat.zero_add, List.drop_zero, true_and, and_true]
   rw [if_pos (by omega), List.take_of_length_le (by omega)]
 ·simp only [Z3, q08]
  rw [if_pos hx]; exact ⟨rfl, trivial⟩
end Go.Aw
namespace Go.Aw
open Go
variable [Glob]
set_option linter.all false
theorem CallK.owns {P : Program} {f : FuncId} {avs : List AV} {T T' : Tab} {l : List Ow} {R k : AV -> Tab -> Prop} (h : Owns T l T')
  (hc : ∀ S, (∀ a ∈ l, ∃ cap, qd6 T' S a.v = .fz a.n a.xs cap) -> ACalls P f (avs.map (qah T' S)) T R) (hk : ∀ v T', R v T' -> k v T') : CallK P f avs T' k := by
 obtain ⟨S, k1, k2, k3, k4⟩ := h.fin
 unfold CallK
 exact ⟨S, R, k1, fun id hid => (k2 id hid).1, by rw [k3]; exact hc S k4, hk⟩
theorem Own.frzv {T T1 T2 : Tab} {S : List Nat} {z n : Nat} {v : AV} {xs : List AV} (h : Own T z v n xs T1) : Aw.qah T2 S v = qd6 T2 S v := by
 rcases h.2 with ⟨rfl, _⟩ | ⟨id, rfl, _⟩ <;> rfl
theorem SlotLe.trans {a b c : Slot} (h : SlotLe a b) (k : SlotLe b c) : SlotLe a c := by
 rcases h with rfl | rfl | ⟨z, cs, m, rfl, rfl⟩
 ·exact .inl rfl
 ·exact k
 ·rcases k with k | k | ⟨z', cs', m', rfl, k⟩
  ·cases k
  ·subst k; exact .inr (.inr ⟨z, cs, m, rfl, rfl⟩)
  ·injection k with k1 k2
   subst k1; subst k2
   exact .inr (.inr ⟨z, cs', min m m', rfl, by rw [List.take_take]⟩)
def TabLe (T T' : Tab) : Prop := ∀ j, SlotLe (T j) (T' j)
theorem TabLe.refl (T : Tab) : TabLe T T := fun _ => .inr (.inl rfl)
theorem TabLe.trans {T T1 T2 : Tab} (h : TabLe T T1) (k : TabLe T1 T2) : TabLe T T2 := fun j => (h j).trans (k j)
theorem TabLe.put {T T1 : Tab} {id : Nat} {s : Slot} (h : TabLe T T1) (hid : T id = .unused) : TabLe T (T1.put id s) := fun j => by
 by_cases e : j = id
 ·subst e; rw [hid]; exact .inl rfl
 ·rw [Tab.put_ne _ _ e]; exact h j
theorem TabLe.unused {T T' : Tab} {id : Nat} (h : TabLe T T') (hid : T' id = .unused) : T id = .unused := by
 rcases h id with e | e | ⟨z, cs, m, e, _⟩
 ·exact e
 ·rw [e, hid]
 ·rw [hid] at e; cases e
theorem TabLe.fin {T T' : Tab} {r : AV} (h : TabLe T T') : qn0 r (fun v T'' => v = r /\ T'' = T) T' := Y8 T h ⟨rfl, rfl⟩
theorem Own.sl {T T' : Tab} {z n : Nat} {v : AV} {xs : List AV} (h : Own T z v n xs T') : Z3 T' z v = some xs /\ q08 v = n := Gr.sl (.inl h)
theorem Own.ne {T T' : Tab} {z n : Nat} {v : AV} {xs : List AV} (h : Own T z v n xs T') (hn : 0 < n) : ∃ id, v = .sl id 0 n none /\ T id = .unused /\ T' = T.put id (.row z xs) := by
 rcases h.2 with ⟨_, e, _⟩ | h
 ·omega
 ·exact h
end Go.Aw
namespace Go.Aw
open Go
variable [Glob]
set_option linter.all false
def Indep (r : AV) : Prop := ∀ X X' w w' v, vr X w r v -> vr X' w' r v
theorem Indep.b {x : Bool} : Indep (.b x) := fun _ _ _ _ _ h => by simp only [vr] at h ⊢; exact h
theorem Indep.i {k : IntKind} {n : Int} : Indep (.i k n) := fun _ _ _ _ _ h => by simp only [vr] at h ⊢; exact h
theorem Indep.s {l : List UInt8} : Indep (.s l) := fun _ _ _ _ _ h => by simp only [vr] at h ⊢; exact h
theorem Indep.tup {l : List AV} (h : ∀ x ∈ l, Indep x) : Indep (.tup l) := fun X X' w w' v hv => by
 simp only [vr] at hv ⊢
 obtain ⟨us, h1, h2⟩ := hv
 refine ⟨us, ?_, h2⟩
 clear h2
 induction l generalizing us with
 | nil => simpa [vrs] using h1
 | cons x l ih =>
  simp only [vrs] at h1 ⊢
  obtain ⟨u, us', e, k1, k2⟩ := h1
  exact ⟨u, us', e, h x (List.mem_cons_self ..) _ _ _ _ _ k1, ih (fun y hy => h y (List.mem_cons_of_mem _ hy)) us' k2⟩
theorem ACalls.borrow {P : Program} {f : FuncId} {avs : List AV} {T : Tab} {S : List Nat} {r : AV} (hn : S.Nodup) (hS : ∀ id ∈ S, T id ≠ .unused) (h : PCalls P f (avs.map (qah T S)) r) (hr : Indep r) :
  ACalls P f avs T (fun v T' => v = r /\ T' = T) := by
 intro X lam w cargs hrel hv
 have h0 : SR X T w X lam [] [] T { tmps := #[], defers := [] } w := ⟨hrel, .refl X T w, fun l c hc => by simp [q19] at hc, fun s x hs => by simp [q19] at hs, rfl⟩
 have h1 := h0.freezes S hn hS
 have h2 := h1.sub (T' := Tab.nil) (fun id => .inl rfl)
 have hv' : vrs (X.addFzs S) w (avs.map (qah T S)) cargs := hv.map fun x v hx => qd7 hrel hx
 have hc := h Tab.nil (X.addFzs S) lam w cargs h2.rel hv'
 refine hc.mono fun e w' ⟨v, x, T', X', lam', he, ⟨hx, hT⟩, hvr, hrel', hst⟩ => ?_
 subst hx; subst hT
 have hk : ∀ b, b < w.heap.size -> w'.heap[b]? = w.heap[b]? := fun b hb => hst.kept b hb fun ⟨id, hid, _⟩ => hid rfl
 have hfz : q60 X w w' := fun b hb => hk b (hrel.fzlt b hb)
 have hlt : ∀ id, T id ≠ .unused -> (X.β id).blk < w.heap.size := fun id hid => hrel.live_lt ⟨id, hid, rfl⟩
 refine ⟨v, x, T, X, lam, he, ⟨rfl, rfl⟩, hr _ _ _ _ _ hvr, ⟨hrel.fresh, fun b hb => Nat.lt_of_lt_of_le (hrel.fzlt b hb) hst.size, fun id esz cells hT => ?_, fun id es hT => ?_, hrel.live_fz, hrel.live_inj, fun l c hc => by simp [q19] at hc, fun l c hc => by simp [q19] at hc, fun l l' c c' hc => by simp [q19] at hc, fun l c hc => by simp [q19] at hc, q1h (.refl X) hfz hrel.glob⟩,
  ⟨.refl X, hst.os, hst.tape, hst.output, hst.size, fun b hb _ => hk b hb, fun _ _ hf => .inl hf, fun _ _ hl => hl, fun _ _ hT => hT⟩⟩
 ·exact (hrel.row id esz cells hT).mono (.refl X) hfz (hrel.id_lt (by simp [hT])) (hk _ (hlt id (by simp [hT])))
 ·exact (hrel.map id es hT).mono (.refl X) hfz (hrel.id_lt (by simp [hT])) (hk _ (hlt id (by simp [hT])))
theorem CallK.borrow {P : Program} {f : FuncId} {avs : List AV} {T T' : Tab} {l : List Ow} {r : AV} {k : AV -> Tab -> Prop} (h : Owns T l T')
  (hc : ∀ S, (∀ a ∈ l, ∃ cap, qd6 T' S a.v = .fz a.n a.xs cap) -> PCalls P f (avs.map (qah T' S)) r) (hr : Indep r) (hk : k r T') : CallK P f avs T' k := by
 obtain ⟨S, k1, k2, k3, k4⟩ := h.fin
 exact CallK.as (ACalls.borrow k1 (fun id hid => (k2 id hid).1) (hc S k4) hr) hk
end Go.Aw
namespace Go.Aw
open Go
variable [Glob]
set_option linter.all false
theorem Wk.fzs {n : Nat} {cells cells' : List AV} {cap : Option Nat} (h : Wks cells cells') : Wk (.fz n cells cap) (.fz n cells' none) := fun X w v hv => by
 have h1 := Wk.fz (n := n) (cells := cells) (cap := cap) X w v hv
 simp only [vr] at h1 ⊢
 obtain ⟨us, h2, h3⟩ := h1
 exact ⟨us, h.vrs h2, h3⟩
theorem Wks.append : ∀ {a b c d : List AV}, Wks a b -> Wks c d -> Wks (a ++ c) (b ++ d)
 | [], [], _, _, _, h => h
 | _ :: _, _ :: _, _, _, h, k => ⟨h.1, Wks.append h.2 k⟩
section
variable {T : Tab} {S : List Nat}
theorem Own.frX {T0 T1 : Tab} {z n : Nat} {v : AV} {xs : List AV} (h : Own T0 z v n xs T1) : Aw.frX T S v = qd6 T S v := by
 rcases h.2 with ⟨rfl, _⟩ | ⟨id, rfl, _⟩ <;> rfl
end
theorem Own.lenAv {T0 T1 : Tab} {z n : Nat} {v : AV} {xs : List AV} (h : Own T0 z v n xs T1) : Aw.qiv false v = some (.i .i64 (n : Nat)) := by
 rcases h.2 with ⟨rfl, rfl, _⟩ | ⟨id, rfl, _⟩ <;> rfl
theorem Owns.lenAv {T T' : Tab} {a : Ow} {l : List Ow} (h : Owns T (a :: l) T') : Aw.qiv false a.v = some (.i .i64 (a.n : Nat)) := by
 obtain ⟨T0, _, ho⟩ := h
 exact ho.lenAv
end Go.Aw
namespace Go.Aw
open Go
set_option linter.all false
def enc (n : Nat) : List UInt8 := if h : n < 128 then [UInt8.ofNat n] else UInt8.ofNat (n % 128 + 128) :: enc (n / 128)
termination_by n
decreasing_by omega
theorem q57 {n : Nat} (h : n < 128) : enc n = [UInt8.ofNat n] := by rw [enc, dif_pos h]
theorem qk6 {n : Nat} (h : ¬ n < 128) : enc n = UInt8.ofNat (n % 128 + 128) :: enc (n / 128) := by rw [enc, dif_neg h]
theorem zcl : ∀ m : Fin 256, (BitVec.ofInt 8 (m.val : Int) ||| BitVec.ofInt 8 128).toNat = m.val % 128 + 128 := by decide +kernel
theorem z9a : ∀ m : Fin 256, (BitVec.ofInt 8 (m.val : Int) &&& BitVec.ofInt 8 127).toNat = m.val % 128 := by decide +kernel
theorem qk7 (n : Int) : IntKind.u8.wrap n = n % 256 := by
 simp [IntKind.wrap, IntKind.signed, IntKind.bits]
theorem z4h (n : Nat) : IntKind.u8.wrap ((BitVec.ofInt 8 (IntKind.u8.wrap (n : Int)) ||| BitVec.ofInt 8 128).toNat : Nat) = ((n % 128 + 128 : Nat) : Int) := by
 have h := zcl ⟨n % 256, Nat.mod_lt _ (by decide)⟩
 simp only at h
 rw [qk7 (n : Int), show (n : Int) % 256 = ((n % 256 : Nat) : Int) by omega, h, qk7]
 omega
end Go.Aw
namespace Go.Aw
open Go
set_option linter.all false
def dec : Nat -> Nat -> List UInt8 -> Option (Nat × Nat)
 | _, _, [] => none
 | i, a, c :: cs => if 9 < i \/ (i = 9 /\ 1 < c.toNat) then none else
   if c.toNat < 128 then (if c.toNat = 0 /\ 0 < i then none else some (a + c.toNat % 128 * 128 ^ i, i + 1)) else dec (i + 1) (a + c.toNat % 128 * 128 ^ i) cs
theorem z38 (i : Nat) : 128 ^ i = 2 ^ (7 * i) := by rw [show 128 = 2 ^ 7 from rfl, <- Nat.pow_mul]
theorem z9b (m : Nat) : enc m ≠ [] := by rw [enc]; split <;> simp
theorem qy3 : ∀ (k m : Nat), m < 128 ^ (k + 1) -> (enc m).length <= k + 1
 | 0, m, h => by rw [q57 (by omega)]; simp
 | k + 1, m, h => by
  by_cases h1 : m < 128
  ·rw [q57 h1]; simp
  ·rw [qk6 h1]
   have := qy3 k (m / 128) (by rw [Nat.div_lt_iff_lt_mul (by decide)]; rw [Nat.pow_succ] at h; omega)
   simp; omega
theorem K6 {m : Nat} (h : m < 18446744073709551616) : (enc m).length <= 10 := qy3 9 m (by omega)
theorem qy4 : ∀ (k n i a : Nat) (rest : List UInt8), i + k = 9 -> n < 128 ^ (k + 1) -> n * 128 ^ i < 18446744073709551616 -> (0 < i -> 0 < n) -> dec i a (enc n ++ rest) = some (a + n * 128 ^ i, i + (enc n).length)
 | k, n, i, a, rest, hk, hn, hb, h0 => by
  by_cases hs : n < 128
  ·rw [q57 hs]
   have e : (UInt8.ofNat n).toNat = n := by rw [UInt8.toNat_ofNat_of_lt' (by show n < 256; omega)]
   simp only [List.cons_append, List.nil_append, dec, e, List.length_cons, List.length_nil, Nat.zero_add]
   rw [if_neg, if_pos hs, if_neg, Nat.mod_eq_of_lt hs]
   ·rintro ⟨h1, h2⟩; have := h0 h2; omega
   ·rintro (h | ⟨rfl, h⟩)
    ·omega
    ·have : (128 : Nat) ^ 9 = 9223372036854775808 := by decide
     rw [this] at hb
     omega
  ·rw [qk6 hs]
   have e : (UInt8.ofNat (n % 128 + 128)).toNat = n % 128 + 128 := by rw [UInt8.toNat_ofNat_of_lt' (by show n % 128 + 128 < 256; omega)]
   have hk0 : k ≠ 0 := by rintro rfl; simp at hn; omega
   obtain ⟨j, rfl⟩ := Nat.exists_eq_succ_of_ne_zero hk0
   have hp : 0 < 128 ^ i := Nat.pow_pos (by decide)
   have hdiv : n / 128 * 128 + n % 128 = n := by omega
   have hsplit : n * 128 ^ i = n % 128 * 128 ^ i + n / 128 * 128 ^ (i + 1) := by
    rw [Nat.pow_succ]
    calc n * 128 ^ i = (n / 128 * 128 + n % 128) * 128 ^ i := by rw [hdiv]
     _ = n % 128 * 128 ^ i + n / 128 * (128 ^ i * 128) := by rw [Nat.add_mul, Nat.add_comm, Nat.mul_assoc, Nat.mul_comm 128]
   simp only [List.cons_append, dec, e, List.length_cons]
   rw [if_neg (by omega), if_neg (by omega), qy4 j (n / 128) (i + 1) _ rest (by omega) (by rw [Nat.div_lt_iff_lt_mul (by decide)]; rw [Nat.pow_succ] at hn; omega) (by omega) (by intro _; omega)]
   rw [show (n % 128 + 128) % 128 = n % 128 by omega, hsplit]
   congr 2
   ·omega
   ·omega
theorem z4i {n : Nat} (h : n < 18446744073709551616) (rest : List UInt8) : dec 0 0 (enc n ++ rest) = some (n, (enc n).length) := by
 rw [qy4 9 n 0 0 rest rfl (by omega) (by simpa using h) (by omega)]; simp
theorem qy5 : ∀ (bs : List UInt8) (i a n z : Nat), i <= 10 -> a < 128 ^ i -> dec i a bs = some (n, z) -> ∃ m, n = a + m * 128 ^ i /\ z = i + (enc m).length /\ (enc m).length <= bs.length /\ bs.take (enc m).length = enc m /\ n < 18446744073709551616 /\ (0 < i -> 0 < m)
 | [], _, _, _, _, _, _, h => by simp [dec] at h
 | c :: cs, i, a, n, z, hi, ha, h => by
  simp only [dec] at h
  have hc := c.toNat_lt
  split at h
  ·cases h
  ·rename_i hn
   have hi9 : i <= 9 := by omega
   have hp : 0 < 128 ^ i := Nat.pow_pos (by decide)
   split at h
   ·rename_i hs
    split at h
    ·cases h
    ·rename_i hz
     injection h with h; injection h with h1 h2
     subst h1; subst h2
     have e : UInt8.ofNat c.toNat = c := by simp
     refine ⟨c.toNat, by rw [Nat.mod_eq_of_lt hs], by rw [q57 hs]; rfl, by rw [q57 hs]; simp, by rw [q57 hs]; simp, ?_, by omega⟩
     rw [Nat.mod_eq_of_lt hs]
     by_cases h9 : i = 9
     ·subst h9
      have : (128 : Nat) ^ 9 = 9223372036854775808 := by decide
      rw [this] at ha ⊢
      have : c.toNat <= 1 := by omega
      omega
     ·have h8 : 128 ^ i <= 128 ^ 8 := Nat.pow_le_pow_right (by decide) (by omega)
      have h88 : (128 : Nat) ^ 8 = 72057594037927936 := by decide
      have : c.toNat * 128 ^ i <= 127 * 128 ^ i := Nat.mul_le_mul_right _ (by omega)
      omega
   ·rename_i hs
    have hn9 : i ≠ 9 := by omega
    have ha' : a + c.toNat % 128 * 128 ^ i < 128 ^ (i + 1) := by
     have : c.toNat % 128 * 128 ^ i <= 127 * 128 ^ i := Nat.mul_le_mul_right _ (by omega)
     rw [Nat.pow_succ]; omega
    obtain ⟨m, h1, h2, h3, h4, h5, h6⟩ := qy5 cs (i + 1) _ n z (by omega) ha' h
    have hm := h6 (by omega)
    have hbig : ¬ (m * 128 + c.toNat % 128 < 128) := by omega
    have e1 : (m * 128 + c.toNat % 128) % 128 = c.toNat % 128 := by omega
    have e2 : (m * 128 + c.toNat % 128) / 128 = m := by omega
    have e3 : UInt8.ofNat (c.toNat % 128 + 128) = c := by
     apply UInt8.toNat_inj.1
     rw [UInt8.toNat_ofNat_of_lt' (by show c.toNat % 128 + 128 < 256; omega)]; omega
    have henc : enc (m * 128 + c.toNat % 128) = c :: enc m := by rw [qk6 hbig, e1, e2, e3]
    refine ⟨m * 128 + c.toNat % 128, ?_, by rw [henc, h2, List.length_cons]; omega, by rw [henc, List.length_cons, List.length_cons]; omega, by rw [henc, List.length_cons, List.take_succ_cons, h4], h5, by omega⟩
    rw [h1, Nat.pow_succ, Nat.add_mul, Nat.mul_assoc, Nat.mul_comm 128 (128 ^ i)]; omega
theorem qua {bs : List UInt8} {n z : Nat} (h : dec 0 0 bs = some (n, z)) : z = (enc n).length /\ z <= bs.length /\ bs = enc n ++ bs.drop z /\ n < 18446744073709551616 := by
 obtain ⟨m, h1, h2, h3, h4, h5, _⟩ := qy5 bs 0 0 n z (by omega) (by decide) h
 have e : n = m := by omega
 subst e
 have hz : z = (enc n).length := by omega
 refine ⟨hz, by omega, ?_, h5⟩
 have h6 := (List.take_append_drop z bs).symm
 rw [hz, h4] at h6
 rw [hz]
 exact h6
abbrev RS := List UInt8 × Bool
def K3 (k : Nat) (s : RS) : Nat × RS :=
 if s.2 = true then (0, s) else match dec 0 0 s.1 with
  | some (n, z) => if n <= k then (n, (s.1.drop z, false)) else (0, (s.1, true))
  | none => (0, (s.1, true))
def q1o (k : Nat) (s : RS) : List UInt8 × RS :=
 if (K3 k s).2.2 = true \/ (K3 k s).2.1.length < (K3 k s).1 then ([], ((K3 k s).2.1, true)) else ((K3 k s).2.1.take (K3 k s).1, ((K3 k s).2.1.drop (K3 k s).1, false))
theorem qy6 {k : Nat} {s : RS} (h : s.2 = true) : K3 k s = (0, s) := by simp [K3, h]
theorem q21 (k : Nat) (s : RS) : (K3 k s).1 <= k := by
 unfold K3
 split
 ·exact Nat.zero_le _
 ·split
  ·split
   ·assumption
   ·exact Nat.zero_le _
  ·exact Nat.zero_le _
theorem O5 (k : Nat) (s : RS) : (K3 k s).2.1.length <= s.1.length := by
 unfold K3
 split
 ·exact Nat.le_refl _
 ·split
  ·split
   ·simp
   ·exact Nat.le_refl _
  ·exact Nat.le_refl _
theorem q6c (k : Nat) (s : RS) : (q1o k s).2.1.length <= s.1.length := by
 unfold q1o
 have := O5 k s
 split
 ·exact this
 ·simp only [List.length_drop]; omega
theorem qfz (k : Nat) (s : RS) : (q1o k s).1.length <= k := by
 unfold q1o
 have := q21 k s
 split
 ·exact Nat.zero_le _
 ·simp only [List.length_take]; omega
theorem U0 {k n : Nat} (h : n <= k) (hk : n < 18446744073709551616) (rest : List UInt8) : K3 k (enc n ++ rest, false) = (n, (rest, false)) := by
 simp only [K3, Bool.false_eq_true, if_false, z4i hk, if_pos h]
 rw [List.drop_left' rfl]
theorem q9y {k : Nat} {s : List UInt8} (h : s.length <= k) (hk : s.length < 18446744073709551616) (rest : List UInt8) : q1o k (enc s.length ++ s ++ rest, false) = (s, (rest, false)) := by
 rw [List.append_assoc]
 simp only [q1o, U0 h hk]
 rw [if_neg (by simp)]
 simp
end Go.Aw
namespace Go.Aw
open Go
variable [Glob]
set_option linter.all false
theorem q10 {a b : Nat} (h : a <= b) (hb : Len b) : Len a := by unfold Len at *; omega
def qvh (b : Bool) : UInt8 := if b = true then 1 else 0
theorem qhb (b : Bool) : [qvh b] = enc (if b = true then 1 else 0) := by cases b <;> (rw [q57 (by decide)]; rfl)
theorem enc_bit' (b : Bool) : enc (if b = true then (1 : Nat) else 0) = [qvh b] := (qhb b).symm
def V9 {α : Type} (f : RS -> α × RS) : Nat -> RS -> List α × RS
 | 0, s => ([], s)
 | n + 1, s => if s.2 = true then ([], s) else ((f s).1 :: (V9 f n (f s).2).1, (V9 f n (f s).2).2)
theorem qc9 {α : Type} {f : RS -> α × RS} {g : α -> List UInt8} {ok : α -> Prop} (hf : ∀ x rest, ok x -> f (g x ++ rest, false) = (x, (rest, false))) : ∀ (l : List α) (rest : List UInt8), (∀ x ∈ l, ok x) -> V9 f l.length (l.flatMap g ++ rest, false) = (l, (rest, false))
 | [], rest, _ => rfl
 | x :: l, rest, h => by
  have e : (x :: l).flatMap g ++ rest = g x ++ (l.flatMap g ++ rest) := by simp
  simp only [List.length_cons, V9, Bool.false_eq_true, if_false]
  rw [e, hf x _ (h x (List.mem_cons_self ..)), qc9 hf l rest fun y hy => h y (List.mem_cons_of_mem _ hy)]
theorem q6d {α : Type} {f : RS -> α × RS} (hf : ∀ s, (f s).2.1.length <= s.1.length) : ∀ (n : Nat) (s : RS), (V9 f n s).2.1.length <= s.1.length
 | 0, s => Nat.le_refl _
 | n + 1, s => by
  simp only [V9]
  split
  ·exact Nat.le_refl _
  ·exact Nat.le_trans (q6d hf n _) (hf s)
theorem qdd {α : Type} {f : RS -> α × RS} : ∀ (n : Nat) (s : RS), (V9 f n s).1.length <= n
 | 0, s => Nat.le_refl _
 | n + 1, s => by
  simp only [V9]
  split
  ·exact Nat.zero_le _
  ·have := qdd (f := f) n (f s).2; simp only [List.length_cons]; omega
theorem q8c {α : Type} {f : RS -> α × RS} {p : α -> Prop} (h : ∀ s, p (f s).1) : ∀ (n : Nat) (s : RS), ∀ x ∈ (V9 f n s).1, p x
 | 0, s, x, hx => by simp [V9] at hx
 | n + 1, s, x, hx => by
  simp only [V9] at hx
  split at hx
  ·cases hx
  ·simp only [List.mem_cons] at hx
   rcases hx with rfl | hx
   ·exact h s
   ·exact q8c h n _ x hx
theorem q58 {α : Type} {g : α -> List UInt8} {m : Nat} : ∀ (l : List α), (∀ x ∈ l, (g x).length <= m) -> (l.flatMap g).length <= l.length * m
 | [], _ => by simp
 | x :: l, h => by
  have h1 := q58 l fun y hy => h y (List.mem_cons_of_mem _ hy)
  have h2 := h x (List.mem_cons_self ..)
  rw [List.flatMap_cons, List.length_append, List.length_cons, Nat.add_mul]; omega
theorem q9z {n : Nat} (h : n < 1000000000) : IntKind.i64.wrap (((n + 1 : Nat) : Int) - 1) = (n : Int) := by rw [q2d (by unfold I64; omega)]; omega
theorem Own.at {B T1 : Tab} {id z n : Nat} {v : AV} {xs : List AV} (h : Own B z v n xs T1) (hB : B id ≠ .unused) : T1 id = B id := Owns.base_get hB (Owns.one h)
end Go.Aw
namespace Go.Aw
open Go Go.ChangeShapes Go.WideShapes Go.ChangeAt Go.RowKit
variable [Glob]
set_option linter.all false
inductive Ty where
 | int (k : IntKind)
 | bool
 | str
 | sl (e : Ty)
 | st (fs : List Ty)
 | ar (n : Nat) (e : Ty)
mutual
def q79 : Ty -> List AV -> Prop
 | .int k, cs => ∃ n, cs = [.i k n] /\ (Lit.int k n).wf = true
 | .bool, cs => ∃ b, cs = [.b b]
 | .str, cs => ∃ l : List UInt8, cs = [.s l] /\ l.length <= maxLen
 | .sl e, cs => ∃ ps : List (List AV), ps.length <= maxLen /\ (∀ p ∈ ps, q79 e p) /\ ∃ k, cs = [.fz ps.length ps.flatten k]
 | .st fs, cs => q2j fs cs
 | .ar n e, cs => ∃ ps : List (List AV), ps.length = n /\ (∀ p ∈ ps, q79 e p) /\ cs = ps.flatten
def q2j : List Ty -> List AV -> Prop
 | [], cs => cs = []
 | f :: fs, cs => ∃ a b, cs = a ++ b /\ q79 f a /\ q2j fs b
end
mutual
def qp2 (P : Program) : Ty -> TypeId -> Bool
 | .int k, t => match P.underlying t with
  | some (.int k') => decide (k' = k)
  | _ => false
 | .bool, t => match P.underlying t with
  | some .bool => true
  | _ => false
 | .str, t => match P.underlying t with
  | some .string => true
  | _ => false
 | .sl e, t => match P.underlying t with
  | some (.slice e') => qp2 P e e'
  | _ => false
 | .st fs, t => match P.underlying t with
  | some (.struct gs) => qrr P fs gs.toList 0 (P.cellsOf t)
  | _ => false
 | .ar n e, t => match P.underlying t with
  | some (.array m e') => decide (m = n) && qp2 P e e' && decide (P.cellsOf t = n * P.cellsOf e')
  | _ => false
def qrr (P : Program) : List Ty -> List Field -> Nat -> Nat -> Bool
 | [], [], o, n => decide (o = n)
 | f :: fs, g :: gs, o, n => decide (g.offset = o) && qp2 P f g.type && qrr P fs gs (o + P.cellsOf g.type) n
 | _, _, _, _ => false
end
section
variable {P : Program} {X : Cx} {W : World} {H : Type} {enc : TypeId × Value -> H} {base : Nat} {sp : Nat -> Bool} {held : Bool}
theorem z18 {a : Addr} {j : Nat} {u : Value} (h : W.cell? (a.add j) = some u) : W.cell? ⟨a.block, a.off + j, none⟩ = some u := by
 by_cases hj : j = 0
 ·subst hj
  have e : a.add 0 = a := by simp [Addr.add]
  rw [e] at h
  have hs : a.spot = none := by
   unfold World.cell? at h
   split at h
   ·split at h
    ·cases h
    ·rename_i hs; simpa using hs
   ·cases h
  rw [qd5 hs] at h
  simpa using h
 ·simpa [Addr.add, hj] using h
theorem add_add' (a : Addr) (i j : Nat) : (a.add i).add j = a.add (i + j) := by
 unfold Addr.add
 by_cases hi : i = 0 <;> by_cases hj : j = 0 <;> simp [hi, hj, Nat.add_assoc]
theorem qy7 {a : Addr} {u : Value} (h : W.cell? a = some u) : a.block < W.heap.size := by
 unfold World.cell? at h
 split at h
 ·rename_i hb; exact (Array.getElem?_eq_some_iff.1 hb).1
 ·cases h
theorem qy8 {a : Addr} {u : Value} (h : W.cell? a = some u) : a.spot = none := by
 unfold World.cell? at h
 split at h
 ·split at h
  ·cases h
  ·rename_i hs; simpa using hs
 ·cases h
theorem qrs {l m : List AV} {us vs : List Value} (h : vrs X W l us) (k : vrs X W m vs) : vrs X W (l ++ m) (us ++ vs) := by
 induction l generalizing us with
 | nil => simp only [vrs] at h; subst h; exact k
 | cons x l ih =>
  simp only [vrs] at h
  obtain ⟨u, us', rfl, h1, h2⟩ := h
  exact ⟨u, us' ++ vs, rfl, h1, ih h2⟩
theorem z19 {z : Nat} {e : Ty} {a : Addr} {len : Nat} (h : ∀ i, i < len -> ∃ cs ps, cs.length = z /\ (∀ r, r < z -> W.cell? ((a.add (i * z)).add r) = cs[r]?) /\ vrs X W ps cs /\ q79 e ps /\ ∀ u ∈ cs, u.oneCell' = true) :
  ∃ (us : List Value) (ps : List (List AV)), ps.length = len /\ us.length = len * z /\ vrs X W ps.flatten us /\ (∀ p ∈ ps, q79 e p) /\ (∀ u ∈ us, u.oneCell' = true) /\ ∀ (j : Nat) u, us[j]? = some u -> W.cell? (a.add j) = some u := by
 induction len with
 | zero => exact ⟨[], [], rfl, by simp, by simp [vrs], by simp, by simp, by simp⟩
 | succ n ih =>
  obtain ⟨us, ps, h1, h2, h3, h4, h5, h6⟩ := ih fun i hi => h i (Nat.lt_succ_of_lt hi)
  obtain ⟨cs, p, k1, k2, k3, k4, k5⟩ := h n (Nat.lt_succ_self n)
  refine ⟨us ++ cs, ps ++ [p], by simp [h1], by simp [h2, k1, Nat.succ_mul], ?_, ?_, ?_, ?_⟩
  ·rw [List.flatten_append]
   simpa using qrs h3 k3
  ·intro q hq
   rcases List.mem_append.1 hq with hq | hq
   ·exact h4 q hq
   ·rw [List.mem_singleton] at hq; subst hq; exact k4
  ·intro u hu
   rcases List.mem_append.1 hu with hu | hu
   ·exact h5 u hu
   ·exact k5 u hu
  ·intro j u hj
   by_cases hlt : j < us.length
   ·rw [List.getElem?_append_left hlt] at hj; exact h6 j u hj
   ·rw [List.getElem?_append_right (by omega)] at hj
    have hr : j - us.length < z := by rw [<- k1]; exact (List.getElem?_eq_some_iff.1 hj).1
    have := k2 (j - us.length) hr
    rw [hj, add_add', show n * z + (j - us.length) = j by omega] at this
    exact this
mutual
theorem qo1 (hX : ∀ b, b < W.heap.size -> X.fz b) : ∀ (ty : Ty) {t : TypeId} {fuel : Nat} {cs : List Value} {x : DataW H × List MemPlace}, qp2 P ty t = true -> DataW.trod enc P W base sp held fuel t cs = some x ->
  ∃ avs, vrs X W avs cs /\ q79 ty avs /\ ∀ u ∈ cs, u.oneCell' = true
 | .int k, t, fuel, cs, x, ht, h => by
  simp only [qp2] at ht
  split at ht
  ·rename_i k' hu
   have hk : k' = k := of_decide_eq_true ht
   subst hk
   obtain ⟨n, e1, _, hw⟩ := DataW.trod_int hu h
   subst e1
   exact ⟨[.i k' n], by simp [vrs, vr], by simp only [q79]; exact ⟨n, rfl, hw⟩, by simp [Value.oneCell']⟩
  ·cases ht
 | .bool, t, fuel, cs, x, ht, h => by
  simp only [qp2] at ht
  split at ht
  ·rename_i hu
   cases fuel with
   | zero => simp [DataW.trod] at h
   | succ n =>
    unfold DataW.trod at h
    rw [hu] at h
    split at h <;> simp_all
    rename_i b
    exact ⟨[.b b], by simp [vrs, vr], by simp only [q79]; exact ⟨b, rfl⟩, by simp [Value.oneCell']⟩
  ·cases ht
 | .str, t, fuel, cs, x, ht, h => by
  simp only [qp2] at ht
  split at ht
  ·rename_i hu
   cases fuel with
   | zero => simp [DataW.trod] at h
   | succ n =>
    unfold DataW.trod at h
    rw [hu] at h
    split at h <;> simp_all
    rename_i s
    exact ⟨[.s s.data.toList], by simp [vrs, vr], by simp only [q79]; exact ⟨_, rfl, by have h1 := h.1; rw [Array.length_toList]; exact h1⟩, by simp [Value.oneCell']⟩
  ·cases ht
 | .sl e, t, fuel, cs, x, ht, h => by
  simp only [qp2] at ht
  split at ht
  ·rename_i e' hu
   rcases DataW.trod_slice hu h with ⟨rfl, _⟩ | ⟨a, len, cap, elems, rest, n, _, rfl, _, _, hl, hm, hlen, hel, _⟩
   ·exact ⟨[.fz 0 [] (some 0)], by simp [vrs, vr, fzSlice, qp4], by simp only [q79]; exact ⟨[], Nat.zero_le _, by simp, some 0, rfl⟩, by simp [Value.oneCell']⟩
   ·obtain ⟨us, ps, h1, h2, h3, h4, h5, h6⟩ := z19 (X := X) (W := W) (z := P.cellsOf e') (e := e) (a := a) (len := len) (fun i hi => by
     have k := hel i hi
     rw [List.getElem?_eq_getElem (by omega)] at k
     obtain ⟨cs', k1, k2⟩ := Option.bind_eq_some_iff.1 k
     obtain ⟨_, k3, k4⟩ := World.cells?_some k1
     obtain ⟨ps, k5, k6, k7⟩ := qo1 hX e ht k2
     exact ⟨cs', ps, k3, k4, k5, k6, k7⟩)
    refine ⟨[.fz len ps.flatten none], ?_, ?_, by simp [Value.oneCell']⟩
    ·simp only [vrs, vr]
     refine ⟨_, [], rfl, ⟨us, h3, .inr ⟨a, cap, rfl, ?_, hl, (fun k hk => by cases hk), ?_⟩⟩, rfl⟩
     ·cases us with
      | nil => exact .inl rfl
      | cons u us =>
       have := h6 0 u rfl
       have e0 : a.add 0 = a := by simp [Addr.add]
       rw [e0] at this
       exact .inr (qy8 this)
     ·cases us with
      | nil => exact .inl rfl
      | cons u us =>
       have := h6 0 u rfl
       have e0 : a.add 0 = a := by simp [Addr.add]
       rw [e0] at this
       exact .inr ⟨hX _ (qy7 this), h5, fun j v hv => z18 (h6 j v hv)⟩
    ·simp only [q79]
     exact ⟨ps, by omega, h4, none, by rw [h1]⟩
  ·cases ht
 | .st fs, t, fuel, cs, x, ht, h => by
  simp only [qp2] at ht
  split at ht
  ·rename_i gs hu
   obtain ⟨xs, n, _, _, hl, hlen, hf⟩ := DataW.trod_struct hu h
   obtain ⟨avs, h1, h2, h3⟩ := qub hX fs (cs := cs) (o := 0) (n := P.cellsOf t) (m := n) (gs := gs.toList) ht (by omega) (fun g hg => by
    obtain ⟨i, hi, rfl⟩ := List.mem_iff_getElem.1 hg
    have hi' : i < gs.size := by simpa using hi
    have := hf i gs[i] (Array.getElem?_eq_getElem hi')
    rw [List.getElem?_eq_getElem (by omega)] at this
    exact ⟨_, by simpa using this⟩)
   refine ⟨avs, ?_, ?_, ?_⟩
   ·simpa using h1
   ·simp only [q79]; exact h2
   ·simpa using h3
  ·cases ht
 | .ar n e, t, fuel, cs, x, ht, h => by
  simp only [qp2] at ht
  split at ht
  ·rename_i m e' hu
   simp only [Bool.and_eq_true, decide_eq_true_eq] at ht
   obtain ⟨⟨rfl, ht⟩, hc⟩ := ht
   obtain ⟨xs, q, _, _, hl, hlen, hf⟩ := DataW.trod_array hu h
   rw [hc] at hl
   have key : ∀ k, k <= m -> ∃ ps : List (List AV), ps.length = k /\ (∀ p ∈ ps, q79 e p) /\ vrs X W ps.flatten (cs.take (k * P.cellsOf e')) /\ ∀ u ∈ cs.take (k * P.cellsOf e'), u.oneCell' = true := by
    intro k
    induction k with
    | zero => intro _; exact ⟨[], rfl, by simp, by simp [vrs], by simp⟩
    | succ k ih =>
     intro hk
     obtain ⟨ps, h1, h2, h3, h4⟩ := ih (by omega)
     have hx := hf k (by omega)
     rw [List.getElem?_eq_getElem (by omega)] at hx
     obtain ⟨avs, a1, a2, a3⟩ := qo1 hX e ht hx
     have e1 : cs.take ((k + 1) * P.cellsOf e') = cs.take (k * P.cellsOf e') ++ (cs.drop (k * P.cellsOf e')).take (P.cellsOf e') := by
      rw [Nat.add_mul, Nat.one_mul, List.take_add]
     rw [e1]
     refine ⟨ps ++ [avs], by simp [h1], ?_, ?_, ?_⟩
     ·intro p hp
      rcases List.mem_append.1 hp with hp | hp
      ·exact h2 p hp
      ·rw [List.mem_singleton] at hp; subst hp; exact a2
     ·rw [List.flatten_append]; simpa using qrs h3 a1
     ·intro u hu
      rcases List.mem_append.1 hu with hu | hu
      ·exact h4 u hu
      ·exact a3 u hu
   obtain ⟨ps, h1, h2, h3, h4⟩ := key m (Nat.le_refl _)
   rw [List.take_of_length_le (by omega)] at h3 h4
   exact ⟨ps.flatten, h3, by simp only [q79]; exact ⟨ps, h1, h2, rfl⟩, h4⟩
  ·cases ht
theorem qub (hX : ∀ b, b < W.heap.size -> X.fz b) : ∀ (fs : List Ty) {gs : List Field} {o n m : Nat} {cs : List Value}, qrr P fs gs o n = true -> cs.length = n ->
  (∀ g ∈ gs, ∃ x, DataW.trod enc P W base sp held m g.type ((cs.drop g.offset).take (P.cellsOf g.type)) = some x) ->
  ∃ avs, vrs X W avs (cs.drop o) /\ q2j fs avs /\ ∀ u ∈ cs.drop o, u.oneCell' = true
 | [], gs, o, n, m, cs, ht, hn, h => by
  cases gs with
  | cons g gs => simp [qrr] at ht
  | nil =>
   simp only [qrr] at ht
   have : o = n := of_decide_eq_true ht
   have e : cs.drop o = [] := List.drop_eq_nil_of_le (by omega)
   rw [e]
   exact ⟨[], by simp [vrs], by simp only [q2j], by simp⟩
 | f :: fs, gs, o, n, m, cs, ht, hn, h => by
  cases gs with
  | nil => simp [qrr] at ht
  | cons g gs =>
   simp only [qrr, Bool.and_eq_true] at ht
   obtain ⟨⟨h1, h2⟩, h3⟩ := ht
   have ho : g.offset = o := of_decide_eq_true h1
   obtain ⟨x, hx⟩ := h g (List.mem_cons_self ..)
   rw [ho] at hx
   obtain ⟨a, a1, a2, a3⟩ := qo1 hX f h2 hx
   obtain ⟨b, b1, b2, b3⟩ := qub hX fs h3 hn fun g' hg' => h g' (List.mem_cons_of_mem _ hg')
   have e : cs.drop o = (cs.drop o).take (P.cellsOf g.type) ++ cs.drop (o + P.cellsOf g.type) := by
    rw [<- List.drop_drop]; exact (List.take_append_drop _ _).symm
   rw [e]
   refine ⟨a ++ b, qrs a1 b1, ?_, ?_⟩
   ·simp only [q2j]; exact ⟨a, b, rfl, a2, b2⟩
   ·intro u hu
    rcases List.mem_append.1 hu with hu | hu
    ·exact a3 u hu
    ·exact b3 u hu
end
def z4j : Ty -> AV -> Prop
 | .st fs, a => ∃ cells, a = .agg cells /\ q2j fs cells
 | .ar n e, a => ∃ cells, a = .agg cells /\ q79 (.ar n e) cells
 | ty, a => q79 ty [a]
def qk8 : List Ty -> List AV -> Prop
 | [], as => as = []
 | t :: ts, as => ∃ a as', as = a :: as' /\ z4j t a /\ qk8 ts as'
def qn4 (P : Program) : List Ty -> List TypeId -> Bool
 | [], [] => true
 | ty :: tys, t :: ts => qp2 P ty t && qn4 P tys ts
 | _, _ => false
theorem quc {v : Value} {avs : List AV} {ty : Ty} (h : ∀ cs, v ≠ .agg cs) (h1 : vrs X W avs v.cells.toList) (h2 : q79 ty avs) : ∃ a, vr X W a v /\ q79 ty [a] := by
 have e : v.cells = #[v] := by
  cases v <;> first | rfl | exact absurd rfl (h _)
 rw [e] at h1
 match avs, h1 with
 | [a], h1 =>
  simp only [vrs] at h1
  obtain ⟨u, us', hu, h1, rfl⟩ := h1
  injection hu with hu; subst hu
  exact ⟨a, h1, h2⟩
 | [], h1 => simp [vrs] at h1
 | a :: b :: l, h1 =>
  simp only [vrs] at h1
  obtain ⟨u, us', hu, _, u2, us2, rfl, _⟩ := h1
  simp at hu
theorem z9c (hX : ∀ b, b < W.heap.size -> X.fz b) {ty : Ty} {t : TypeId} {v : Value} {d : DataW H} {ps : List MemPlace} {r : Reach} {b0 : Nat} (ht : qp2 P ty t = true) (hval : Value.okWide P W r b0 t v) (hd : DataW.Trod enc P W base sp held t v d ps) :
  ∃ a, vr X W a v /\ z4j ty a := by
 obtain ⟨fuel, h⟩ := hd
 obtain ⟨avs, h1, h2, h3⟩ := qo1 hX ty ht h
 cases ty with
 | st fs =>
  simp only [qp2] at ht
  split at ht
  ·rename_i gs hu
   unfold Value.okWide at hval
   rw [hu] at hval
   obtain ⟨cs, rfl, _⟩ := hval
   exact ⟨.agg avs, by simp only [vr]; exact ⟨cs.toList, h1, h3, by simp⟩, avs, rfl, h2⟩
  ·cases ht
 | ar n e =>
  simp only [qp2] at ht
  split at ht
  ·rename_i m e' hu
   unfold Value.okWide at hval
   rw [hu] at hval
   obtain ⟨cs, rfl, _⟩ := hval
   exact ⟨.agg avs, by simp only [vr]; exact ⟨cs.toList, h1, h3, by simp⟩, avs, rfl, h2⟩
  ·cases ht
 | int k =>
  refine quc (fun cs e => ?_) h1 h2
  subst e
  simp only [qp2] at ht
  split at ht
  ·rename_i k' hu
   unfold Value.okWide Cell.okWide Cell.ok at hval
   rw [hu] at hval
   exact hval
  ·cases ht
 | bool =>
  refine quc (fun cs e => ?_) h1 h2
  subst e
  simp only [qp2] at ht
  split at ht
  ·rename_i hu
   unfold Value.okWide Cell.okWide Cell.ok at hval
   rw [hu] at hval
   exact hval
  ·cases ht
 | str =>
  refine quc (fun cs e => ?_) h1 h2
  subst e
  simp only [qp2] at ht
  split at ht
  ·rename_i hu
   unfold Value.okWide Cell.okWide Cell.ok at hval
   rw [hu] at hval
   exact hval
  ·cases ht
 | sl e =>
  refine quc (fun cs e => ?_) h1 h2
  subst e
  simp only [qp2] at ht
  split at ht
  ·rename_i e' hu
   unfold Value.okWide Cell.okWide Cell.ok at hval
   rw [hu] at hval
   exact hval
  ·cases ht
theorem qy9 (hX : ∀ b, b < W.heap.size -> X.fz b) {r : Reach} {b0 : Nat} : ∀ {tys : List Ty} {ts : List TypeId} {vs : List Value} {ds : List (DataW H)} {ps : List MemPlace}, qn4 P tys ts = true ->
  (∀ (j : Nat) t v, ts[j]? = some t -> vs[j]? = some v -> Value.okWide P W r b0 t v) -> DataW.TrodAll enc P W base sp held ts vs ds ps -> ∃ as, vrs X W as vs /\ qk8 tys as
 | [], [], vs, ds, ps, _, _, h => by
  obtain ⟨rfl, _, _⟩ := trodAll_nil h
  exact ⟨[], by simp [vrs], by simp only [qk8]⟩
 | ty :: tys, t :: ts, vs, ds, ps, ht, hv, h => by
  simp only [qn4, Bool.and_eq_true] at ht
  obtain ⟨v, vs', d, ds', p, q, rfl, rfl, rfl, hd, hrest⟩ := trodAll_cons h
  obtain ⟨a, h1, h2⟩ := z9c hX ht.1 (hv 0 t v rfl rfl) hd
  obtain ⟨as, h3, h4⟩ := qy9 hX ht.2 (fun j t v h5 h6 => hv (j + 1) t v (by simpa using h5) (by simpa using h6)) hrest
  exact ⟨a :: as, by simp only [vrs]; exact ⟨v, vs', rfl, h1, h3⟩, by simp only [qk8]; exact ⟨a, as, rfl, h2, h4⟩⟩
 | [], _ :: _, _, _, _, ht, _, _ => by simp [qn4] at ht
 | _ :: _, [], _, _, _, ht, _, _ => by simp [qn4] at ht
theorem qg0 (hl : laidOutB P = true) {W' : World} (hb : Below W.heap.size W W') : ∀ {ts : List TypeId} {vs : List Value} {ds : List (DataW H)} {ps : List MemPlace}, (∀ t ∈ ts, P.readableRec t = true /\ t < P.types.size) ->
  DataW.TrodAll enc P W 0 (fun _ => true) true ts vs ds ps -> (∀ x ∈ ps, x.block < W.heap.size) -> DataW.TrodAll enc P W' 0 (fun b => decide (b < W.heap.size)) true ts vs ds ps
 | [], vs, ds, ps, _, h, _ => by
  obtain ⟨rfl, rfl, rfl⟩ := trodAll_nil h
  simp [DataW.TrodAll]
 | t :: ts, vs, ds, ps, hp, h, hx => by
  obtain ⟨v, vs', d, ds', p, q, rfl, rfl, rfl, hd, hrest⟩ := trodAll_cons h
  have h1 := hp t (List.mem_cons_self ..)
  exact ⟨p, q, Below.trod hl h1.1 h1.2 hd hb (fun x hm => hx x (List.mem_append_left _ hm)), qg0 hl hb (fun t ht => hp t (List.mem_cons_of_mem _ ht)) hrest (fun x hm => hx x (List.mem_append_right _ hm)), rfl⟩
def cx0 (W : World) : Cx := ⟨fun b => b < W.heap.size, fun _ => default, 0⟩
theorem zek (W : World) (hg : ∀ p ∈ Glob.gl, W.cell? ⟨p.1, 0, none⟩ = some p.2) : Rel (cx0 W) Tab.nil [] (fun _ => 0) W := by
 have hn : ∀ id, Tab.nil id = .unused := fun _ => rfl
 refine ⟨fun _ _ => rfl, fun b h => h, fun id z c h => ?_, fun id es h => ?_, fun id h => absurd (hn id) h, fun id id' h => absurd (hn id) h, fun l c h => ?_, fun l c h => ?_, fun l l' c c' h => ?_, fun l c h => ?_, fun p hp => ⟨qy7 (hg p hp), hg p hp⟩⟩
 ·rw [hn] at h; cases h
 ·rw [hn] at h; cases h
 ·simp [q19] at h
 ·simp [q19] at h
 ·simp [q19] at h
 ·simp [q19] at h
theorem z9d {X' : Cx} {T' : Tab} {W' : World} (h : Step (cx0 W) Tab.nil W X' T' W') : Below W.heap.size W W' :=
 ⟨h.os, h.tape, h.output, h.size, fun k hk => h.kept k hk fun ⟨id, hid, _⟩ => hid rfl⟩
theorem z4k {f : FuncId} {fn : Func} {s : ChangeSpec} {tb : TypeId} {apart fresh : Bool} (tys : List Ty) (hty : qn4 P tys fn.params.toList = true) (hr : fn.resultTypes = #[tb]) (htb : P.underlying tb = some .bool) (hvars : s.vars = [])
  (hs : ∀ (ds : List (DataW H)), ds.length = fn.params.size -> s.fn H ds = { results := [.lit (.bool true)], args := ds }) (hl : laidOutB P = true) (hp : ∀ t ∈ fn.params.toList, P.readableRec t = true /\ t < P.types.size)
  (hcall : ∀ as, qk8 tys as -> ACalls P f as Tab.nil (fun v T' => v = .b true /\ T' = Tab.nil)) (W : World) (hgl : ∀ p ∈ Glob.gl, W.cell? ⟨p.1, 0, none⟩ = some p.2) (base : Nat) (args : Array Value) (ds gs : List (DataW H)) (before : List MemPlace)
  (hval : ∀ (j : Nat) t v, fn.params[j]? = some t -> args[j]? = some v -> Value.okWide P W .any base t v) (hW : DataW.Whole enc P fn.params.toList s.vars apart W args.toList ds gs before) :
  Calls P f args W fun e W' => ∃ v, e = .returned v /\ s.post enc P fn apart fresh false false W args v W' := by
 have hlt : ∀ p ∈ before, p.block < W.heap.size := fun p hp => hW.lt p hp
 have hW' := hW
 obtain ⟨p, q, hA, hV, rfl, hfz, hnd⟩ := hW
 rw [hvars] at hV
 obtain ⟨rfl, rfl⟩ := trodVars_none hV
 obtain ⟨as, h1, h2⟩ := qy9 (X := cx0 W) (fun b hb => hb) hty (fun j t v h3 h4 => hval j t v (by simpa using h3) (by simpa using h4)) hA
 have hc := hcall as h2 (cx0 W) _ W args.toList (zek W hgl) h1
 refine hc.mono fun e W' ⟨v, x, T', X', lam', he, ⟨hx, _⟩, hv, _, hst⟩ => ?_
 subst he; subst hx
 simp only [vr] at hv
 subst hv
 have hb := z9d hst
 have hlen : ds.length = fn.params.size := by
  have key : ∀ {ts : List TypeId} {vs : List Value} {ds : List (DataW H)} {ps : List MemPlace}, DataW.TrodAll enc P W 0 (fun _ => true) true ts vs ds ps -> ds.length = ts.length := by
   intro ts
   induction ts with
   | nil => intro vs ds ps h; obtain ⟨_, rfl, _⟩ := trodAll_nil h; rfl
   | cons t ts ih => intro vs ds ps h; obtain ⟨v, vs', d, ds', p, q, rfl, rfl, rfl, hd, hrest⟩ := trodAll_cons h; simp [ih hrest]
  simpa using key hA
 simp only [List.append_nil] at hlt
 have hs' := hs ds hlen
 refine ⟨_, rfl, ds, [], p ++ [], [], p, [], hW', ?_, ?_, ?_, hb.frame _, fun h => nomatch h⟩
 ·rw [List.append_nil, hs', hr]
  exact trodAll_mk1 (RowKit.shut_bool htb true)
 ·rw [List.append_nil, hs']
  exact qg0 hl hb hp hA hlt
 ·rw [hvars, List.append_nil, hs']
  rfl
end
end Go.Aw
namespace Go.Aw
open Go
variable [Glob]
set_option linter.all false
theorem z9e {k : IntKind} {n : Int} (h : (Lit.int k n).wf = true) : k.min <= n /\ n <= k.max := by
 simp [Lit.wf, IntKind.has] at h
 exact h
theorem q59 {n : Int} (h : (Lit.int .i64 n).wf = true) : I64 n := by
 have := z9e h
 simp [IntKind.min, IntKind.max, IntKind.signed, IntKind.bits] at this
 unfold I64
 omega
theorem qe7 {n : Int} (h : (Lit.int .u64 n).wf = true) : 0 <= n /\ n < 18446744073709551616 := by
 have := z9e h
 simp [IntKind.min, IntKind.max, IntKind.signed, IntKind.bits] at this
 omega
theorem qya {α : Type} {e : Ty} {cells : α -> List AV} {ok : α -> Prop} (h : ∀ p, q79 e p -> ∃ x, p = cells x /\ ok x) : ∀ (ps : List (List AV)), (∀ p ∈ ps, q79 e p) -> ∃ l : List α, l.length = ps.length /\ ps.flatten = l.flatMap cells /\ ∀ x ∈ l, ok x
 | [], _ => ⟨[], rfl, rfl, by simp⟩
 | p :: ps, hp => by
  obtain ⟨l, h1, h2, h3⟩ := qya h ps fun q hq => hp q (List.mem_cons_of_mem _ hq)
  obtain ⟨x, rfl, hx⟩ := h p (hp p (List.mem_cons_self ..))
  refine ⟨x :: l, by simp [h1], by simp [h2], ?_⟩
  intro y hy
  rcases List.mem_cons.1 hy with rfl | hy
  ·exact hx
  ·exact h3 y hy
theorem qde {α : Type} {e : Ty} {cells : α -> List AV} {ok : α -> Prop} (h : ∀ p, q79 e p -> ∃ x, p = cells x /\ ok x) {p : List AV} (hp : q79 (.sl e) p) :
  ∃ (l : List α) (k : Option Nat), p = [.fz l.length (l.flatMap cells) k] /\ Len l.length /\ ∀ x ∈ l, ok x := by
 simp only [q79] at hp
 obtain ⟨ps, hps, hf, k, rfl⟩ := hp
 obtain ⟨l, h1, h2, h3⟩ := qya h ps hf
 refine ⟨l, k, by rw [h1, h2], ?_, h3⟩
 unfold Len
 rw [h1]
 unfold maxLen at hps
 omega
theorem cpn {P : Program} {f : FuncId} {avs : List AV} {r : AV} {K : Env -> Loc -> Tab -> Prop} {e : Env} {L : Loc} {d : Option Nat} {T : Tab} (h : PCalls P f avs r) (hk : K (q06 e d r) L T) : CallK P f avs T (aft K e L d []) := CallK.pure h (J1 hk)
theorem can {P : Program} {f : FuncId} {avs : List AV} {r : AV} {K : Env -> Loc -> Tab -> Prop} {e : Env} {L : Loc} {d : Option Nat} {T T1 : Tab} (h : ACalls P f avs T (fun v T' => v = r /\ T' = T1)) (hk : K (q06 e d r) L T1) : CallK P f avs T (aft K e L d []) := CallK.as h (J1 hk)
end Go.Aw
