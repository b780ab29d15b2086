import Derived.Test.YtchdmofoaokpjaaGreatDoorM30N17F04A
import Derived.Test.YtchdmofoaokpjaaGreatDoorAwD
import Derived.Test.YtchdmofoaokpjaaGreatDoorM30N17E12G
import Derived.Test.YtchdmofoaokpjaaGreatDoorM30N17E12D
namespace Go.Aw
open Go
open Go.Proofs.Tryz (prog)
set_option linter.all false
set_option maxHeartbeats 4000000
abbrev wv (x : W) : AV := .i .u32 (x.toNat : Int)
theorem qh0 (n : Nat) (h : n < 4294967296) : IntKind.u32.wrap (n : Int) = n := by
 simp [IntKind.wrap, IntKind.signed, IntKind.bits]; omega
theorem zaf (x : W) : BitVec.ofInt IntKind.u32.bits (x.toNat : Int) = x := by
 show BitVec.ofInt 32 (x.toNat : Int) = x
 rw [BitVec.ofInt_natCast, BitVec.ofNat_toNat]; simp
theorem zag (x y : W) : IntKind.u32.wrap ((BitVec.ofInt IntKind.u32.bits (x.toNat : Int) ^^^ BitVec.ofInt IntKind.u32.bits (y.toNat : Int)).toNat : Int) = ((x ^^^ y).toNat : Int) := by
 rw [zaf, zaf]; exact qh0 _ (x ^^^ y).isLt
theorem z40 (x : W) : IntKind.u32.wrap ((BitVec.ofInt IntKind.u32.bits (x.toNat : Int) &&& BitVec.ofInt IntKind.u32.bits 1).toNat : Int) = ((x &&& 1#32).toNat : Int) := by
 rw [zaf, show BitVec.ofInt IntKind.u32.bits 1 = (1#32 : W) from rfl]; exact qh0 _ (x &&& 1#32).isLt
theorem zah (x : W) : IntKind.u32.wrap ((BitVec.ofInt IntKind.u32.bits 3988292384 &&& BitVec.ofInt IntKind.u32.bits (x.toNat : Int)).toNat : Int) = ((z0u &&& x).toNat : Int) := by
 rw [zaf, show BitVec.ofInt IntKind.u32.bits 3988292384 = (z0u : W) from rfl]; exact qh0 _ (z0u &&& x).isLt
theorem ze3 (x : W) : IntKind.u32.wrap (0 - (x.toNat : Int)) = ((-x).toNat : Int) := by
 have := x.isLt
 simp only [IntKind.wrap, IntKind.signed, IntKind.bits, BitVec.toNat_neg]
 simp; omega
theorem ze4 (x : W) : (x.toNat : Int).fdiv (2 ^ (min 1 32 : Nat)) = ((x >>> 1).toNat : Int) := by
 rw [BitVec.toNat_ushiftRight, Nat.shiftRight_eq_div_pow]
 show (x.toNat : Int).fdiv (2 ^ 1) = _
 rw [Int.fdiv_eq_ediv_of_nonneg _ (by decide)]; norm_cast
theorem z2v (x : W) : qnj x = (x >>> 1) ^^^ (z0u &&& -(x &&& 1#32)) := rfl
theorem z65 {R : G9} (hR : ExtR R) {T : Tab} {l : AV} {n i : AV} (hl : l.plain = true /\ n.plain = true /\ i.plain = true) : ∀ (m k : Nat), k + m = 8 -> ∀ (x : W),
  R (.exit 2) [(0, wv (it m x)), (7, l), (8, n), (9, i), (17, .i .i64 8), (18, .b false)] [] T ->
  AW prog qfg R [(0, wv x), (7, l), (8, n), (9, i), (17, .i .i64 k)] [] T := by
 intro m
 induction m with
 | zero =>
  intro k hk x h2
  have : k = 8 := by omega
  subst this
  refine V1 hR ?_
  unfold qd1
  obtain ⟨h3, h4, h5⟩ := hl
  simp -implicitDefEqProofs -dsimp only [go_sem, seval, show ((8 : Nat) : Int) = 8 from rfl, h3, h4, h5]
  exact h2
 | succ m ih =>
  intro k hk x h2
  have hk8 : (k : Int) < 8 := by omega
  have hws : IntKind.i64.wrap ((k : Int) + 1) = ((k + 1 : Nat) : Int) := O8 (by omega)
  refine Q1 (l := qfg) rfl hR ?_
  unfold qd1
  have hl' := hl
  obtain ⟨h3, h4, h5⟩ := hl
  simp -implicitDefEqProofs -dsimp only [go_sem, seval, hk8, h3, h4, h5, hws, z40, ze3, zah, ze4, zag]
  rw [<- z2v]
  exact ih (k + 1) (by omega) (qnj x) h2
attribute [go_sem] z3r qyn qyo qyp qyq qyr
attribute [go_sem ↓] qys
theorem qwh {l : List UInt8} {k : Nat} {b : UInt8} (h : l[k]? = some b) : ((K8 l).drop k)[0]? = some (.i .u8 (b.toNat : Int)) := by
 simp [K8, h]
theorem ze5 (b : UInt8) : IntKind.u32.wrap (b.toNat : Int) = (((BitVec.ofNat 32 b.toNat : W)).toNat : Int) := by
 have := b.toNat_lt
 rw [qh0 _ (by omega), BitVec.toNat_ofNat]; congr 1; omega
theorem z66 {R : G9} (hR : ExtR R) {T : Tab} {l : List UInt8} {cap : Option Nat} (hl : l.length <= 1000000000) : ∀ (ys : List UInt8) (k : Nat), l.drop k = ys -> k <= l.length -> ∀ (x : W),
  R (.exit 0) [(0, wv (more x ys)), (7, bts l cap), (8, .i .i64 l.length), (9, .i .i64 l.length), (10, .b false)] [] T ->
  AW prog qfh R [(0, wv x), (7, bts l cap), (8, .i .i64 l.length), (9, .i .i64 k)] [] T := by
 intro ys
 induction ys with
 | nil =>
  intro k hk hle x h2
  have hk' := V6 hk hle
  refine V1 hR ?_
  unfold qd2
  simp -implicitDefEqProofs -dsimp only [go_sem, seval, hk', Int.lt_irrefl]
  rw [hk'] at h2
  exact h2
 | cons y ys ih =>
  intro k hk hle x h2
  obtain ⟨hlt, hy, hk'⟩ := Y6 hk
  have hws : IntKind.i64.wrap ((k : Int) + 1) = ((k + 1 : Nat) : Int) := O8 (by omega)
  have hc := qwh hy
  refine Q1 (l := qfh) rfl hR ?_
  unfold qd2
  simp -implicitDefEqProofs -dsimp only [go_sem, seval, Int.ofNat_lt, hlt, bts, Int.natCast_nonneg, Int.toNat_natCast, Nat.mul_one, hc, ze5, zag]
  refine z65 (by repeat' (first | exact O6 _ _ | assumption | apply O5 | apply N4 | apply V8)) ⟨rfl, rfl, rfl⟩ 8 0 rfl _ ?_
  simp -implicitDefEqProofs -dsimp only [go_sem, seval, hws]
  exact ih (k + 1) hk' hlt _ h2
theorem z67 (x : W) (l : List UInt8) (cap : Option Nat) (hl : l.length <= 1000000000) : PCalls prog qdk [wv x, bts l cap] (wv (more x l)) := by
 refine K6 U1 qvx (by simp) fun T => ?_
 unfold qng
 simp -implicitDefEqProofs -dsimp only [go_sem, seval]
 refine z66 (l := l) (cap := cap) (by repeat' (first | exact O6 _ _ | assumption | apply O5 | apply N4 | apply V8)) hl l 0 rfl (by omega) x ?_
 simp -implicitDefEqProofs -dsimp only [go_sem, seval]
 exact J9 rfl
theorem ze6 (x : W) : IntKind.u32.wrap ((BitVec.ofInt IntKind.u32.bits (if IntKind.u32.signed = true then -1 else IntKind.u32.max) ^^^ BitVec.ofInt IntKind.u32.bits (x.toNat : Int)).toNat : Int) = ((~~~x).toNat : Int) := by
 rw [zaf, show (BitVec.ofInt IntKind.u32.bits (if IntKind.u32.signed = true then -1 else IntKind.u32.max)) = (BitVec.allOnes 32 : W) from rfl]
 show IntKind.u32.wrap ((BitVec.allOnes 32 ^^^ x : W).toNat : Int) = _
 rw [BitVec.allOnes_xor]
 exact qh0 _ (~~~x).isLt
theorem ze7 (l : List UInt8) (cap : Option Nat) (hl : l.length <= 1000000000) : PCalls prog qjj [bts l cap] (wv (qzj l)) := by
 have h := z67 4294967295#32 l cap hl
 have e : ((4294967295#32 : W).toNat : Int) = 4294967295 := rfl
 rw [wv, e] at h
 refine K6 U1 z1p (by simp) fun T => ?_
 unfold qug
 simp -implicitDefEqProofs -dsimp only [go_sem, seval, ↓J0 _ _ qvy]
 refine cpn h ?_
 simp -implicitDefEqProofs -dsimp only [go_sem, seval]
 rw [ze6]
 exact J9 rfl
theorem zfn (x : W) : IntKind.u8.wrap (x.toNat : Int) = ((q98 x 0).toNat : Int) := by
 simp only [IntKind.wrap, IntKind.signed, IntKind.bits, q98]
 simp
theorem zai (x : W) : (x.toNat : Int).fdiv (2 ^ (min 8 32 : Nat)) = ((x >>> 8).toNat : Int) := by
 rw [BitVec.toNat_ushiftRight, Nat.shiftRight_eq_div_pow]
 show (x.toNat : Int).fdiv (2 ^ 8) = _
 rw [Int.fdiv_eq_ediv_of_nonneg _ (by decide)]; norm_cast
def qt4 : Nat -> W -> List UInt8
 | 0, _ => []
 | m + 1, x => q98 x 0 :: qt4 m (x >>> 8)
theorem qzs (x : W) (j : Nat) : q98 (x >>> 8) j = q98 x (j + 1) := by
 unfold q98
 rw [BitVec.toNat_ushiftRight, Nat.shiftRight_eq_div_pow, Nat.div_div_eq_div_mul, show (2 : Nat) ^ 8 = 256 from rfl, Nat.pow_succ, Nat.mul_comm]
theorem z2w (x : W) : qt4 4 x = z3y x := by
 simp only [qt4, z3y, qzs]
theorem qd9 (x : W) : (z3y x).length = 4 := rfl
theorem z68 {R : G9} (hR : ExtR R) {T : Tab} : ∀ (m k : Nat), k + m = 4 -> ∀ (x : W) (bs : List UInt8) (v : AV) (T1 : Tab), bs.length + m <= 1000000100 -> Own T 1 v bs.length (K8 bs) T1 ->
  (∀ v T1 y, Own T 1 v (bs ++ qt4 m x).length (K8 (bs ++ qt4 m x)) T1 -> R (.exit 0) [(3, v), (4, y), (9, .i .i64 4), (10, .b false)] [] T1) ->
  AW prog qf7 R [(3, v), (4, wv x), (9, .i .i64 k)] [] T1 := by
 intro m
 induction m with
 | zero =>
  intro k hk x bs v T1 hb ho h2
  have : k = 4 := by omega
  subst this
  obtain ⟨p1, p2, p3, p4, p5, p6⟩ := ho.form
  refine V1 hR ?_
  unfold qco
  simp -implicitDefEqProofs -dsimp only [go_sem, seval, show ((4 : Nat) : Int) = 4 from rfl, p1, p2, p3, p4, p5, p6]
  refine h2 v T1 _ ?_
  rw [qt4, List.append_nil]; exact ho
 | succ m ih =>
  intro k hk x bs v T1 hb ho h2
  have hk4 : (k : Int) < 4 := by omega
  have hws : IntKind.i64.wrap ((k : Int) + 1) = ((k + 1 : Nat) : Int) := O8 (by omega)
  obtain ⟨p1, p2, p3, p4, p5, p6⟩ := ho.form
  refine Q1 (l := qf7) rfl hR ?_
  unfold qco
  simp -implicitDefEqProofs -dsimp only [go_sem, seval, hk4, p1, p2, p3, p4, p5, p6, zfn]
  refine ho.app (m := 1) (news := K8 [q98 x 0]) (by simp [Z4, K8]) rfl (by omega) (by omega) fun v' T2 ho2 => J1 ?_
  obtain ⟨p1, p2, p3, p4, p5, p6⟩ := ho2.form
  simp -implicitDefEqProofs -dsimp only [go_sem, seval, p1, p2, p3, p4, p5, p6, zai, hws]
  rw [q0v] at ho2
  refine ih (k + 1) (by omega) (x >>> 8) (bs ++ [q98 x 0]) v' T2 ?_ ?_ fun v T1 y h => h2 v T1 y ?_
  ·simp only [List.length_append, List.length_cons, List.length_nil]; omega
  ·rw [List.length_append]; exact ho2
  ·rw [qt4]; simpa using h
theorem qt5 (l : List UInt8) (cap : Option Nat) (hl : l.length <= 1000000000) : PCalls prog qab [bts l cap] (bts (q6a l) none) := by
 refine K6 U1 qvq (by simp) fun T => ?_
 unfold qnc
 simp -implicitDefEqProofs -dsimp only [go_sem, seval, ↓J0 _ _ Z5]
 refine CallK.of (qbm (n := l.length) (Y2 l) hl) (fun v T1 ho => J1 ?_)
 obtain ⟨p1, p2, p3, p4, p5, p6⟩ := ho.form
 simp -implicitDefEqProofs -dsimp only [go_sem, seval, p1, p2, p3, p4, p5, p6, ↓J0 _ _ z1q]
 refine cpn (ze7 l cap hl) ?_
 simp -implicitDefEqProofs -dsimp only [go_sem, seval, p1, p2, p3, p4, p5, p6]
 refine z68 (T := T) (by repeat' (first | exact O6 _ _ | assumption | apply O5 | apply N4 | apply V8)) 4 0 rfl (qzj l) l v T1 (by omega) ho (fun v T1 y ho => ?_)
 obtain ⟨p1, p2, p3, p4, p5, p6⟩ := ho.form
 simp -implicitDefEqProofs -dsimp only [go_sem, seval, p1, p2, p3, p4, p5, p6]
 rw [z2w] at ho
 exact qgz ho rfl
theorem z2x {R : G9} (hR : ExtR R) {T : Tab} {l m : List UInt8} {c1 c2 : Option Nat} (hl : l.length <= 1000000000) (he : l.length = m.length) : ∀ (ys : List UInt8) (k : Nat), l.drop k = ys -> k <= l.length ->
  (ys ≠ m.drop k -> R .ret [(4, .b false)] [] T) ->
  (ys = m.drop k -> R (.exit 0) [(0, bts l c1), (1, bts m c2), (12, .i .i64 l.length), (13, .i .i64 l.length), (14, .b false)] [] T) ->
  AW prog q2u R [(0, bts l c1), (1, bts m c2), (12, .i .i64 l.length), (13, .i .i64 k)] [] T := by
 intro ys
 induction ys with
 | nil =>
  intro k hk hle h1 h2
  have hk' := V6 hk hle
  refine V1 hR ?_
  unfold q2d
  simp -implicitDefEqProofs -dsimp only [go_sem, seval, hk', Int.lt_irrefl]
  rw [hk'] at h2
  exact h2 (by rw [List.drop_of_length_le (by omega)])
 | cons y ys ih =>
  intro k hk hle h1 h2
  obtain ⟨hlt, hy, hk'⟩ := Y6 hk
  have hws : IntKind.i64.wrap ((k : Int) + 1) = ((k + 1 : Nat) : Int) := O8 (by omega)
  have hc := qwh hy
  obtain ⟨z, hz⟩ : ∃ z, m[k]? = some z := ⟨_, List.getElem?_eq_getElem (show k < m.length by omega)⟩
  have hcz := qwh hz
  have hmd : m.drop k = z :: m.drop (k + 1) := by
   have hkm : k < m.length := by omega
   rw [List.drop_eq_getElem_cons hkm]; congr 1; exact (List.getElem?_eq_some_iff.1 hz).2
  have hlt2 : k < m.length := by omega
  rw [hmd] at h1 h2
  refine Q1 (l := q2u) rfl hR ?_
  unfold q2d
  by_cases e : y = z
  ·subst e
   simp -implicitDefEqProofs -dsimp only [go_sem, seval, Int.ofNat_lt, hlt, hlt2, bts, Int.natCast_nonneg, Int.toNat_natCast, Nat.mul_one, hc, hcz, decide_true, Bool.not_true, eq_self, hws]
   exact ih (k + 1) hk' hlt (fun h => h1 (fun e => h (by injection e))) (fun h => h2 (by rw [h]))
  ·have d : decide ((y.toNat : Int) = z.toNat) = false := decide_eq_false (fun h => e (UInt8.toNat_inj.1 (by omega)))
   simp -implicitDefEqProofs -dsimp only [go_sem, seval, Int.ofNat_lt, hlt, hlt2, bts, Int.natCast_nonneg, Int.toNat_natCast, Nat.mul_one, hc, hcz, d, Bool.not_false]
   exact h1 (fun h => e (by injection h))
theorem z2y (l m : List UInt8) (c1 c2 : Option Nat) (hl : l.length <= 1000000000) : PCalls prog q1e [bts l c1, bts m c2] (.b (decide (l = m))) := by
 refine K6 U1 qao (by simp) fun T => ?_
 unfold q6j
 by_cases e : l.length = m.length
 ·have d : decide ((l.length : Int) = m.length) = true := decide_eq_true (by omega)
  simp -implicitDefEqProofs -dsimp only [go_sem, seval, d, Bool.not_true]
  refine z2x (l := l) (m := m) (c1 := c1) (c2 := c2) (by repeat' (first | exact O6 _ _ | assumption | apply O5 | apply N4 | apply V8)) hl e l 0 rfl (by omega) (fun h => ?_) (fun h => ?_)
  ·simp -implicitDefEqProofs -dsimp only [go_sem, seval]
   rw [decide_eq_false (by simpa using h)]
   exact J9 rfl
  ·simp -implicitDefEqProofs -dsimp only [go_sem, seval]
   rw [decide_eq_true (by simpa using h)]
   exact J9 rfl
 ·have d : decide ((l.length : Int) = m.length) = false := decide_eq_false (by omega)
  simp -implicitDefEqProofs -dsimp only [go_sem, seval, d, Bool.not_false]
  rw [decide_eq_false (fun h => e (by rw [h]))]
  exact J9 rfl
def qda (l : List UInt8) : Bool := decide (4 <= l.length) && decide (q6a (l.take (l.length - 4)) = l)
theorem z2z (l : List UInt8) (cap : Option Nat) (hl : l.length <= 1000000000) : PCalls prog qaz [bts l cap] (.b (qda l)) := by
 refine K6 U1 qsf (by simp) fun T => ?_
 have hw : IntKind.i64.wrap ((l.length : Int) - 4) = (l.length : Int) - 4 := q0c (by unfold I64; omega)
 unfold ql1
 by_cases h4 : 4 <= l.length
 ·obtain ⟨n, hn⟩ : ∃ n, l.length = n + 4 := ⟨l.length - 4, by omega⟩
  have hw' : IntKind.i64.wrap ((l.length : Int) - 4) = (n : Int) := by rw [hw]; omega
  have hnl : n <= l.length := by omega
  have e1 : (l.take n).length = n := by rw [List.length_take]; omega
  have c1 := qt5 (l.take n) (Option.map (fun x => x) cap) (by omega)
  have c2 := z2y (q6a (l.take n)) l none cap (by simp only [q6a, List.length_append, qd9]; omega)
  simp -implicitDefEqProofs -dsimp only [go_sem, seval, hw', Int.natCast_nonneg, bts, Int.ofNat_le, hnl, Int.toNat_natCast, Nat.mul_one, q7h, Nat.zero_le, ↓Q2, I2, true_and, ↓J0 _ _ qhg]
  simp only [bts, e1] at c1 c2
  refine cpn c1 ?_
  simp -implicitDefEqProofs -dsimp only [go_sem, seval, ↓Q2, I2, true_and, ↓J0 _ _ qap]
  refine cpn c2 ?_
  simp -implicitDefEqProofs -dsimp only [go_sem, seval]
  rw [qda, decide_eq_true h4, Bool.true_and, show l.length - 4 = n by omega]
  exact J9 rfl
 ·have d : decide ((0 : Int) <= (l.length : Int) - 4) = false := decide_eq_false (by omega)
  simp -implicitDefEqProofs -dsimp only [go_sem, seval, hw, d]
  rw [qda, decide_eq_false h4, Bool.false_and]
  exact J9 rfl
end Go.Aw
namespace Go.Aw
open Go
open Go.Proofs.Tryz (prog)
set_option linter.all false
set_option maxHeartbeats 4000000
end Go.Aw
namespace Go.Aw
open Go
open Go.Proofs.Tryz (prog)
set_option linter.all false
set_option maxHeartbeats 4000000
def hiB (n : Nat) : UInt8 := UInt8.ofNat (n / 256 % 256)
def loB (n : Nat) : UInt8 := UInt8.ofNat (n % 256)
def frm (p : List UInt8) : List UInt8 := 197 :: q6a (hiB p.length :: loB p.length :: p)
def qmp (p : List UInt8) : Bool := decide (1 <= p.length) && decide (p.length <= 65535)
def zaj (p : List UInt8) : AV := if qmp p = true then .tup [bts (frm p) none, .i .i64 0] else .tup [.fz 0 [] (some 0), .i .i64 1]
theorem zeo (n : Nat) (h : n <= 65535) : IntKind.u8.wrap ((n : Int).fdiv (2 ^ (min 8 64 : Nat))) = ((hiB n).toNat : Int) := by
 show IntKind.u8.wrap ((n : Int).fdiv (2 ^ 8)) = _
 rw [Int.fdiv_eq_ediv_of_nonneg _ (by decide)]
 simp only [IntKind.wrap, IntKind.signed, IntKind.bits, hiB]
 simp
theorem zep (n : Nat) : IntKind.u8.wrap (n : Int) = ((loB n).toNat : Int) := by
 simp only [IntKind.wrap, IntKind.signed, IntKind.bits, loB]
 simp
theorem zak (p : List UInt8) (cap : Option Nat) (hl : p.length <= 400000000) : PCalls prog q8j [bts p cap] (zaj p) := by
 refine K6 U1 qkj (by simp) fun T => ?_
 unfold qf1
 by_cases h1 : 1 <= p.length
 ·by_cases h2 : p.length <= 65535
  ·have d1 : decide ((p.length : Int) < 1) = false := decide_eq_false (by omega)
   have d2 : decide ((65535 : Int) < p.length) = false := decide_eq_false (by omega)
   have c1 := qr6 [hiB p.length, loB p.length] p (some 2) cap (by simp) hl
   have c2 := qt5 (hiB p.length :: loB p.length :: p) none (by simp only [List.length_cons]; omega)
   simp -implicitDefEqProofs -dsimp only [go_sem, seval, d1, d2, zeo _ h2, zep, ↓J0 _ _ q5q]
   refine cpn c1 ?_
   simp -implicitDefEqProofs -dsimp only [go_sem, seval, ↓J0 _ _ qhg]
   refine cpn c2 ?_
   have hsl : (q6a (hiB p.length :: loB p.length :: p)).length = p.length + 6 := by simp only [q6a, List.length_append, qd9, List.length_cons]
   have hg : Gr T 1 (.fz 1 [.i .u8 197] (some 1)) 1 (K8 [197]) T := .inr ⟨rfl, rfl, rfl⟩
   simp -implicitDefEqProofs -dsimp only [go_sem, seval]
   refine hg.app (m := (q6a (hiB p.length :: loB p.length :: p)).length) (q77 _ _) rfl (by omega) (by omega) (by omega) fun v' T2 ho => J1 ?_
   obtain ⟨p1, p2, p3, p4, p5, p6⟩ := ho.form
   simp -implicitDefEqProofs -dsimp only [go_sem, seval, p1, p2, p3, p4, p5, p6]
   refine q33 (Owns.one ho) fun S hS => ?_
   obtain ⟨cap', hc⟩ := hS _ (List.mem_cons_self ..)
   simp only at hc
   have hv : q99 T2 S v' = qc6 T2 S v' := ho.frzv
   rw [zaj, qmp, decide_eq_true h1, decide_eq_true h2]
   simp only [qm5, List.map_cons, List.map_nil, hv, hc, Bool.and_self, if_true, bts]
   refine Wk.tup ⟨?_, .refl _, trivial⟩
   rw [q0v, show 1 + (q6a (hiB p.length :: loB p.length :: p)).length = (frm p).length by simp only [frm, List.length_cons]; omega]
   exact Wk.fz
  ·have d1 : decide ((p.length : Int) < 1) = false := decide_eq_false (by omega)
   have d2 : decide ((65535 : Int) < p.length) = true := decide_eq_true (by omega)
   simp -implicitDefEqProofs -dsimp only [go_sem, seval, d1, d2]
   rw [zaj, qmp, decide_eq_false h2, Bool.and_false]
   exact J9 rfl
 ·have d1 : decide ((p.length : Int) < 1) = true := decide_eq_true (by omega)
  simp -implicitDefEqProofs -dsimp only [go_sem, seval, d1]
  rw [zaj, qmp, decide_eq_false h1, Bool.false_and]
  exact J9 rfl
end Go.Aw
