import Derived.Test.YtchdmofoaokpjaaGreatDoorM30N17F04A
import Derived.Test.YtchdmofoaokpjaaGreatDoorAwD
import Derived.Test.YtchdmofoaokpjaaGreatDoorM30N17E12G
import Derived.Test.YtchdmofoaokpjaaGreatDoorM30N17E12D
namespace Go.Aw
open Go
open Go.Proofs.Tryz (prog)
set_option linter.all false
set_option maxHeartbeats 4000000
abbrev wv (x : W) : AV := .i .u32 (x.toNat : Int)
theorem qh0 (n : Nat) (h : n < 4294967296) : IntKind.u32.wrap (n : Int) = n := by
 simp [IntKind.wrap, IntKind.signed, IntKind.bits]; omega
theorem z9v (x : W) : BitVec.ofInt IntKind.u32.bits (x.toNat : Int) = x := by
 show BitVec.ofInt 32 (x.toNat : Int) = x
 rw [BitVec.ofInt_natCast, BitVec.ofNat_toNat]; simp
theorem z9w (x y : W) : IntKind.u32.wrap ((BitVec.ofInt IntKind.u32.bits (x.toNat : Int) ^^^ BitVec.ofInt IntKind.u32.bits (y.toNat : Int)).toNat : Int) = ((x ^^^ y).toNat : Int) := by
 rw [z9v, z9v]; exact qh0 _ (x ^^^ y).isLt
theorem z9x (x : W) : IntKind.u32.wrap ((BitVec.ofInt IntKind.u32.bits (x.toNat : Int) &&& BitVec.ofInt IntKind.u32.bits 1).toNat : Int) = ((x &&& 1#32).toNat : Int) := by
 rw [z9v, show BitVec.ofInt IntKind.u32.bits 1 = (1#32 : W) from rfl]; exact qh0 _ (x &&& 1#32).isLt
theorem z9y (x : W) : IntKind.u32.wrap ((BitVec.ofInt IntKind.u32.bits 3988292384 &&& BitVec.ofInt IntKind.u32.bits (x.toNat : Int)).toNat : Int) = ((z0f &&& x).toNat : Int) := by
 rw [z9v, show BitVec.ofInt IntKind.u32.bits 3988292384 = (z0f : W) from rfl]; exact qh0 _ (z0f &&& x).isLt
theorem zdk (x : W) : IntKind.u32.wrap (0 - (x.toNat : Int)) = ((-x).toNat : Int) := by
 have := x.isLt
 simp only [IntKind.wrap, IntKind.signed, IntKind.bits, BitVec.toNat_neg]
 simp; omega
theorem zdl (x : W) : (x.toNat : Int).fdiv (2 ^ (min 1 32 : Nat)) = ((x >>> 1).toNat : Int) := by
 rw [BitVec.toNat_ushiftRight, Nat.shiftRight_eq_div_pow]
 show (x.toNat : Int).fdiv (2 ^ 1) = _
 rw [Int.fdiv_eq_ediv_of_nonneg _ (by decide)]; norm_cast
theorem z2e (x : W) : qnd x = (x >>> 1) ^^^ (z0f &&& -(x &&& 1#32)) := rfl
theorem z5m {R : I2} (hR : ExtR R) {T : Tab} {l : AV} {n i : AV} (hl : l.plain = true /\ n.plain = true /\ i.plain = true) : ∀ (m k : Nat), k + m = 8 -> ∀ (x : W),
  R (.exit 2) [(0, wv (it m x)), (7, l), (8, n), (9, i), (17, .i .i64 8), (18, .b false)] [] T ->
  AW prog qfh R [(0, wv x), (7, l), (8, n), (9, i), (17, .i .i64 k)] [] T := by
 intro m
 induction m with
 | zero =>
  intro k hk x h2
  have : k = 8 := by omega
  subst this
  refine V1 hR ?_
  unfold qcs
  obtain ⟨h3, h4, h5⟩ := hl
  simp -implicitDefEqProofs -dsimp only [go_sem, seval, show ((8 : Nat) : Int) = 8 from rfl, h3, h4, h5]
  exact h2
 | succ m ih =>
  intro k hk x h2
  have hk8 : (k : Int) < 8 := by omega
  have hws : IntKind.i64.wrap ((k : Int) + 1) = ((k + 1 : Nat) : Int) := Q0 (by omega)
  refine Q3 (l := qfh) rfl hR ?_
  unfold qcs
  have hl' := hl
  obtain ⟨h3, h4, h5⟩ := hl
  simp -implicitDefEqProofs -dsimp only [go_sem, seval, hk8, h3, h4, h5, hws, z9x, zdk, z9y, zdl, z9w]
  rw [<- z2e]
  exact ih (k + 1) (by omega) (qnd x) h2
attribute [go_sem] z39 qyf qyg qyh qyi qyj
attribute [go_sem ↓] qyk
theorem qwd {l : List UInt8} {k : Nat} {b : UInt8} (h : l[k]? = some b) : ((N5 l).drop k)[0]? = some (.i .u8 (b.toNat : Int)) := by
 simp [N5, h]
theorem zdm (b : UInt8) : IntKind.u32.wrap (b.toNat : Int) = (((BitVec.ofNat 32 b.toNat : W)).toNat : Int) := by
 have := b.toNat_lt
 rw [qh0 _ (by omega), BitVec.toNat_ofNat]; congr 1; omega
theorem z5n {R : I2} (hR : ExtR R) {T : Tab} {l : List UInt8} {cap : Option Nat} (hl : l.length <= 1000000000) : ∀ (ys : List UInt8) (k : Nat), l.drop k = ys -> k <= l.length -> ∀ (x : W),
  R (.exit 0) [(0, wv (more x ys)), (7, bts l cap), (8, .i .i64 l.length), (9, .i .i64 l.length), (10, .b false)] [] T ->
  AW prog qfi R [(0, wv x), (7, bts l cap), (8, .i .i64 l.length), (9, .i .i64 k)] [] T := by
 intro ys
 induction ys with
 | nil =>
  intro k hk hle x h2
  have hk' := Y0 hk hle
  refine V1 hR ?_
  unfold qct
  simp -implicitDefEqProofs -dsimp only [go_sem, seval, hk', Int.lt_irrefl]
  rw [hk'] at h2
  exact h2
 | cons y ys ih =>
  intro k hk hle x h2
  obtain ⟨hlt, hy, hk'⟩ := Y9 hk
  have hws : IntKind.i64.wrap ((k : Int) + 1) = ((k + 1 : Nat) : Int) := Q0 (by omega)
  have hc := qwd hy
  refine Q3 (l := qfi) rfl hR ?_
  unfold qct
  simp -implicitDefEqProofs -dsimp only [go_sem, seval, Int.ofNat_lt, hlt, bts, Int.natCast_nonneg, Int.toNat_natCast, Nat.mul_one, hc, zdm, z9w]
  refine z5m (by repeat' (first | exact O7 _ _ | assumption | apply O6 | apply N6 | apply Y1)) ⟨rfl, rfl, rfl⟩ 8 0 rfl _ ?_
  simp -implicitDefEqProofs -dsimp only [go_sem, seval, hws]
  exact ih (k + 1) hk' hlt _ h2
theorem z5o (x : W) (l : List UInt8) (cap : Option Nat) (hl : l.length <= 1000000000) : PCalls prog qdh [wv x, bts l cap] (wv (more x l)) := by
 refine K5 Q9 qvt (by simp) fun T => ?_
 unfold qna
 simp -implicitDefEqProofs -dsimp only [go_sem, seval]
 refine z5n (l := l) (cap := cap) (by repeat' (first | exact O7 _ _ | assumption | apply O6 | apply N6 | apply Y1)) hl l 0 rfl (by omega) x ?_
 simp -implicitDefEqProofs -dsimp only [go_sem, seval]
 exact J9 rfl
theorem zdn (x : W) : IntKind.u32.wrap ((BitVec.ofInt IntKind.u32.bits (if IntKind.u32.signed = true then -1 else IntKind.u32.max) ^^^ BitVec.ofInt IntKind.u32.bits (x.toNat : Int)).toNat : Int) = ((~~~x).toNat : Int) := by
 rw [z9v, show (BitVec.ofInt IntKind.u32.bits (if IntKind.u32.signed = true then -1 else IntKind.u32.max)) = (BitVec.allOnes 32 : W) from rfl]
 show IntKind.u32.wrap ((BitVec.allOnes 32 ^^^ x : W).toNat : Int) = _
 rw [BitVec.allOnes_xor]
 exact qh0 _ (~~~x).isLt
theorem zdo (l : List UInt8) (cap : Option Nat) (hl : l.length <= 1000000000) : PCalls prog qjh [bts l cap] (wv (qza l)) := by
 have h := z5o 4294967295#32 l cap hl
 have e : ((4294967295#32 : W).toNat : Int) = 4294967295 := rfl
 rw [wv, e] at h
 refine K5 Q9 z1b (by simp) fun T => ?_
 unfold qud
 simp -implicitDefEqProofs -dsimp only [go_sem, seval, ↓J0 _ _ qvu]
 refine cpn h ?_
 simp -implicitDefEqProofs -dsimp only [go_sem, seval]
 rw [zdn]
 exact J9 rfl
theorem zf4 (x : W) : IntKind.u8.wrap (x.toNat : Int) = ((q91 x 0).toNat : Int) := by
 simp only [IntKind.wrap, IntKind.signed, IntKind.bits, q91]
 simp
theorem z9z (x : W) : (x.toNat : Int).fdiv (2 ^ (min 8 32 : Nat)) = ((x >>> 8).toNat : Int) := by
 rw [BitVec.toNat_ushiftRight, Nat.shiftRight_eq_div_pow]
 show (x.toNat : Int).fdiv (2 ^ 8) = _
 rw [Int.fdiv_eq_ediv_of_nonneg _ (by decide)]; norm_cast
def qt0 : Nat -> W -> List UInt8
 | 0, _ => []
 | m + 1, x => q91 x 0 :: qt0 m (x >>> 8)
theorem qzk (x : W) (j : Nat) : q91 (x >>> 8) j = q91 x (j + 1) := by
 unfold q91
 rw [BitVec.toNat_ushiftRight, Nat.shiftRight_eq_div_pow, Nat.div_div_eq_div_mul, show (2 : Nat) ^ 8 = 256 from rfl, Nat.pow_succ, Nat.mul_comm]
theorem z2f (x : W) : qt0 4 x = z3g x := by
 simp only [qt0, z3g, qzk]
theorem qd1 (x : W) : (z3g x).length = 4 := rfl
theorem z5p {R : I2} (hR : ExtR R) {T : Tab} : ∀ (m k : Nat), k + m = 4 -> ∀ (x : W) (bs : List UInt8) (v : AV) (T1 : Tab), bs.length + m <= 1000000100 -> Own T 1 v bs.length (N5 bs) T1 ->
  (∀ v T1 y, Own T 1 v (bs ++ qt0 m x).length (N5 (bs ++ qt0 m x)) T1 -> R (.exit 0) [(3, v), (4, y), (9, .i .i64 4), (10, .b false)] [] T1) ->
  AW prog qf8 R [(3, v), (4, wv x), (9, .i .i64 k)] [] T1 := by
 intro m
 induction m with
 | zero =>
  intro k hk x bs v T1 hb ho h2
  have : k = 4 := by omega
  subst this
  obtain ⟨p1, p2, p3, p4, p5, p6⟩ := ho.form
  refine V1 hR ?_
  unfold qcf
  simp -implicitDefEqProofs -dsimp only [go_sem, seval, show ((4 : Nat) : Int) = 4 from rfl, p1, p2, p3, p4, p5, p6]
  refine h2 v T1 _ ?_
  rw [qt0, List.append_nil]; exact ho
 | succ m ih =>
  intro k hk x bs v T1 hb ho h2
  have hk4 : (k : Int) < 4 := by omega
  have hws : IntKind.i64.wrap ((k : Int) + 1) = ((k + 1 : Nat) : Int) := Q0 (by omega)
  obtain ⟨p1, p2, p3, p4, p5, p6⟩ := ho.form
  refine Q3 (l := qf8) rfl hR ?_
  unfold qcf
  simp -implicitDefEqProofs -dsimp only [go_sem, seval, hk4, p1, p2, p3, p4, p5, p6, zf4]
  refine ho.app (m := 1) (news := N5 [q91 x 0]) (by simp [Z3, N5]) rfl (by omega) (by omega) fun v' T2 ho2 => J1 ?_
  obtain ⟨p1, p2, p3, p4, p5, p6⟩ := ho2.form
  simp -implicitDefEqProofs -dsimp only [go_sem, seval, p1, p2, p3, p4, p5, p6, z9z, hws]
  rw [q0t] at ho2
  refine ih (k + 1) (by omega) (x >>> 8) (bs ++ [q91 x 0]) v' T2 ?_ ?_ fun v T1 y h => h2 v T1 y ?_
  ·simp only [List.length_append, List.length_cons, List.length_nil]; omega
  ·rw [List.length_append]; exact ho2
  ·rw [qt0]; simpa using h
theorem qt1 (l : List UInt8) (cap : Option Nat) (hl : l.length <= 1000000000) : PCalls prog qa0 [bts l cap] (bts (q5z l) none) := by
 refine K5 Q9 qvm (by simp) fun T => ?_
 unfold qn6
 simp -implicitDefEqProofs -dsimp only [go_sem, seval, ↓J0 _ _ Z4]
 refine CallK.of (qbb (n := l.length) (q03 l) hl) (fun v T1 ho => J1 ?_)
 obtain ⟨p1, p2, p3, p4, p5, p6⟩ := ho.form
 simp -implicitDefEqProofs -dsimp only [go_sem, seval, p1, p2, p3, p4, p5, p6, ↓J0 _ _ z1c]
 refine cpn (zdo l cap hl) ?_
 simp -implicitDefEqProofs -dsimp only [go_sem, seval, p1, p2, p3, p4, p5, p6]
 refine z5p (T := T) (by repeat' (first | exact O7 _ _ | assumption | apply O6 | apply N6 | apply Y1)) 4 0 rfl (qza l) l v T1 (by omega) ho (fun v T1 y ho => ?_)
 obtain ⟨p1, p2, p3, p4, p5, p6⟩ := ho.form
 simp -implicitDefEqProofs -dsimp only [go_sem, seval, p1, p2, p3, p4, p5, p6]
 rw [z2f] at ho
 exact qgz ho rfl
theorem z2g {R : I2} (hR : ExtR R) {T : Tab} {l m : List UInt8} {c1 c2 : Option Nat} (hl : l.length <= 1000000000) (he : l.length = m.length) : ∀ (ys : List UInt8) (k : Nat), l.drop k = ys -> k <= l.length ->
  (ys ≠ m.drop k -> R .ret [(4, .b false)] [] T) ->
  (ys = m.drop k -> R (.exit 0) [(0, bts l c1), (1, bts m c2), (12, .i .i64 l.length), (13, .i .i64 l.length), (14, .b false)] [] T) ->
  AW prog q2r R [(0, bts l c1), (1, bts m c2), (12, .i .i64 l.length), (13, .i .i64 k)] [] T := by
 intro ys
 induction ys with
 | nil =>
  intro k hk hle h1 h2
  have hk' := Y0 hk hle
  refine V1 hR ?_
  unfold q28
  simp -implicitDefEqProofs -dsimp only [go_sem, seval, hk', Int.lt_irrefl]
  rw [hk'] at h2
  exact h2 (by rw [List.drop_of_length_le (by omega)])
 | cons y ys ih =>
  intro k hk hle h1 h2
  obtain ⟨hlt, hy, hk'⟩ := Y9 hk
  have hws : IntKind.i64.wrap ((k : Int) + 1) = ((k + 1 : Nat) : Int) := Q0 (by omega)
  have hc := qwd hy
  obtain ⟨z, hz⟩ : ∃ z, m[k]? = some z := ⟨_, List.getElem?_eq_getElem (show k < m.length by omega)⟩
  have hcz := qwd hz
  have hmd : m.drop k = z :: m.drop (k + 1) := by
   have hkm : k < m.length := by omega
   rw [List.drop_eq_getElem_cons hkm]; congr 1; exact (List.getElem?_eq_some_iff.1 hz).2
  have hlt2 : k < m.length := by omega
  rw [hmd] at h1 h2
  refine Q3 (l := q2r) rfl hR ?_
  unfold q28
  by_cases e : y = z
  ·subst e
   simp -implicitDefEqProofs -dsimp only [go_sem, seval, Int.ofNat_lt, hlt, hlt2, bts, Int.natCast_nonneg, Int.toNat_natCast, Nat.mul_one, hc, hcz, decide_true, Bool.not_true, eq_self, hws]
   exact ih (k + 1) hk' hlt (fun h => h1 (fun e => h (by injection e))) (fun h => h2 (by rw [h]))
  ·have d : decide ((y.toNat : Int) = z.toNat) = false := decide_eq_false (fun h => e (UInt8.toNat_inj.1 (by omega)))
   simp -implicitDefEqProofs -dsimp only [go_sem, seval, Int.ofNat_lt, hlt, hlt2, bts, Int.natCast_nonneg, Int.toNat_natCast, Nat.mul_one, hc, hcz, d, Bool.not_false]
   exact h1 (fun h => e (by injection h))
theorem z2h (l m : List UInt8) (c1 c2 : Option Nat) (hl : l.length <= 1000000000) : PCalls prog q1b [bts l c1, bts m c2] (.b (decide (l = m))) := by
 refine K5 Q9 qab (by simp) fun T => ?_
 unfold q67
 by_cases e : l.length = m.length
 ·have d : decide ((l.length : Int) = m.length) = true := decide_eq_true (by omega)
  simp -implicitDefEqProofs -dsimp only [go_sem, seval, d, Bool.not_true]
  refine z2g (l := l) (m := m) (c1 := c1) (c2 := c2) (by repeat' (first | exact O7 _ _ | assumption | apply O6 | apply N6 | apply Y1)) hl e l 0 rfl (by omega) (fun h => ?_) (fun h => ?_)
  ·simp -implicitDefEqProofs -dsimp only [go_sem, seval]
   rw [decide_eq_false (by simpa using h)]
   exact J9 rfl
  ·simp -implicitDefEqProofs -dsimp only [go_sem, seval]
   rw [decide_eq_true (by simpa using h)]
   exact J9 rfl
 ·have d : decide ((l.length : Int) = m.length) = false := decide_eq_false (by omega)
  simp -implicitDefEqProofs -dsimp only [go_sem, seval, d, Bool.not_false]
  rw [decide_eq_false (fun h => e (by rw [h]))]
  exact J9 rfl
def qd2 (l : List UInt8) : Bool := decide (4 <= l.length) && decide (q5z (l.take (l.length - 4)) = l)
theorem z2i (l : List UInt8) (cap : Option Nat) (hl : l.length <= 1000000000) : PCalls prog qao [bts l cap] (.b (qd2 l)) := by
 refine K5 Q9 qsc (by simp) fun T => ?_
 have hw : IntKind.i64.wrap ((l.length : Int) - 4) = (l.length : Int) - 4 := q2d (by unfold I64; omega)
 unfold qkw
 by_cases h4 : 4 <= l.length
 ·obtain ⟨n, hn⟩ : ∃ n, l.length = n + 4 := ⟨l.length - 4, by omega⟩
  have hw' : IntKind.i64.wrap ((l.length : Int) - 4) = (n : Int) := by rw [hw]; omega
  have hnl : n <= l.length := by omega
  have e1 : (l.take n).length = n := by rw [List.length_take]; omega
  have c1 := qt1 (l.take n) (Option.map (fun x => x) cap) (by omega)
  have c2 := z2h (q5z (l.take n)) l none cap (by simp only [q5z, List.length_append, qd1]; omega)
  simp -implicitDefEqProofs -dsimp only [go_sem, seval, hw', Int.natCast_nonneg, bts, Int.ofNat_le, hnl, Int.toNat_natCast, Nat.mul_one, q78, Nat.zero_le, ↓Q4, I4, true_and, ↓J0 _ _ qhf]
  simp only [bts, e1] at c1 c2
  refine cpn c1 ?_
  simp -implicitDefEqProofs -dsimp only [go_sem, seval, ↓Q4, I4, true_and, ↓J0 _ _ qac]
  refine cpn c2 ?_
  simp -implicitDefEqProofs -dsimp only [go_sem, seval]
  rw [qd2, decide_eq_true h4, Bool.true_and, show l.length - 4 = n by omega]
  exact J9 rfl
 ·have d : decide ((0 : Int) <= (l.length : Int) - 4) = false := decide_eq_false (by omega)
  simp -implicitDefEqProofs -dsimp only [go_sem, seval, hw, d]
  rw [qd2, decide_eq_false h4, Bool.false_and]
  exact J9 rfl
end Go.Aw
namespace Go.Aw
open Go
open Go.Proofs.Tryz (prog)
set_option linter.all false
set_option maxHeartbeats 4000000
end Go.Aw
namespace Go.Aw
open Go
open Go.Proofs.Tryz (prog)
set_option linter.all false
set_option maxHeartbeats 4000000
def hiB (n : Nat) : UInt8 := UInt8.ofNat (n / 256 % 256)
def loB (n : Nat) : UInt8 := UInt8.ofNat (n % 256)
def frm (p : List UInt8) : List UInt8 := 197 :: q5z (hiB p.length :: loB p.length :: p)
def qmj (p : List UInt8) : Bool := decide (1 <= p.length) && decide (p.length <= 65535)
def za0 (p : List UInt8) : AV := if qmj p = true then .tup [bts (frm p) none, .i .i64 0] else .tup [.fz 0 [] (some 0), .i .i64 1]
theorem ze4 (n : Nat) (h : n <= 65535) : IntKind.u8.wrap ((n : Int).fdiv (2 ^ (min 8 64 : Nat))) = ((hiB n).toNat : Int) := by
 show IntKind.u8.wrap ((n : Int).fdiv (2 ^ 8)) = _
 rw [Int.fdiv_eq_ediv_of_nonneg _ (by decide)]
 simp only [IntKind.wrap, IntKind.signed, IntKind.bits, hiB]
 simp
theorem ze5 (n : Nat) : IntKind.u8.wrap (n : Int) = ((loB n).toNat : Int) := by
 simp only [IntKind.wrap, IntKind.signed, IntKind.bits, loB]
 simp
theorem za1 (p : List UInt8) (cap : Option Nat) (hl : p.length <= 400000000) : PCalls prog q8d [bts p cap] (za0 p) := by
 refine K5 Q9 qke (by simp) fun T => ?_
 unfold qf2
 by_cases h1 : 1 <= p.length
 ·by_cases h2 : p.length <= 65535
  ·have d1 : decide ((p.length : Int) < 1) = false := decide_eq_false (by omega)
   have d2 : decide ((65535 : Int) < p.length) = false := decide_eq_false (by omega)
   have c1 := qr3 [hiB p.length, loB p.length] p (some 2) cap (by simp) hl
   have c2 := qt1 (hiB p.length :: loB p.length :: p) none (by simp only [List.length_cons]; omega)
   simp -implicitDefEqProofs -dsimp only [go_sem, seval, d1, d2, ze4 _ h2, ze5, ↓J0 _ _ q5g]
   refine cpn c1 ?_
   simp -implicitDefEqProofs -dsimp only [go_sem, seval, ↓J0 _ _ qhf]
   refine cpn c2 ?_
   have hsl : (q5z (hiB p.length :: loB p.length :: p)).length = p.length + 6 := by simp only [q5z, List.length_append, qd1, List.length_cons]
   have hg : Gr T 1 (.fz 1 [.i .u8 197] (some 1)) 1 (N5 [197]) T := .inr ⟨rfl, rfl, rfl⟩
   simp -implicitDefEqProofs -dsimp only [go_sem, seval]
   refine hg.app (m := (q5z (hiB p.length :: loB p.length :: p)).length) (q6v _ _) rfl (by omega) (by omega) (by omega) fun v' T2 ho => J1 ?_
   obtain ⟨p1, p2, p3, p4, p5, p6⟩ := ho.form
   simp -implicitDefEqProofs -dsimp only [go_sem, seval, p1, p2, p3, p4, p5, p6]
   refine q30 (Owns.one ho) fun S hS => ?_
   obtain ⟨cap', hc⟩ := hS _ (List.mem_cons_self ..)
   simp only at hc
   have hv : qah T2 S v' = qd6 T2 S v' := ho.frzv
   rw [za0, qmj, decide_eq_true h1, decide_eq_true h2]
   simp only [qlw, List.map_cons, List.map_nil, hv, hc, Bool.and_self, if_true, bts]
   refine Wk.tup ⟨?_, .refl _, trivial⟩
   rw [q0t, show 1 + (q5z (hiB p.length :: loB p.length :: p)).length = (frm p).length by simp only [frm, List.length_cons]; omega]
   exact Wk.fz
  ·have d1 : decide ((p.length : Int) < 1) = false := decide_eq_false (by omega)
   have d2 : decide ((65535 : Int) < p.length) = true := decide_eq_true (by omega)
   simp -implicitDefEqProofs -dsimp only [go_sem, seval, d1, d2]
   rw [za0, qmj, decide_eq_false h2, Bool.and_false]
   exact J9 rfl
 ·have d1 : decide ((p.length : Int) < 1) = true := decide_eq_true (by omega)
  simp -implicitDefEqProofs -dsimp only [go_sem, seval, d1]
  rw [za0, qmj, decide_eq_false h1, Bool.false_and]
  exact J9 rfl
end Go.Aw
