import Derived.Test.YtpbnmegmhhkloaaDoorF04Q
import Derived.Test.YtpbnmegmhhkloaaDoorW06F04A
import Derived.Test.YtpbnmegmhhkloaaDoorAwD
namespace Go.Aw
open Go
open Go.Proofs.Tryd (prog)
set_option linter.all false
set_option maxHeartbeats 4000000
abbrev wv (x : W) : AV := .i .u32 (x.toNat : Int)
theorem q5z (n : Nat) (h : n < 4294967296) : IntKind.u32.wrap (n : Int) = n := by
 simp [IntKind.wrap, IntKind.signed, IntKind.bits]; omega
theorem qps (x : W) : BitVec.ofInt IntKind.u32.bits (x.toNat : Int) = x := by
 show BitVec.ofInt 32 (x.toNat : Int) = x
 rw [BitVec.ofInt_natCast, BitVec.ofNat_toNat]; simp
theorem qpt (x y : W) : IntKind.u32.wrap ((BitVec.ofInt IntKind.u32.bits (x.toNat : Int) ^^^ BitVec.ofInt IntKind.u32.bits (y.toNat : Int)).toNat : Int) = ((x ^^^ y).toNat : Int) := by
 rw [qps, qps]; exact q5z _ (x ^^^ y).isLt
theorem qpu (x : W) : IntKind.u32.wrap ((BitVec.ofInt IntKind.u32.bits (x.toNat : Int) &&& BitVec.ofInt IntKind.u32.bits 1).toNat : Int) = ((x &&& 1#32).toNat : Int) := by
 rw [qps, show BitVec.ofInt IntKind.u32.bits 1 = (1#32 : W) from rfl]; exact q5z _ (x &&& 1#32).isLt
theorem qpv (x : W) : IntKind.u32.wrap ((BitVec.ofInt IntKind.u32.bits 3988292384 &&& BitVec.ofInt IntKind.u32.bits (x.toNat : Int)).toNat : Int) = ((qij &&& x).toNat : Int) := by
 rw [qps, show BitVec.ofInt IntKind.u32.bits 3988292384 = (qij : W) from rfl]; exact q5z _ (qij &&& x).isLt
theorem qsk (x : W) : IntKind.u32.wrap (0 - (x.toNat : Int)) = ((-x).toNat : Int) := by
 have := x.isLt
 simp only [IntKind.wrap, IntKind.signed, IntKind.bits, BitVec.toNat_neg]
 simp; omega
theorem qsl (x : W) : (x.toNat : Int).fdiv (2 ^ (min 1 32 : Nat)) = ((x >>> 1).toNat : Int) := by
 rw [BitVec.toNat_ushiftRight, Nat.shiftRight_eq_div_pow]
 show (x.toNat : Int).fdiv (2 ^ 1) = _
 rw [Int.fdiv_eq_ediv_of_nonneg _ (by decide)]; norm_cast
theorem qjl (x : W) : q9t x = (x >>> 1) ^^^ (qij &&& -(x &&& 1#32)) := rfl
theorem qlw {R : G5} (hR : ExtR R) {T : Tab} {l : AV} {n i : AV} (hl : l.plain = true /\ n.plain = true /\ i.plain = true) : ∀ (m k : Nat), k + m = 8 -> ∀ (x : W),
  R (.exit 2) [(0, wv (it m x)), (7, l), (8, n), (9, i), (17, .i .i64 8), (18, .b false)] [] T ->
  AW prog q4y R [(0, wv x), (7, l), (8, n), (9, i), (17, .i .i64 k)] [] T := by
 intro m
 induction m with
 | zero =>
  intro k hk x h2
  have : k = 8 := by omega
  subst this
  refine q4m hR ?_
  unfold q3k
  obtain ⟨h3, h4, h5⟩ := hl
  simp -implicitDefEqProofs -dsimp only [go_sem, seval, show ((8 : Nat) : Int) = 8 from rfl, h3, h4, h5]
  exact h2
 | succ m ih =>
  intro k hk x h2
  have hk8 : (k : Int) < 8 := by omega
  have hws : IntKind.i64.wrap ((k : Int) + 1) = ((k + 1 : Nat) : Int) := q15 (by omega)
  refine N6 (l := q4y) rfl hR ?_
  unfold q3k
  have hl' := hl
  obtain ⟨h3, h4, h5⟩ := hl
  simp -implicitDefEqProofs -dsimp only [go_sem, seval, hk8, h3, h4, h5, hws, qpu, qsk, qpv, qsl, qpt]
  rw [<- qjl]
  exact ih (k + 1) (by omega) (q9t x) h2
theorem qkp {b : List UInt8} {c : Option Nat} : AV.plain (bts b c) = true := rfl
theorem qhf {b : List UInt8} {c : Option Nat} : AV.isLp (bts b c) = false := rfl
theorem qhg {b : List UInt8} {c : Option Nat} : AV.isOne (bts b c) = true := rfl
theorem qhh {b : List UInt8} {c : Option Nat} : AV.sto (bts b c) = true := rfl
theorem qhi {b : List UInt8} {c : Option Nat} : AV.cells (bts b c) = [bts b c] := rfl
theorem qhj {b : List UInt8} {c : Option Nat} (j : Nat) : AV.offLp j (bts b c) = bts b c := rfl
theorem qhk {b : List UInt8} {c : Option Nat} : q75 false (bts b c) = some (.i .i64 b.length) := rfl
attribute [go_sem] qkp qhf qhg qhh qhi qhj
attribute [go_sem ↓] qhk
theorem qf1 {l : List UInt8} {k : Nat} {b : UInt8} (h : l[k]? = some b) : ((J1 l).drop k)[0]? = some (.i .u8 (b.toNat : Int)) := by
 simp [J1, h]
theorem q60 {T : Tab} {n : Nat} {xs : List AV} {cap : Option Nat} (hx : xs.length = n) (hn : n <= 1000000000) : ACalls prog J3 [.fz n xs cap] T (fun v T' => Own T 1 v n xs T') := by
 refine K3 N5 V8 (by simp) ?_
 unfold Q1
 have main : ∀ K : AV -> Tab -> Prop, (∀ v T', Own T 1 v n xs T' -> K v T') -> Z9 1 1 T (.fz 0 [] (some 0)) (.fz n xs cap) K := fun K hK =>
  (Own.nil T 1).app (m := n) (news := xs) (by simp [K8, hx]) rfl (by omega) (by omega) (by simpa using hK)
 simp -implicitDefEqProofs -dsimp only [go_sem, seval, qgp]
 split
 ·refine main _ fun v T' h => ?_
  refine J8 ?_
  obtain ⟨q1, q2, q3, q4, q5, q6⟩ := h.form
  simp -implicitDefEqProofs -dsimp only [go_sem, seval, q1]
  exact h.fin (fun _ _ h => h)
 ·rename_i h0
  have e : n = 0 := by omega
  subst e
  have e : xs = [] := by simpa using hx
  subst e
  intro b
  refine U4 (fun h => ?_) (fun h => ?_) <;> simp -implicitDefEqProofs -dsimp only [go_sem, seval]
  ·exact (Own.nil T 1).fin (fun _ _ h => h)
  ·refine main _ fun v T' h => ?_
   refine J8 ?_
   obtain ⟨q1, q2, q3, q4, q5, q6⟩ := h.form
   simp -implicitDefEqProofs -dsimp only [go_sem, seval, q1]
   exact h.fin (fun _ _ h => h)
theorem qsm (b : UInt8) : IntKind.u32.wrap (b.toNat : Int) = (((BitVec.ofNat 32 b.toNat : W)).toNat : Int) := by
 have := b.toNat_lt
 rw [q5z _ (by omega), BitVec.toNat_ofNat]; congr 1; omega
theorem qlx {R : G5} (hR : ExtR R) {T : Tab} {l : List UInt8} {cap : Option Nat} (hl : l.length <= 1000000000) : ∀ (ys : List UInt8) (k : Nat), l.drop k = ys -> k <= l.length -> ∀ (x : W),
  R (.exit 0) [(0, wv (more x ys)), (7, bts l cap), (8, .i .i64 l.length), (9, .i .i64 l.length), (10, .b false)] [] T ->
  AW prog q4z R [(0, wv x), (7, bts l cap), (8, .i .i64 l.length), (9, .i .i64 k)] [] T := by
 intro ys
 induction ys with
 | nil =>
  intro k hk hle x h2
  have hk' := q7l hk hle
  refine q4m hR ?_
  unfold q3l
  simp -implicitDefEqProofs -dsimp only [go_sem, seval, hk', Int.lt_irrefl]
  rw [hk'] at h2
  exact h2
 | cons y ys ih =>
  intro k hk hle x h2
  obtain ⟨hlt, hy, hk'⟩ := qcj hk
  have hws : IntKind.i64.wrap ((k : Int) + 1) = ((k + 1 : Nat) : Int) := q15 (by omega)
  have hc := qf1 hy
  refine N6 (l := q4z) rfl hR ?_
  unfold q3l
  simp -implicitDefEqProofs -dsimp only [go_sem, seval, Int.ofNat_lt, hlt, bts, Int.natCast_nonneg, Int.toNat_natCast, Nat.mul_one, hc, qsm, qpt]
  refine qlw (by repeat' (first | exact N4 _ _ | assumption | apply N3 | apply K5 | apply V3)) ⟨rfl, rfl, rfl⟩ 8 0 rfl _ ?_
  simp -implicitDefEqProofs -dsimp only [go_sem, seval, hws]
  exact ih (k + 1) hk' hlt _ h2
theorem qly (x : W) (l : List UInt8) (cap : Option Nat) (hl : l.length <= 1000000000) : PCalls prog q3z [wv x, bts l cap] (wv (more x l)) := by
 refine K0 N5 qez (by simp) fun T => ?_
 unfold qa0
 simp -implicitDefEqProofs -dsimp only [go_sem, seval]
 refine qlx (l := l) (cap := cap) (by repeat' (first | exact N4 _ _ | assumption | apply N3 | apply K5 | apply V3)) hl l 0 rfl (by omega) x ?_
 simp -implicitDefEqProofs -dsimp only [go_sem, seval]
 exact J7 rfl
theorem qsn (x : W) : IntKind.u32.wrap ((BitVec.ofInt IntKind.u32.bits (if IntKind.u32.signed = true then -1 else IntKind.u32.max) ^^^ BitVec.ofInt IntKind.u32.bits (x.toNat : Int)).toNat : Int) = ((~~~x).toNat : Int) := by
 rw [qps, show (BitVec.ofInt IntKind.u32.bits (if IntKind.u32.signed = true then -1 else IntKind.u32.max)) = (BitVec.allOnes 32 : W) from rfl]
 show IntKind.u32.wrap ((BitVec.allOnes 32 ^^^ x : W).toNat : Int) = _
 rw [BitVec.allOnes_xor]
 exact q5z _ (~~~x).isLt
theorem qso (l : List UInt8) (cap : Option Nat) (hl : l.length <= 1000000000) : PCalls prog q7o [bts l cap] (wv (qh5 l)) := by
 have h := qly 4294967295#32 l cap hl
 have e : ((4294967295#32 : W).toNat : Int) = 4294967295 := rfl
 rw [wv, e] at h
 refine K0 N5 qjj (by simp) fun T => ?_
 unfold qdt
 simp -implicitDefEqProofs -dsimp only [go_sem, seval, ↓J2 _ _ qf0]
 refine cpn h ?_
 simp -implicitDefEqProofs -dsimp only [go_sem, seval]
 rw [qsn]
 exact J7 rfl
theorem qtg (x : W) : IntKind.u8.wrap (x.toNat : Int) = ((q1f x 0).toNat : Int) := by
 simp only [IntKind.wrap, IntKind.signed, IntKind.bits, q1f]
 simp
theorem qpw (x : W) : (x.toNat : Int).fdiv (2 ^ (min 8 32 : Nat)) = ((x >>> 8).toNat : Int) := by
 rw [BitVec.toNat_ushiftRight, Nat.shiftRight_eq_div_pow]
 show (x.toNat : Int).fdiv (2 ^ 8) = _
 rw [Int.fdiv_eq_ediv_of_nonneg _ (by decide)]; norm_cast
def qd1 : Nat -> W -> List UInt8
 | 0, _ => []
 | m + 1, x => q1f x 0 :: qd1 m (x >>> 8)
theorem qhl (x : W) (j : Nat) : q1f (x >>> 8) j = q1f x (j + 1) := by
 unfold q1f
 rw [BitVec.toNat_ushiftRight, Nat.shiftRight_eq_div_pow, Nat.div_div_eq_div_mul, show (2 : Nat) ^ 8 = 256 from rfl, Nat.pow_succ, Nat.mul_comm]
theorem qjm (x : W) : qd1 4 x = qls x := by
 simp only [qd1, qls, qhl]
theorem q3m (x : W) : (qls x).length = 4 := rfl
theorem qlz {R : G5} (hR : ExtR R) {T : Tab} : ∀ (m k : Nat), k + m = 4 -> ∀ (x : W) (bs : List UInt8) (v : AV) (T1 : Tab), bs.length + m <= 1000000100 -> Own T 1 v bs.length (J1 bs) T1 ->
  (∀ v T1 y, Own T 1 v (bs ++ qd1 m x).length (J1 (bs ++ qd1 m x)) T1 -> R (.exit 0) [(3, v), (4, y), (9, .i .i64 4), (10, .b false)] [] T1) ->
  AW prog q4q R [(3, v), (4, wv x), (9, .i .i64 k)] [] T1 := by
 intro m
 induction m with
 | zero =>
  intro k hk x bs v T1 hb ho h2
  have : k = 4 := by omega
  subst this
  obtain ⟨p1, p2, p3, p4, p5, p6⟩ := ho.form
  refine q4m hR ?_
  unfold q3i
  simp -implicitDefEqProofs -dsimp only [go_sem, seval, show ((4 : Nat) : Int) = 4 from rfl, p1, p2, p3, p4, p5, p6]
  refine h2 v T1 _ ?_
  rw [qd1, List.append_nil]; exact ho
 | succ m ih =>
  intro k hk x bs v T1 hb ho h2
  have hk4 : (k : Int) < 4 := by omega
  have hws : IntKind.i64.wrap ((k : Int) + 1) = ((k + 1 : Nat) : Int) := q15 (by omega)
  obtain ⟨p1, p2, p3, p4, p5, p6⟩ := ho.form
  refine N6 (l := q4q) rfl hR ?_
  unfold q3i
  simp -implicitDefEqProofs -dsimp only [go_sem, seval, hk4, p1, p2, p3, p4, p5, p6, qtg]
  refine ho.app (m := 1) (news := J1 [q1f x 0]) (by simp [K8, J1]) rfl (by omega) (by omega) fun v' T2 ho2 => J8 ?_
  obtain ⟨p1, p2, p3, p4, p5, p6⟩ := ho2.form
  simp -implicitDefEqProofs -dsimp only [go_sem, seval, p1, p2, p3, p4, p5, p6, qpw, hws]
  rw [Y8] at ho2
  refine ih (k + 1) (by omega) (x >>> 8) (bs ++ [q1f x 0]) v' T2 ?_ ?_ fun v T1 y h => h2 v T1 y ?_
  ·simp only [List.length_append, List.length_cons, List.length_nil]; omega
  ·rw [List.length_append]; exact ho2
  ·rw [qd1]; simpa using h
theorem qhm (l : List UInt8) (cap : Option Nat) (hl : l.length <= 1000000000) : PCalls prog q1z [bts l cap] (bts (q0d l) none) := by
 refine K0 N5 qex (by simp) fun T => ?_
 unfold q9y
 simp -implicitDefEqProofs -dsimp only [go_sem, seval, ↓J2 _ _ J9]
 refine CallK.of (q60 (n := l.length) (Y7 l) hl) (fun v T1 ho => J8 ?_)
 obtain ⟨p1, p2, p3, p4, p5, p6⟩ := ho.form
 simp -implicitDefEqProofs -dsimp only [go_sem, seval, p1, p2, p3, p4, p5, p6, ↓J2 _ _ qjk]
 refine cpn (qso l cap hl) ?_
 simp -implicitDefEqProofs -dsimp only [go_sem, seval, p1, p2, p3, p4, p5, p6]
 refine qlz (T := T) (by repeat' (first | exact N4 _ _ | assumption | apply N3 | apply K5 | apply V3)) 4 0 rfl (qh5 l) l v T1 (by omega) ho (fun v T1 y ho => ?_)
 obtain ⟨p1, p2, p3, p4, p5, p6⟩ := ho.form
 simp -implicitDefEqProofs -dsimp only [go_sem, seval, p1, p2, p3, p4, p5, p6]
 rw [qjm] at ho
 exact q5y ho rfl
theorem qjn {R : G5} (hR : ExtR R) {T : Tab} {l m : List UInt8} {c1 c2 : Option Nat} (hl : l.length <= 1000000000) (he : l.length = m.length) : ∀ (ys : List UInt8) (k : Nat), l.drop k = ys -> k <= l.length ->
  (ys ≠ m.drop k -> R .ret [(4, .b false)] [] T) ->
  (ys = m.drop k -> R (.exit 0) [(0, bts l c1), (1, bts m c2), (12, .i .i64 l.length), (13, .i .i64 l.length), (14, .b false)] [] T) ->
  AW prog V0 R [(0, bts l c1), (1, bts m c2), (12, .i .i64 l.length), (13, .i .i64 k)] [] T := by
 intro ys
 induction ys with
 | nil =>
  intro k hk hle h1 h2
  have hk' := q7l hk hle
  refine q4m hR ?_
  unfold U0
  simp -implicitDefEqProofs -dsimp only [go_sem, seval, hk', Int.lt_irrefl]
  rw [hk'] at h2
  exact h2 (by rw [List.drop_of_length_le (by omega)])
 | cons y ys ih =>
  intro k hk hle h1 h2
  obtain ⟨hlt, hy, hk'⟩ := qcj hk
  have hws : IntKind.i64.wrap ((k : Int) + 1) = ((k + 1 : Nat) : Int) := q15 (by omega)
  have hc := qf1 hy
  obtain ⟨z, hz⟩ : ∃ z, m[k]? = some z := ⟨_, List.getElem?_eq_getElem (show k < m.length by omega)⟩
  have hcz := qf1 hz
  have hmd : m.drop k = z :: m.drop (k + 1) := by
   have hkm : k < m.length := by omega
   rw [List.drop_eq_getElem_cons hkm]; congr 1; exact (List.getElem?_eq_some_iff.1 hz).2
  have hlt2 : k < m.length := by omega
  rw [hmd] at h1 h2
  refine N6 (l := V0) rfl hR ?_
  unfold U0
  by_cases e : y = z
  ·subst e
   simp -implicitDefEqProofs -dsimp only [go_sem, seval, Int.ofNat_lt, hlt, hlt2, bts, Int.natCast_nonneg, Int.toNat_natCast, Nat.mul_one, hc, hcz, decide_true, Bool.not_true, eq_self, hws]
   exact ih (k + 1) hk' hlt (fun h => h1 (fun e => h (by injection e))) (fun h => h2 (by rw [h]))
  ·have d : decide ((y.toNat : Int) = z.toNat) = false := decide_eq_false (fun h => e (UInt8.toNat_inj.1 (by omega)))
   simp -implicitDefEqProofs -dsimp only [go_sem, seval, Int.ofNat_lt, hlt, hlt2, bts, Int.natCast_nonneg, Int.toNat_natCast, Nat.mul_one, hc, hcz, d, Bool.not_false]
   exact h1 (fun h => e (by injection h))
theorem qjo (l m : List UInt8) (c1 c2 : Option Nat) (hl : l.length <= 1000000000) : PCalls prog Q0 [bts l c1, bts m c2] (.b (decide (l = m))) := by
 refine K0 N5 q25 (by simp) fun T => ?_
 unfold q02
 by_cases e : l.length = m.length
 ·have d : decide ((l.length : Int) = m.length) = true := decide_eq_true (by omega)
  simp -implicitDefEqProofs -dsimp only [go_sem, seval, d, Bool.not_true]
  refine qjn (l := l) (m := m) (c1 := c1) (c2 := c2) (by repeat' (first | exact N4 _ _ | assumption | apply N3 | apply K5 | apply V3)) hl e l 0 rfl (by omega) (fun h => ?_) (fun h => ?_)
  ·simp -implicitDefEqProofs -dsimp only [go_sem, seval]
   rw [decide_eq_false (by simpa using h)]
   exact J7 rfl
  ·simp -implicitDefEqProofs -dsimp only [go_sem, seval]
   rw [decide_eq_true (by simpa using h)]
   exact J7 rfl
 ·have d : decide ((l.length : Int) = m.length) = false := decide_eq_false (by omega)
  simp -implicitDefEqProofs -dsimp only [go_sem, seval, d, Bool.not_false]
  rw [decide_eq_false (fun h => e (by rw [h]))]
  exact J7 rfl
def q27 (l : List UInt8) : Bool := decide (4 <= l.length) && decide (q0d (l.take (l.length - 4)) = l)
theorem qjp (l : List UInt8) (cap : Option Nat) (hl : l.length <= 1000000000) : PCalls prog q2g [bts l cap] (.b (q27 l)) := by
 refine K0 N5 qcz (by simp) fun T => ?_
 have hw : IntKind.i64.wrap ((l.length : Int) - 4) = (l.length : Int) - 4 := K9 (by unfold I64; omega)
 unfold q8m
 by_cases h4 : 4 <= l.length
 ·obtain ⟨n, hn⟩ : ∃ n, l.length = n + 4 := ⟨l.length - 4, by omega⟩
  have hw' : IntKind.i64.wrap ((l.length : Int) - 4) = (n : Int) := by rw [hw]; omega
  have hnl : n <= l.length := by omega
  have e1 : (l.take n).length = n := by rw [List.length_take]; omega
  have c1 := qhm (l.take n) (Option.map (fun x => x) cap) (by omega)
  have c2 := qjo (q0d (l.take n)) l none cap (by simp only [q0d, List.length_append, q3m]; omega)
  simp -implicitDefEqProofs -dsimp only [go_sem, seval, hw', Int.natCast_nonneg, bts, Int.ofNat_le, hnl, Int.toNat_natCast, Nat.mul_one, O7, Nat.zero_le, ↓q2z, q3r, true_and, ↓J2 _ _ q9z]
  simp only [bts, e1] at c1 c2
  refine cpn c1 ?_
  simp -implicitDefEqProofs -dsimp only [go_sem, seval, ↓q2z, q3r, true_and, ↓J2 _ _ q26]
  refine cpn c2 ?_
  simp -implicitDefEqProofs -dsimp only [go_sem, seval]
  rw [q27, decide_eq_true h4, Bool.true_and, show l.length - 4 = n by omega]
  exact J7 rfl
 ·have d : decide ((0 : Int) <= (l.length : Int) - 4) = false := decide_eq_false (by omega)
  simp -implicitDefEqProofs -dsimp only [go_sem, seval, hw, d]
  rw [q27, decide_eq_false h4, Bool.false_and]
  exact J7 rfl
end Go.Aw
