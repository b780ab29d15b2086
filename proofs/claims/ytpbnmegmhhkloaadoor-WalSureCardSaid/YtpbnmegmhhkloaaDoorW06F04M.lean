import Derived.Test.YtpbnmegmhhkloaaDoorF04Q
import Derived.Test.YtpbnmegmhhkloaaDoorW06F04A
import Derived.Test.YtpbnmegmhhkloaaDoorAwD
namespace Go.Aw
open Go
open Go.Proofs.Tryd (prog)
set_option linter.all false
set_option maxHeartbeats 4000000
abbrev wv (x : W) : AV := .i .u32 (x.toNat : Int)
theorem q6y (n : Nat) (h : n < 4294967296) : IntKind.u32.wrap (n : Int) = n := by
 simp [IntKind.wrap, IntKind.signed, IntKind.bits]; omega
theorem qsd (x : W) : BitVec.ofInt IntKind.u32.bits (x.toNat : Int) = x := by
 show BitVec.ofInt 32 (x.toNat : Int) = x
 rw [BitVec.ofInt_natCast, BitVec.ofNat_toNat]; simp
theorem qse (x y : W) : IntKind.u32.wrap ((BitVec.ofInt IntKind.u32.bits (x.toNat : Int) ^^^ BitVec.ofInt IntKind.u32.bits (y.toNat : Int)).toNat : Int) = ((x ^^^ y).toNat : Int) := by
 rw [qsd, qsd]; exact q6y _ (x ^^^ y).isLt
theorem qsf (x : W) : IntKind.u32.wrap ((BitVec.ofInt IntKind.u32.bits (x.toNat : Int) &&& BitVec.ofInt IntKind.u32.bits 1).toNat : Int) = ((x &&& 1#32).toNat : Int) := by
 rw [qsd, show BitVec.ofInt IntKind.u32.bits 1 = (1#32 : W) from rfl]; exact q6y _ (x &&& 1#32).isLt
theorem qsg (x : W) : IntKind.u32.wrap ((BitVec.ofInt IntKind.u32.bits 3988292384 &&& BitVec.ofInt IntKind.u32.bits (x.toNat : Int)).toNat : Int) = ((ql4 &&& x).toNat : Int) := by
 rw [qsd, show BitVec.ofInt IntKind.u32.bits 3988292384 = (ql4 : W) from rfl]; exact q6y _ (ql4 &&& x).isLt
theorem qv7 (x : W) : IntKind.u32.wrap (0 - (x.toNat : Int)) = ((-x).toNat : Int) := by
 have := x.isLt
 simp only [IntKind.wrap, IntKind.signed, IntKind.bits, BitVec.toNat_neg]
 simp; omega
theorem qv8 (x : W) : (x.toNat : Int).fdiv (2 ^ (min 1 32 : Nat)) = ((x >>> 1).toNat : Int) := by
 rw [BitVec.toNat_ushiftRight, Nat.shiftRight_eq_div_pow]
 show (x.toNat : Int).fdiv (2 ^ 1) = _
 rw [Int.fdiv_eq_ediv_of_nonneg _ (by decide)]; norm_cast
theorem qm4 (x : W) : qb1 x = (x >>> 1) ^^^ (ql4 &&& -(x &&& 1#32)) := rfl
theorem qo9 {R : Z1} (hR : ExtR R) {T : Tab} {l : AV} {n i : AV} (hl : l.plain = true /\ n.plain = true /\ i.plain = true) : ∀ (m k : Nat), k + m = 8 -> ∀ (x : W),
  R (.exit 2) [(0, wv (it m x)), (7, l), (8, n), (9, i), (17, .i .i64 8), (18, .b false)] [] T ->
  AW prog q5u R [(0, wv x), (7, l), (8, n), (9, i), (17, .i .i64 k)] [] T := by
 intro m
 induction m with
 | zero =>
  intro k hk x h2
  have : k = 8 := by omega
  subst this
  refine q27 hR ?_
  unfold q4d
  obtain ⟨h3, h4, h5⟩ := hl
  simp -implicitDefEqProofs -dsimp only [go_sem, seval, show ((8 : Nat) : Int) = 8 from rfl, h3, h4, h5]
  exact h2
 | succ m ih =>
  intro k hk x h2
  have hk8 : (k : Int) < 8 := by omega
  have hws : IntKind.i64.wrap ((k : Int) + 1) = ((k + 1 : Nat) : Int) := q03 (by omega)
  refine N6 (l := q5u) rfl hR ?_
  unfold q4d
  have hl' := hl
  obtain ⟨h3, h4, h5⟩ := hl
  simp -implicitDefEqProofs -dsimp only [go_sem, seval, hk8, h3, h4, h5, hws, qsf, qv7, qsg, qv8, qse]
  rw [<- qm4]
  exact ih (k + 1) (by omega) (qb1 x) h2
theorem qn6 {b : List UInt8} {c : Option Nat} : AV.plain (bts b c) = true := rfl
theorem qji {b : List UInt8} {c : Option Nat} : AV.isLp (bts b c) = false := rfl
theorem qjj {b : List UInt8} {c : Option Nat} : AV.isOne (bts b c) = true := rfl
theorem qjk {b : List UInt8} {c : Option Nat} : AV.sto (bts b c) = true := rfl
theorem qjl {b : List UInt8} {c : Option Nat} : AV.cells (bts b c) = [bts b c] := rfl
theorem qjm {b : List UInt8} {c : Option Nat} (j : Nat) : AV.offLp j (bts b c) = bts b c := rfl
theorem qjn {b : List UInt8} {c : Option Nat} : q50 false (bts b c) = some (.i .i64 b.length) := rfl
attribute [go_sem] qn6 qji qjj qjk qjl qjm
attribute [go_sem ↓] qjn
theorem qh0 {l : List UInt8} {k : Nat} {b : UInt8} (h : l[k]? = some b) : ((J1 l).drop k)[0]? = some (.i .u8 (b.toNat : Int)) := by
 simp [J1, h]
theorem q6z {T : Tab} {n : Nat} {xs : List AV} {cap : Option Nat} (hx : xs.length = n) (hn : n <= 1000000000) : ACalls prog J3 [.fz n xs cap] T (fun v T' => Own T 1 v n xs T') := by
 refine K1 O5 Y8 (by simp) ?_
 unfold Q7
 have main : ∀ K : AV -> Tab -> Prop, (∀ v T', Own T 1 v n xs T' -> K v T') -> Z0 1 1 T (.fz 0 [] (some 0)) (.fz n xs cap) K := fun K hK =>
  (Own.nil T 1).app (m := n) (news := xs) (by simp [N1, hx]) rfl (by omega) (by omega) (by simpa using hK)
 simp -implicitDefEqProofs -dsimp only [go_sem, seval, qis]
 split
 ·refine main _ fun v T' h => ?_
  refine J7 ?_
  obtain ⟨q1, q2, q3, q4, q5, q6⟩ := h.form
  simp -implicitDefEqProofs -dsimp only [go_sem, seval, q1]
  exact h.fin (fun _ _ h => h)
 ·rename_i h0
  have e : n = 0 := by omega
  subst e
  have e : xs = [] := by simpa using hx
  subst e
  intro b
  refine V6 (fun h => ?_) (fun h => ?_) <;> simp -implicitDefEqProofs -dsimp only [go_sem, seval]
  ·exact (Own.nil T 1).fin (fun _ _ h => h)
  ·refine main _ fun v T' h => ?_
   refine J7 ?_
   obtain ⟨q1, q2, q3, q4, q5, q6⟩ := h.form
   simp -implicitDefEqProofs -dsimp only [go_sem, seval, q1]
   exact h.fin (fun _ _ h => h)
theorem qv9 (b : UInt8) : IntKind.u32.wrap (b.toNat : Int) = (((BitVec.ofNat 32 b.toNat : W)).toNat : Int) := by
 have := b.toNat_lt
 rw [q6y _ (by omega), BitVec.toNat_ofNat]; congr 1; omega
theorem qoa {R : Z1} (hR : ExtR R) {T : Tab} {l : List UInt8} {cap : Option Nat} (hl : l.length <= 1000000000) : ∀ (ys : List UInt8) (k : Nat), l.drop k = ys -> k <= l.length -> ∀ (x : W),
  R (.exit 0) [(0, wv (more x ys)), (7, bts l cap), (8, .i .i64 l.length), (9, .i .i64 l.length), (10, .b false)] [] T ->
  AW prog q5v R [(0, wv x), (7, bts l cap), (8, .i .i64 l.length), (9, .i .i64 k)] [] T := by
 intro ys
 induction ys with
 | nil =>
  intro k hk hle x h2
  have hk' := q35 hk hle
  refine q27 hR ?_
  unfold q4e
  simp -implicitDefEqProofs -dsimp only [go_sem, seval, hk', Int.lt_irrefl]
  rw [hk'] at h2
  exact h2
 | cons y ys ih =>
  intro k hk hle x h2
  obtain ⟨hlt, hy, hk'⟩ := q7d hk
  have hws : IntKind.i64.wrap ((k : Int) + 1) = ((k + 1 : Nat) : Int) := q03 (by omega)
  have hc := qh0 hy
  refine N6 (l := q5v) rfl hR ?_
  unfold q4e
  simp -implicitDefEqProofs -dsimp only [go_sem, seval, Int.ofNat_lt, hlt, bts, Int.natCast_nonneg, Int.toNat_natCast, Nat.mul_one, hc, qv9, qse]
  refine qo9 (by repeat' (first | exact N3 _ _ | assumption | apply N2 | apply K3 | apply V2)) ⟨rfl, rfl, rfl⟩ 8 0 rfl _ ?_
  simp -implicitDefEqProofs -dsimp only [go_sem, seval, hws]
  exact ih (k + 1) hk' hlt _ h2
theorem qob (x : W) (l : List UInt8) (cap : Option Nat) (hl : l.length <= 1000000000) : PCalls prog q4t [wv x, bts l cap] (wv (more x l)) := by
 refine K7 O5 qgy (by simp) fun T => ?_
 unfold qb9
 simp -implicitDefEqProofs -dsimp only [go_sem, seval]
 refine qoa (l := l) (cap := cap) (by repeat' (first | exact N3 _ _ | assumption | apply N2 | apply K3 | apply V2)) hl l 0 rfl (by omega) x ?_
 simp -implicitDefEqProofs -dsimp only [go_sem, seval]
 exact J8 rfl
theorem qva (x : W) : IntKind.u32.wrap ((BitVec.ofInt IntKind.u32.bits (if IntKind.u32.signed = true then -1 else IntKind.u32.max) ^^^ BitVec.ofInt IntKind.u32.bits (x.toNat : Int)).toNat : Int) = ((~~~x).toNat : Int) := by
 rw [qsd, show (BitVec.ofInt IntKind.u32.bits (if IntKind.u32.signed = true then -1 else IntKind.u32.max)) = (BitVec.allOnes 32 : W) from rfl]
 show IntKind.u32.wrap ((BitVec.allOnes 32 ^^^ x : W).toNat : Int) = _
 rw [BitVec.allOnes_xor]
 exact q6y _ (~~~x).isLt
theorem qvb (l : List UInt8) (cap : Option Nat) (hl : l.length <= 1000000000) : PCalls prog q8q [bts l cap] (wv (qj8 l)) := by
 have h := qob 4294967295#32 l cap hl
 have e : ((4294967295#32 : W).toNat : Int) = 4294967295 := rfl
 rw [wv, e] at h
 refine K7 O5 qm2 (by simp) fun T => ?_
 unfold qfl
 simp -implicitDefEqProofs -dsimp only [go_sem, seval, ↓J2 _ _ qgz]
 refine cpn h ?_
 simp -implicitDefEqProofs -dsimp only [go_sem, seval]
 rw [qva]
 exact J8 rfl
theorem qw4 (x : W) : IntKind.u8.wrap (x.toNat : Int) = ((q1x x 0).toNat : Int) := by
 simp only [IntKind.wrap, IntKind.signed, IntKind.bits, q1x]
 simp
theorem qsh (x : W) : (x.toNat : Int).fdiv (2 ^ (min 8 32 : Nat)) = ((x >>> 8).toNat : Int) := by
 rw [BitVec.toNat_ushiftRight, Nat.shiftRight_eq_div_pow]
 show (x.toNat : Int).fdiv (2 ^ 8) = _
 rw [Int.fdiv_eq_ediv_of_nonneg _ (by decide)]; norm_cast
def qeq : Nat -> W -> List UInt8
 | 0, _ => []
 | m + 1, x => q1x x 0 :: qeq m (x >>> 8)
theorem qjo (x : W) (j : Nat) : q1x (x >>> 8) j = q1x x (j + 1) := by
 unfold q1x
 rw [BitVec.toNat_ushiftRight, Nat.shiftRight_eq_div_pow, Nat.div_div_eq_div_mul, show (2 : Nat) ^ 8 = 256 from rfl, Nat.pow_succ, Nat.mul_comm]
theorem qm5 (x : W) : qeq 4 x = qo5 x := by
 simp only [qeq, qo5, qjo]
theorem q4g (x : W) : (qo5 x).length = 4 := rfl
theorem qoc {R : Z1} (hR : ExtR R) {T : Tab} : ∀ (m k : Nat), k + m = 4 -> ∀ (x : W) (bs : List UInt8) (v : AV) (T1 : Tab), bs.length + m <= 1000000100 -> Own T 1 v bs.length (J1 bs) T1 ->
  (∀ v T1 y, Own T 1 v (bs ++ qeq m x).length (J1 (bs ++ qeq m x)) T1 -> R (.exit 0) [(3, v), (4, y), (9, .i .i64 4), (10, .b false)] [] T1) ->
  AW prog q5m R [(3, v), (4, wv x), (9, .i .i64 k)] [] T1 := by
 intro m
 induction m with
 | zero =>
  intro k hk x bs v T1 hb ho h2
  have : k = 4 := by omega
  subst this
  obtain ⟨p1, p2, p3, p4, p5, p6⟩ := ho.form
  refine q27 hR ?_
  unfold q4b
  simp -implicitDefEqProofs -dsimp only [go_sem, seval, show ((4 : Nat) : Int) = 4 from rfl, p1, p2, p3, p4, p5, p6]
  refine h2 v T1 _ ?_
  rw [qeq, List.append_nil]; exact ho
 | succ m ih =>
  intro k hk x bs v T1 hb ho h2
  have hk4 : (k : Int) < 4 := by omega
  have hws : IntKind.i64.wrap ((k : Int) + 1) = ((k + 1 : Nat) : Int) := q03 (by omega)
  obtain ⟨p1, p2, p3, p4, p5, p6⟩ := ho.form
  refine N6 (l := q5m) rfl hR ?_
  unfold q4b
  simp -implicitDefEqProofs -dsimp only [go_sem, seval, hk4, p1, p2, p3, p4, p5, p6, qw4]
  refine ho.app (m := 1) (news := J1 [q1x x 0]) (by simp [N1, J1]) rfl (by omega) (by omega) fun v' T2 ho2 => J7 ?_
  obtain ⟨p1, p2, p3, p4, p5, p6⟩ := ho2.form
  simp -implicitDefEqProofs -dsimp only [go_sem, seval, p1, p2, p3, p4, p5, p6, qsh, hws]
  rw [U1] at ho2
  refine ih (k + 1) (by omega) (x >>> 8) (bs ++ [q1x x 0]) v' T2 ?_ ?_ fun v T1 y h => h2 v T1 y ?_
  ·simp only [List.length_append, List.length_cons, List.length_nil]; omega
  ·rw [List.length_append]; exact ho2
  ·rw [qeq]; simpa using h
theorem qjp (l : List UInt8) (cap : Option Nat) (hl : l.length <= 1000000000) : PCalls prog q2l [bts l cap] (bts (q0x l) none) := by
 refine K7 O5 qgw (by simp) fun T => ?_
 unfold qb7
 simp -implicitDefEqProofs -dsimp only [go_sem, seval, ↓J2 _ _ J9]
 refine CallK.of (q6z (n := l.length) (U0 l) hl) (fun v T1 ho => J7 ?_)
 obtain ⟨p1, p2, p3, p4, p5, p6⟩ := ho.form
 simp -implicitDefEqProofs -dsimp only [go_sem, seval, p1, p2, p3, p4, p5, p6, ↓J2 _ _ qm3]
 refine cpn (qvb l cap hl) ?_
 simp -implicitDefEqProofs -dsimp only [go_sem, seval, p1, p2, p3, p4, p5, p6]
 refine qoc (T := T) (by repeat' (first | exact N3 _ _ | assumption | apply N2 | apply K3 | apply V2)) 4 0 rfl (qj8 l) l v T1 (by omega) ho (fun v T1 y ho => ?_)
 obtain ⟨p1, p2, p3, p4, p5, p6⟩ := ho.form
 simp -implicitDefEqProofs -dsimp only [go_sem, seval, p1, p2, p3, p4, p5, p6]
 rw [qm5] at ho
 exact q6x ho rfl
theorem qm6 {R : Z1} (hR : ExtR R) {T : Tab} {l m : List UInt8} {c1 c2 : Option Nat} (hl : l.length <= 1000000000) (he : l.length = m.length) : ∀ (ys : List UInt8) (k : Nat), l.drop k = ys -> k <= l.length ->
  (ys ≠ m.drop k -> R .ret [(4, .b false)] [] T) ->
  (ys = m.drop k -> R (.exit 0) [(0, bts l c1), (1, bts m c2), (12, .i .i64 l.length), (13, .i .i64 l.length), (14, .b false)] [] T) ->
  AW prog Y1 R [(0, bts l c1), (1, bts m c2), (12, .i .i64 l.length), (13, .i .i64 k)] [] T := by
 intro ys
 induction ys with
 | nil =>
  intro k hk hle h1 h2
  have hk' := q35 hk hle
  refine q27 hR ?_
  unfold V3
  simp -implicitDefEqProofs -dsimp only [go_sem, seval, hk', Int.lt_irrefl]
  rw [hk'] at h2
  exact h2 (by rw [List.drop_of_length_le (by omega)])
 | cons y ys ih =>
  intro k hk hle h1 h2
  obtain ⟨hlt, hy, hk'⟩ := q7d hk
  have hws : IntKind.i64.wrap ((k : Int) + 1) = ((k + 1 : Nat) : Int) := q03 (by omega)
  have hc := qh0 hy
  obtain ⟨z, hz⟩ : ∃ z, m[k]? = some z := ⟨_, List.getElem?_eq_getElem (show k < m.length by omega)⟩
  have hcz := qh0 hz
  have hmd : m.drop k = z :: m.drop (k + 1) := by
   have hkm : k < m.length := by omega
   rw [List.drop_eq_getElem_cons hkm]; congr 1; exact (List.getElem?_eq_some_iff.1 hz).2
  have hlt2 : k < m.length := by omega
  rw [hmd] at h1 h2
  refine N6 (l := Y1) rfl hR ?_
  unfold V3
  by_cases e : y = z
  ·subst e
   simp -implicitDefEqProofs -dsimp only [go_sem, seval, Int.ofNat_lt, hlt, hlt2, bts, Int.natCast_nonneg, Int.toNat_natCast, Nat.mul_one, hc, hcz, decide_true, Bool.not_true, eq_self, hws]
   exact ih (k + 1) hk' hlt (fun h => h1 (fun e => h (by injection e))) (fun h => h2 (by rw [h]))
  ·have d : decide ((y.toNat : Int) = z.toNat) = false := decide_eq_false (fun h => e (UInt8.toNat_inj.1 (by omega)))
   simp -implicitDefEqProofs -dsimp only [go_sem, seval, Int.ofNat_lt, hlt, hlt2, bts, Int.natCast_nonneg, Int.toNat_natCast, Nat.mul_one, hc, hcz, d, Bool.not_false]
   exact h1 (fun h => e (by injection h))
theorem qm7 (l m : List UInt8) (c1 c2 : Option Nat) (hl : l.length <= 1000000000) : PCalls prog Q6 [bts l c1, bts m c2] (.b (decide (l = m))) := by
 refine K7 O5 q2t (by simp) fun T => ?_
 unfold q0k
 by_cases e : l.length = m.length
 ·have d : decide ((l.length : Int) = m.length) = true := decide_eq_true (by omega)
  simp -implicitDefEqProofs -dsimp only [go_sem, seval, d, Bool.not_true]
  refine qm6 (l := l) (m := m) (c1 := c1) (c2 := c2) (by repeat' (first | exact N3 _ _ | assumption | apply N2 | apply K3 | apply V2)) hl e l 0 rfl (by omega) (fun h => ?_) (fun h => ?_)
  ·simp -implicitDefEqProofs -dsimp only [go_sem, seval]
   rw [decide_eq_false (by simpa using h)]
   exact J8 rfl
  ·simp -implicitDefEqProofs -dsimp only [go_sem, seval]
   rw [decide_eq_true (by simpa using h)]
   exact J8 rfl
 ·have d : decide ((l.length : Int) = m.length) = false := decide_eq_false (by omega)
  simp -implicitDefEqProofs -dsimp only [go_sem, seval, d, Bool.not_false]
  rw [decide_eq_false (fun h => e (by rw [h]))]
  exact J8 rfl
def q2v (l : List UInt8) : Bool := decide (4 <= l.length) && decide (q0x (l.take (l.length - 4)) = l)
theorem qm8 (l : List UInt8) (cap : Option Nat) (hl : l.length <= 1000000000) : PCalls prog q37 [bts l cap] (.b (q2v l)) := by
 refine K7 O5 qeo (by simp) fun T => ?_
 have hw : IntKind.i64.wrap ((l.length : Int) - 4) = (l.length : Int) - 4 := K8 (by unfold I64; omega)
 unfold q9s
 by_cases h4 : 4 <= l.length
 ·obtain ⟨n, hn⟩ : ∃ n, l.length = n + 4 := ⟨l.length - 4, by omega⟩
  have hw' : IntKind.i64.wrap ((l.length : Int) - 4) = (n : Int) := by rw [hw]; omega
  have hnl : n <= l.length := by omega
  have e1 : (l.take n).length = n := by rw [List.length_take]; omega
  have c1 := qjp (l.take n) (Option.map (fun x => x) cap) (by omega)
  have c2 := qm7 (q0x (l.take n)) l none cap (by simp only [q0x, List.length_append, q4g]; omega)
  simp -implicitDefEqProofs -dsimp only [go_sem, seval, hw', Int.natCast_nonneg, bts, Int.ofNat_le, hnl, Int.toNat_natCast, Nat.mul_one, O1, Nat.zero_le, ↓q1m, q31, true_and, ↓J2 _ _ qb8]
  simp only [bts, e1] at c1 c2
  refine cpn c1 ?_
  simp -implicitDefEqProofs -dsimp only [go_sem, seval, ↓q1m, q31, true_and, ↓J2 _ _ q2u]
  refine cpn c2 ?_
  simp -implicitDefEqProofs -dsimp only [go_sem, seval]
  rw [q2v, decide_eq_true h4, Bool.true_and, show l.length - 4 = n by omega]
  exact J8 rfl
 ·have d : decide ((0 : Int) <= (l.length : Int) - 4) = false := decide_eq_false (by omega)
  simp -implicitDefEqProofs -dsimp only [go_sem, seval, hw, d]
  rw [q2v, decide_eq_false h4, Bool.false_and]
  exact J8 rfl
end Go.Aw
