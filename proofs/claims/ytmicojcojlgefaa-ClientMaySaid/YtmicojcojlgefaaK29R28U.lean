import Derived.Test.YtmicojcojlgefaaK29S12Q
namespace Go.Aw
open Go
open Go.Proofs.Try (prog)
set_option linter.all false
set_option maxHeartbeats 4000000
def q7y (n : Int) : Nat := if n < 1 then 1 else if 4 < n then 4 else n.toNat
theorem qiq (n : Int) : 1 <= q7y n /\ q7y n <= 4 := by unfold q7y; split <;> (try split) <;> omega
def q04 (bs : Bs) (n : Int) : Nat := num bs % q7y n
theorem qes (bs : Bs) (n : Int) : q04 bs n < 4 := by
 have h := qiq n
 have := Nat.mod_lt (num bs) (show 0 < q7y n by omega)
 unfold q04; omega
theorem qs9 (n : Int) : (if 4 < (if 1 > n then (1 : Int) else n) then (4 : Int) else (if 1 > n then (1 : Int) else n)) = (q7y n : Int) := by
 unfold q7y; split <;> (try split) <;> (try split) <;> omega
theorem ql9 (bs : Bs) (n : Int) (hl : Len bs.length) : PCalls prog q68 [.s bs, .i .i64 n] (.i .i64 (q04 bs n)) := by
 refine K4 U6 qku (by simp) fun T => ?_
 have hc := qiq n
 have hnl := qxj bs
 have w1 : IntKind.u32.wrap (q7y n : Int) = q7y n := by rw [qe7]; omega
 have e1 : Int.tmod (num bs : Int) (q7y n : Int) = (q04 bs n : Int) := by rw [Int.tmod_eq_emod_of_nonneg (by omega)]; unfold q04; omega
 have hs := qes bs n
 have w2 : IntKind.u32.wrap (q04 bs n : Int) = q04 bs n := by rw [qe7]; omega
 have w3 : IntKind.i64.wrap (q04 bs n : Int) = q04 bs n := q15 (by unfold I64; omega)
 have z1 : ((q7y n : Int) = 0) = False := by simp; omega
 have hcl : (if (4 : Int) < (if n < 1 then (1 : Int) else n) then (4 : Int) else (if n < 1 then (1 : Int) else n)) = (q7y n : Int) := qs9 n
 unfold qfb
 simp -implicitDefEqProofs -dsimp only [go_sem, seval, gt_iff_lt, hcl, ↓J0 _ _ qjl]
 refine cpn (qo5 bs hl) ?_
 simp -implicitDefEqProofs -dsimp only [go_sem, seval, w1, e1, w2, w3, z1]
 exact K2 rfl
def qa3 : Nat -> List Bool -> List Int
 | _, [] => []
 | k, b :: bs => if b = true then (k : Int) :: qa3 (k + 1) bs else qa3 (k + 1) bs
theorem qne : ∀ (k : Nat) (l : List Bool), (qa3 k l).length <= l.length
 | _, [] => by simp [qa3]
 | k, b :: bs => by have := qne (k + 1) bs; simp only [qa3]; split <;> simp <;> omega
def quq (l : List Bs) (n : Int) (k : Nat) : Bool := l.any fun x => decide (q04 x n = k)
def qc3 (l : List Bs) (n : Int) : List Bool := [quq l n 0, quq l n 1, quq l n 2, quq l n 3]
def q63 (l : List Bs) (n : Int) : List Int := qa3 0 (qc3 l n)
theorem qql (l : List Bs) (x : Bs) (n : Int) : qc3 (l ++ [x]) n = (qc3 l n).set (q04 x n) true := by
 have h := qes x n
 have h4 : q04 x n = 0 \/ q04 x n = 1 \/ q04 x n = 2 \/ q04 x n = 3 := by omega
 rcases h4 with h | h | h | h <;> simp [qc3, quq, h]
theorem qmi {l : List AV} {k : Nat} {x : AV} (h : k < l.length) : q0j l k [x] = l.set k x := by
 simp only [q0j, List.length_cons, List.length_nil, List.set_eq_take_append_cons_drop, if_pos h, List.cons_append, List.nil_append, List.append_assoc, Nat.zero_add]
theorem qqm {l : List Bool} {k : Nat} {b : Bool} (h : k < l.length) : (q1k l).take k ++ [.b b] ++ (q1k l).drop (k + 1) = q1k (l.set k b) := by
 rw [<- qmi (l := q1k l) (x := .b b) (by simpa [q1k] using h) |>.trans (by simp [q1k, List.map_set] : (q1k l).set k (.b b) = q1k (l.set k b))]
 simp [q0j]
theorem qmj {R : I2} (hR : ExtR R) {T : Tab} {xs : List Bs} {cap : Option Nat} {n : Int} {v : AV} (hv : v.plain = true /\ v.offLp 5 = v) (hl : xs.length < 1000000000) (hs : ∀ x ∈ xs, Len x.length) : ∀ (ys : List Bs) (k : Nat), xs.drop k = ys -> k <= xs.length ->
  (R (.exit 0) [(1, .i .i64 n), (5, .lp 5 0), (6, v), (11, .fz xs.length (qfy xs) cap), (12, .i .i64 xs.length), (13, .i .i64 xs.length), (14, .b false)] [(5, q1k (qc3 xs n))] T) ->
  AW prog q88 R [(1, .i .i64 n), (5, .lp 5 0), (6, v), (11, .fz xs.length (qfy xs) cap), (12, .i .i64 xs.length), (13, .i .i64 k)] [(5, q1k (qc3 (xs.take k) n))] T := by
 obtain ⟨v1, v2⟩ := hv
 intro ys
 induction ys with
 | nil =>
  intro k hk hle h2
  have hk' := V0 hk hle
  refine V7 hR ?_
  unfold q7e
  simp -implicitDefEqProofs -dsimp only [go_sem, seval, hk', Int.lt_irrefl, v1]
  rw [List.take_of_length_le (by omega : xs.length <= k)]
  rw [hk'] at h2
  exact h2
 | cons y ys ih =>
  intro k hk hle h2
  obtain ⟨hlt, hy, hk'⟩ := V8 hk
  have hm : y ∈ xs := List.mem_of_getElem? hy
  have h4 := qes y n
  refine Q4 (l := q88) rfl hR ?_
  unfold q7e
  simp -implicitDefEqProofs -dsimp only [go_sem, seval, Int.ofNat_lt, hlt, Int.natCast_nonneg, Int.toNat_natCast, qq3, hy, v1, ↓J0 _ _ qfc]
  refine cpn (ql9 y n (hs y hm)) ?_
  have h4' : (q04 y n : Int) < 4 := by omega
  have hlen : q04 y n + 1 <= (q1k (qc3 (xs.take k) n)).length := by rw [qad]; show _ <= 4; omega
  have hset := qqm (l := qc3 (xs.take k) n) (k := q04 y n) (b := true) (by show _ < 4; omega)
  simp -implicitDefEqProofs -dsimp only [go_sem, seval, h4', Int.natCast_nonneg, Int.toNat_natCast, hlen, v1, v2, Int.ofNat_lt, h4]
  rw [hset, <- qql, O7 (by omega), <- q0l hy]
  exact ih (k + 1) hk' hlt h2
theorem qmk {R : I2} (hR : ExtR R) {T : Tab} {sn : List Bool} (h4 : sn.length = 4) : ∀ (ys : List Bool) (k : Nat), sn.drop k = ys -> k <= 4 -> ∀ (xs : List Int) (v : AV) (T1 : Tab), xs.length <= k ->
  Own T 1 v xs.length (q75 xs) T1 ->
  (∀ v T1, Own T 1 v (xs ++ qa3 k ys).length (q75 (xs ++ qa3 k ys)) T1 -> R (.exit 2) [(6, v), (22, .agg (q1k sn)), (23, .i .i64 4), (24, .b false)] [] T1) ->
  AW prog q89 R [(6, v), (22, .agg (q1k sn)), (23, .i .i64 k)] [] T1 := by
 intro ys
 induction ys with
 | nil =>
  intro k hk hle xs v T1 hx ho h2
  obtain ⟨p1, p2, p3, p4, p5, p6⟩ := ho.form
  have hk' : k = 4 := by have := V0 hk (by omega); omega
  subst hk'
  refine V7 hR ?_
  unfold q7f
  simp -implicitDefEqProofs -dsimp only [go_sem, seval, Int.lt_irrefl, p1, p2, p3, p4, p5, p6, show ((4 : Nat) : Int) = 4 from rfl]
  simp only [qa3, List.append_nil] at h2
  exact h2 _ _ ho
 | cons y ys ih =>
  intro k hk hle xs v T1 hx ho h2
  obtain ⟨hlt, hy, hk'⟩ := V8 hk
  obtain ⟨p1, p2, p3, p4, p5, p6⟩ := ho.form
  rw [h4] at hlt
  have hlt' : (k : Int) < 4 := by omega
  have hat : (q1k sn)[k]? = some (.b y) := by simp [q1k, hy]
  refine Q4 (l := q89) rfl hR ?_
  unfold q7f
  simp -implicitDefEqProofs -dsimp only [go_sem, seval, hlt', hlt, Int.natCast_nonneg, Int.toNat_natCast, hat, p1, p2, p3, p4, p5, p6, show ((4 : Nat) : Int) = 4 from rfl]
  cases y with
  | false =>
   simp -implicitDefEqProofs -dsimp only [go_sem, seval, p1, p2, p3, p4, p5, p6]
   rw [O7 (by omega)]
   refine ih (k + 1) hk' hlt xs v T1 (by omega) ho fun v T1 ho => h2 v T1 ?_
   simpa only [qa3, Bool.false_eq_true, if_false] using ho
  | true =>
   simp -implicitDefEqProofs -dsimp only [go_sem, seval, p1, p2, p3, p4, p5, p6]
   refine ho.app (m := 1) (news := [.i .i64 k]) rfl rfl (by omega) (by omega) fun v2 T2 ho => J1 ?_
   obtain ⟨p1, p2, p3, p4, p5, p6⟩ := ho.form
   simp -implicitDefEqProofs -dsimp only [go_sem, seval, p1, p2, p3, p4, p5, p6]
   rw [O7 (by omega)]
   have e : q75 xs ++ [.i .i64 (k : Int)] = q75 (xs ++ [(k : Int)]) := by simp [q75]
   rw [e] at ho
   refine ih (k + 1) hk' hlt (xs ++ [(k : Int)]) v2 T2 (by simp; omega) (by simpa using ho) fun v T1 ho => h2 v T1 ?_
   simpa only [qa3, if_true, List.append_assoc, List.cons_append, List.nil_append] using ho
theorem qof (xs : List Bs) (cap : Option Nat) (n : Int) (hl : xs.length < 1000000000) (hs : ∀ x ∈ xs, Len x.length) :
  PCalls prog q70 [.fz xs.length (qfy xs) cap, .i .i64 n] (.fz (q63 xs n).length (q75 (q63 xs n)) none) := by
 refine K4 U6 qjn (by simp) fun T => ?_
 unfold qe5
 simp -implicitDefEqProofs -dsimp only [go_sem, seval]
 refine qmj (T := T) (by repeat' (first | exact O9 _ _ | assumption | apply O8 | apply N9 | apply Z5)) ⟨rfl, rfl⟩ hl hs xs 0 rfl (by omega) ?_
 have e4 : (q1k (qc3 xs n)).length = 4 := rfl
 simp -implicitDefEqProofs -dsimp only [go_sem, seval, e4]
 have e5 : (q1k (qc3 xs n)).take 4 = q1k (qc3 xs n) := rfl
 try rw [e5]
 refine qmk (T := T) (by repeat' (first | exact O9 _ _ | assumption | apply O8 | apply N9 | apply Z5)) rfl (qc3 xs n) 0 rfl (by omega) [] _ _ (by simp) (.nil ..) (fun v T1 ho => ?_)
 obtain ⟨p1, p2, p3, p4, p5, p6⟩ := ho.form
 simp -implicitDefEqProofs -dsimp only [go_sem, seval, p1, p2, p3, p4, p5, p6]
 exact ho.fzn
end Go.Aw
