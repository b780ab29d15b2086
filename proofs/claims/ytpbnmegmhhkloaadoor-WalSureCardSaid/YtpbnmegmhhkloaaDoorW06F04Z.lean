import Derived.Test.YtpbnmegmhhkloaaDoorW06F04X
import Derived.Test.YtpbnmegmhhkloaaDoorAwD
namespace Go.Aw
open Go
open Go.Proofs.Tryd (prog)
set_option linter.all false
set_option maxHeartbeats 4000000
theorem qsn {T : Tab} {S : List Nat} {k : IntKind} {n : Int} : q65 T S (.i k n) = .i k n := rfl
def recs : Nat -> Nat -> List UInt8 -> List (List UInt8) × Nat × Int
 | 0, a, _ => ([], a, 0)
 | f + 1, a, c => match nxE c with
  | some (_, e) => ([], a, e)
  | none => let r := recs f (a + (q5z c + 7)) (c.drop (q5z c + 7))
   (q70 c :: r.1, r.2.1, r.2.2)
def btL (l : List (List UInt8)) : List AV := l.map fun r => bts r none
theorem qjy (l : List (List UInt8)) : (btL l).length = l.length := by simp [btL]
theorem qh9 (l m : List (List UInt8)) : btL l ++ btL m = btL (l ++ m) := by simp [btL]
def qvp (r : List (List UInt8) × Nat × Int) : AV := .tup [.fz r.1.length (btL r.1) none, .i .i64 r.2.1, .i .i64 r.2.2]
theorem qjz {c : List UInt8} (h : nxE c = none) : q5z c + 7 <= c.length := by
 unfold nxE at h
 split at h; · cases h
 split at h; · cases h
 split at h; · cases h
 split at h; · cases h
 split at h; · cases h
 omega
theorem qso {R : Z1} (hR : ExtR R) {T : Tab} {b : List UInt8} {cap : Option Nat} (hl : b.length <= 1000000000) : ∀ (f a : Nat) (c : List UInt8), b.drop a = c -> a <= b.length -> c.length < f -> ∀ (rs : List (List UInt8)) (v : AV) (T1 : Tab), rs.length + c.length <= b.length -> Own T 1 v rs.length (btL rs) T1 ->
  (∀ v T1, Own T 1 v (rs ++ (recs f a c).1).length (btL (rs ++ (recs f a c).1)) T1 -> R .ret [(2, v), (3, .i .i64 (recs f a c).2.1), (4, .i .i64 (recs f a c).2.2)] [] T1) ->
  AW prog q4c R [(0, bts b cap), (5, v), (6, .i .i64 a)] [] T1 := by
 intro f
 induction f with
 | zero => intro a c _ _ h; omega
 | succ f ih =>
  intro a c hc ha hf rs v T1 hn ho h2
  have hcl : c.length = b.length - a := by rw [<- hc, List.length_drop]
  obtain ⟨p1, p2, p3, p4, p5, p6⟩ := ho.form
  have ec : ((b.drop a).take (b.length - a)) = c := by rw [hc, List.take_of_length_le (by omega)]
  have cN := qoi c (Option.map (fun x => x - a) cap) (by omega)
  simp only [bts, hcl] at cN
  have hale : a <= b.length /\ b.length <= b.length := ⟨ha, Nat.le_refl _⟩
  refine N6 (l := q4c) rfl hR ?_
  unfold q6u
  simp -implicitDefEqProofs -dsimp only [go_sem, seval, p1, p2, p3, p4, p5, p6, bts, hale, ha, Nat.le_refl, Int.natCast_nonneg, Int.toNat_natCast, Nat.mul_one, O1, q13, ec, ↓J2 _ _ qdh]
  refine cpn cN ?_
  unfold recs at h2
  unfold nxR
  rcases he : nxE c with _ | ⟨w, e⟩
  ·rw [he] at h2
   simp only at h2
   have hs := qjz he
   have wa : IntKind.i64.wrap ((a : Int) + ((q5z c + 7 : Nat) : Int)) = ((a + (q5z c + 7) : Nat) : Int) := (K8 (by unfold I64; omega)).trans (by omega)
   simp -implicitDefEqProofs -dsimp only [go_sem, seval, q7p, Bool.not_true, p1, p2, p3, p4, p5, p6]
   refine ho.app (m := 1) (news := [bts (q70 c) none]) (by simp [N1]) rfl (by omega) (by omega) fun v' T2 ho2 => J7 ?_
   obtain ⟨p1, p2, p3, p4, p5, p6⟩ := ho2.form
   simp -implicitDefEqProofs -dsimp only [go_sem, seval, p1, p2, p3, p4, p5, p6, wa]
   refine ih (a + (q5z c + 7)) (c.drop (q5z c + 7)) (by rw [<- hc, List.drop_drop]) (by omega) (by rw [List.length_drop]; omega) (rs ++ [q70 c]) v' T2 (by rw [List.length_append, List.length_drop]; simp; omega) ?_ (fun v T1 h => ?_)
   ·rw [List.length_append, <- qh9]; exact ho2
   ·rw [List.append_assoc] at h
    exact h2 v T1 h
  ·rw [he] at h2
   simp only [List.append_nil] at h2
   have hc := qoh (some (qvd (w, e)))
   simp only [qt6, qfn, qvd, Er.av, q2w] at hc
   simp -implicitDefEqProofs -dsimp only [go_sem, seval, q7p, q2w, Bool.not_false, p1, p2, p3, p4, p5, p6, ↓J2 _ _ qdk]
   refine cpn hc ?_
   simp -implicitDefEqProofs -dsimp only [go_sem, seval, p1, p2, p3, p4, p5, p6]
   exact h2 v T1 ho
theorem qsp (b : List UInt8) (cap : Option Nat) (hl : b.length <= 1000000000) : PCalls prog q36 [bts b cap] (qvp (recs (b.length + 1) 0 b)) := by
 refine K7 O5 qeh (by simp) fun T => ?_
 unfold q9p
 simp -implicitDefEqProofs -dsimp only [go_sem, seval]
 refine qso (T := T) (b := b) (cap := cap) (by repeat' (first | exact N3 _ _ | assumption | apply N2 | apply K3 | apply V2)) hl (b.length + 1) 0 b rfl (Nat.zero_le _) (Nat.lt_succ_self _) [] _ T (by simp) (Own.nil T 1) (fun v T1 ho => ?_)
 obtain ⟨p1, p2, p3, p4, p5, p6⟩ := ho.form
 rw [List.nil_append] at ho
 simp -implicitDefEqProofs -dsimp only [go_sem, seval, p1, p2, p3, p4, p5, p6]
 refine q6g (Owns.one ho) fun S hS => ?_
 obtain ⟨c, e⟩ := hS _ (List.mem_cons_self ..)
 simp only at e
 simp only [qf6, List.map_cons, List.map_nil, ho.frzv, e, qsn]
 exact Wk.tup ⟨.fz, .refl _, .refl _, trivial⟩
def btK (l : List (List UInt8 × Option Nat)) : List AV := l.map fun r => bts r.1 r.2
theorem qha (l m : List (List UInt8 × Option Nat)) : btK l ++ btK m = btK (l ++ m) := by simp [btK]
theorem qfp : ∀ l : List (List UInt8 × Option Nat), Wks (btK l) (btL (l.map (·.1)))
 | [] => trivial
 | p :: l => ⟨.fz, qfp l⟩
theorem qk0 {l : List (List UInt8)} {k : Nat} {r : List UInt8} (h : l[k]? = some r) : ((btL l).drop k)[0]? = some (bts r none) := by simp [btL, h]
theorem qoj {R : Z1} (hR : ExtR R) {T : Tab} {l m : List (List UInt8)} {c1 c2 : Option Nat} (hl : Len l.length) (he : l.length = m.length) : ∀ (ys : List (List UInt8)) (k : Nat), m.drop k = ys -> k <= m.length ->
  (l.drop k ≠ ys -> R .ret [(4, .b false)] [] T) ->
  (l.drop k = ys -> R (.exit 0) [(0, .fz l.length (btL l) c1), (1, .fz m.length (btL m) c2), (12, .i .i64 m.length), (13, .i .i64 m.length), (14, .b false)] [] T) ->
  AW prog I9 R [(0, .fz l.length (btL l) c1), (1, .fz m.length (btL m) c2), (12, .i .i64 m.length), (13, .i .i64 k)] [] T := by
 unfold Len at hl
 intro ys
 induction ys with
 | nil =>
  intro k hk hle h1 h2
  have hk' := q35 hk hle
  refine q27 hR ?_
  unfold I0
  rw [hk'] at h2
  have h2 := h2 (by rw [List.drop_of_length_le (by omega)])
  simp -implicitDefEqProofs -dsimp only [go_sem, seval, hk', Int.lt_irrefl]
  exact h2
 | cons y ys ih =>
  intro k hk hle h1 h2
  obtain ⟨hlt, hy, hk'⟩ := q7d hk
  have hws : IntKind.i64.wrap ((k : Int) + 1) = ((k + 1 : Nat) : Int) := q03 (by omega)
  have hc := qk0 hy
  obtain ⟨z, hz⟩ : ∃ z, l[k]? = some z := ⟨_, List.getElem?_eq_getElem (show k < l.length by omega)⟩
  have hcz := qk0 hz
  have hmd : l.drop k = z :: l.drop (k + 1) := by
   have hkm : k < l.length := by omega
   rw [List.drop_eq_getElem_cons hkm]; congr 1; exact (List.getElem?_eq_some_iff.1 hz).2
  have hlt2 : k < l.length := by omega
  rw [hmd] at h1 h2
  refine N6 (l := I9) rfl hR ?_
  unfold I0
  by_cases e : z = y
  ·subst e
   simp -implicitDefEqProofs -dsimp only [go_sem, seval, Int.ofNat_lt, hlt, hlt2, bts, Int.natCast_nonneg, Int.toNat_natCast, Nat.mul_one, hc, hcz, U0, q3e, decide_true, Bool.not_true, eq_self, hws]
   exact ih (k + 1) hk' hlt (fun h => h1 (fun e => h (by injection e))) (fun h => h2 (by rw [h]))
  ·have d : decide (z = y) = false := decide_eq_false e
   simp -implicitDefEqProofs -dsimp only [go_sem, seval, Int.ofNat_lt, hlt, hlt2, bts, Int.natCast_nonneg, Int.toNat_natCast, Nat.mul_one, hc, hcz, U0, q3e, d, Bool.not_false]
   exact h1 (fun h => e (by injection h))
theorem qk1 (l m : List (List UInt8)) (c1 c2 : Option Nat) (hl : Len l.length) (hm : Len m.length) : PCalls prog U9 [.fz l.length (btL l) c1, .fz m.length (btL m) c2] (.b (decide (l = m))) := by
 refine K7 O5 q5l (by simp) fun T => ?_
 unfold q1q
 by_cases e : l.length = m.length
 ·have d : decide ((l.length : Int) = m.length) = true := decide_eq_true (by omega)
  simp -implicitDefEqProofs -dsimp only [go_sem, seval, d, Bool.not_true]
  refine qoj (l := l) (m := m) (c1 := c1) (c2 := c2) (by repeat' (first | exact N3 _ _ | assumption | apply N2 | apply K3 | apply V2)) hl e m 0 rfl (by omega) (fun h => ?_) (fun h => ?_)
  ·simp -implicitDefEqProofs -dsimp only [go_sem, seval]
   rw [decide_eq_false (by simpa using h)]
   exact J8 rfl
  ·simp -implicitDefEqProofs -dsimp only [go_sem, seval]
   rw [decide_eq_true (by simpa using h)]
   exact J8 rfl
 ·have d : decide ((l.length : Int) = m.length) = false := decide_eq_false (by omega)
  simp -implicitDefEqProofs -dsimp only [go_sem, seval, d, Bool.not_false]
  rw [decide_eq_false (fun h => e (by rw [h]))]
  exact J8 rfl
end Go.Aw
