import Derived.Test.YtpbnmegmhhkloaaDoorW06F04X
import Derived.Test.YtpbnmegmhhkloaaDoorAwD
namespace Go.Aw
open Go
open Go.Proofs.Tryd (prog)
set_option linter.all false
set_option maxHeartbeats 4000000
theorem qq2 {T : Tab} {S : List Nat} {k : IntKind} {n : Int} : q8u T S (.i k n) = .i k n := rfl
def recs : Nat -> Nat -> List UInt8 -> List (List UInt8) × Nat × Int
 | 0, a, _ => ([], a, 0)
 | f + 1, a, c => match nxE c with
  | some (_, e) => ([], a, e)
  | none => let r := recs f (a + (q61 c + 7)) (c.drop (q61 c + 7))
   (q62 c :: r.1, r.2.1, r.2.2)
def btL (l : List (List UInt8)) : List AV := l.map fun r => bts r none
theorem qhu (l : List (List UInt8)) : (btL l).length = l.length := by simp [btL]
theorem qfa (l m : List (List UInt8)) : btL l ++ btL m = btL (l ++ m) := by simp [btL]
def qt1 (r : List (List UInt8) × Nat × Int) : AV := .tup [.fz r.1.length (btL r.1) none, .i .i64 r.2.1, .i .i64 r.2.2]
theorem qhv {c : List UInt8} (h : nxE c = none) : q61 c + 7 <= c.length := by
 unfold nxE at h
 split at h; · cases h
 split at h; · cases h
 split at h; · cases h
 split at h; · cases h
 split at h; · cases h
 omega
theorem qq3 {R : G5} (hR : ExtR R) {T : Tab} {b : List UInt8} {cap : Option Nat} (hl : b.length <= 1000000000) : ∀ (f a : Nat) (c : List UInt8), b.drop a = c -> a <= b.length -> c.length < f -> ∀ (rs : List (List UInt8)) (v : AV) (T1 : Tab), rs.length + c.length <= b.length -> Own T 1 v rs.length (btL rs) T1 ->
  (∀ v T1, Own T 1 v (rs ++ (recs f a c).1).length (btL (rs ++ (recs f a c).1)) T1 -> R .ret [(2, v), (3, .i .i64 (recs f a c).2.1), (4, .i .i64 (recs f a c).2.2)] [] T1) ->
  AW prog q3j R [(0, bts b cap), (5, v), (6, .i .i64 a)] [] T1 := by
 intro f
 induction f with
 | zero => intro a c _ _ h; omega
 | succ f ih =>
  intro a c hc ha hf rs v T1 hn ho h2
  have hcl : c.length = b.length - a := by rw [<- hc, List.length_drop]
  obtain ⟨p1, p2, p3, p4, p5, p6⟩ := ho.form
  have ec : ((b.drop a).take (b.length - a)) = c := by rw [hc, List.take_of_length_le (by omega)]
  have cN := qm5 c (Option.map (fun x => x - a) cap) (by omega)
  simp only [bts, hcl] at cN
  have hale : a <= b.length /\ b.length <= b.length := ⟨ha, Nat.le_refl _⟩
  refine N6 (l := q3j) rfl hR ?_
  unfold q5v
  simp -implicitDefEqProofs -dsimp only [go_sem, seval, p1, p2, p3, p4, p5, p6, bts, hale, ha, Nat.le_refl, Int.natCast_nonneg, Int.toNat_natCast, Nat.mul_one, O7, q0k, ec, ↓J2 _ _ qbs]
  refine cpn cN ?_
  unfold recs at h2
  unfold nxR
  rcases he : nxE c with _ | ⟨w, e⟩
  ·rw [he] at h2
   simp only at h2
   have hs := qhv he
   have wa : IntKind.i64.wrap ((a : Int) + ((q61 c + 7 : Nat) : Int)) = ((a + (q61 c + 7) : Nat) : Int) := (K9 (by unfold I64; omega)).trans (by omega)
   simp -implicitDefEqProofs -dsimp only [go_sem, seval, q56, Bool.not_true, p1, p2, p3, p4, p5, p6]
   refine ho.app (m := 1) (news := [bts (q62 c) none]) (by simp [K8]) rfl (by omega) (by omega) fun v' T2 ho2 => J8 ?_
   obtain ⟨p1, p2, p3, p4, p5, p6⟩ := ho2.form
   simp -implicitDefEqProofs -dsimp only [go_sem, seval, p1, p2, p3, p4, p5, p6, wa]
   refine ih (a + (q61 c + 7)) (c.drop (q61 c + 7)) (by rw [<- hc, List.drop_drop]) (by omega) (by rw [List.length_drop]; omega) (rs ++ [q62 c]) v' T2 (by rw [List.length_append, List.length_drop]; simp; omega) ?_ (fun v T1 h => ?_)
   ·rw [List.length_append, <- qfa]; exact ho2
   ·rw [List.append_assoc] at h
    exact h2 v T1 h
  ·rw [he] at h2
   simp only [List.append_nil] at h2
   have hc := qm4 (some (qsq (w, e)))
   simp only [qqi, qdv, qsq, Er.av, q28] at hc
   simp -implicitDefEqProofs -dsimp only [go_sem, seval, q56, q28, Bool.not_false, p1, p2, p3, p4, p5, p6, ↓J2 _ _ qbv]
   refine cpn hc ?_
   simp -implicitDefEqProofs -dsimp only [go_sem, seval, p1, p2, p3, p4, p5, p6]
   exact h2 v T1 ho
theorem qq4 (b : List UInt8) (cap : Option Nat) (hl : b.length <= 1000000000) : PCalls prog q2f [bts b cap] (qt1 (recs (b.length + 1) 0 b)) := by
 refine K0 N5 qcs (by simp) fun T => ?_
 unfold q8j
 simp -implicitDefEqProofs -dsimp only [go_sem, seval]
 refine qq3 (T := T) (b := b) (cap := cap) (by repeat' (first | exact N4 _ _ | assumption | apply N3 | apply K5 | apply V3)) hl (b.length + 1) 0 b rfl (Nat.zero_le _) (Nat.lt_succ_self _) [] _ T (by simp) (Own.nil T 1) (fun v T1 ho => ?_)
 obtain ⟨p1, p2, p3, p4, p5, p6⟩ := ho.form
 rw [List.nil_append] at ho
 simp -implicitDefEqProofs -dsimp only [go_sem, seval, p1, p2, p3, p4, p5, p6]
 refine q5j (Owns.one ho) fun S hS => ?_
 obtain ⟨c, e⟩ := hS _ (List.mem_cons_self ..)
 simp only at e
 simp only [qfg, List.map_cons, List.map_nil, ho.frzv, e, qq2]
 exact Wk.tup ⟨.fz, .refl _, .refl _, trivial⟩
end Go.Aw
