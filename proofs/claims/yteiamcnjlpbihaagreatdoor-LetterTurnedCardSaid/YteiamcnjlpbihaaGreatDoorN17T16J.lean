import Derived.Test.YteiamcnjlpbihaaGreatDoorN17M17M
import Derived.Test.YteiamcnjlpbihaaGreatDoorN17M17B
namespace Go.Aw
open Go
open Go.Proofs.Tryz (prog)
set_option linter.all false
set_option maxHeartbeats 8000000
set_option maxRecDepth 8000
def CfS (c : Cf) : Prop := c.ch.length < 1000000000
theorem z1g {R : Z1} (hR : ExtR R) {T : Tab} {lc zc : List AV} {o : Lt Cf} {y w : AV} {rest : List Ow} {xs : List Vt} (hl : xs.length < 1000000) (hx : ∀ x ∈ xs, VtT x) : ∀ (us : List Vt) (k : Nat), xs.drop k = us -> k <= xs.length -> ∀ (v : AV) (T1 : Tab),
  Owns T (⟨4, v, ((xs.take k).map id).length, ((xs.take k).map id).flatMap vtC⟩ :: rest) T1 ->
  (∀ v T1, Owns T (⟨4, v, (xs.map id).length, (xs.map id).flatMap vtC⟩ :: rest) T1 -> R (.exit 0) [(1, .lp 1 0), (2, .lp 2 0), (3, .lp 3 0), (58, .fz xs.length (xs.flatMap vtC) none), (59, .i .i64 xs.length), (60, .i .i64 xs.length), (61, .b false)] [(1, lc), (2, zc), (3, lz o v y w)] T1) ->
  AW prog q6h R [(1, .lp 1 0), (2, .lp 2 0), (3, .lp 3 0), (58, .fz xs.length (xs.flatMap vtC) none), (59, .i .i64 xs.length), (60, .i .i64 k)] [(1, lc), (2, zc), (3, lz o v y w)] T1 := by
 intro us
 induction us with
 | nil =>
  intro k hk hle v T1 ho h2
  have hk' := U3 hk hle
  refine U1 hR ?_
  unfold q5o
  simp -implicitDefEqProofs -dsimp only [go_sem, seval, hk', Int.lt_irrefl]
  rw [List.take_of_length_le (by omega : xs.length <= k)] at ho
  have := h2 _ _ ho
  rw [hk'] at this
  exact this
 | cons u us ih =>
  intro k hk hle v T1 ho h2
  obtain ⟨hlt, hu, hk'⟩ := U9 hk
  obtain ⟨p1, p2, p3, p4, p5, p6⟩ := ho.form (List.mem_cons_self ..)
  simp only at p1 p2 p3 p4 p5 p6
  have cl : ∀ c : Vt, (vtC c).length = 4 := fun _ => rfl
  have ea := G2 cl hu
  have e5 : k * 4 + 4 <= (xs.flatMap vtC).length := by rw [O6 cl]; omega
  unfold Len at *
  have hs : IntKind.i64.wrap ((k : Int) + 1) = ((k + 1 : Nat) : Int) := N6 (by omega)
  have hok := hx u (List.mem_of_getElem? hu)
  refine O4 (l := q6h) rfl hR ?_
  unfold q5o
  have ht' : xs.take (k + 1) = xs.take k ++ [u] := I4 hu
  simp -implicitDefEqProofs -dsimp only [go_sem, seval, Int.ofNat_lt, hlt, Int.natCast_nonneg, Int.toNat_natCast, ea, e5, vtC, List.cons_append, List.nil_append, p1, p2, p3, p4, p5, p6]
  refine ho.app (m := 1) (news := vtC u) rfl rfl (by simp; omega) (by simp; omega) fun v2 T2 ho => J1 ?_
  obtain ⟨q1, q2, q3, q4, q5, q6⟩ := ho.form (List.mem_cons_self ..)
  simp only at q1 q2 q3 q4 q5 q6
  simp -implicitDefEqProofs -dsimp only [go_sem, seval, q1, q2, q3, q4, q5, q6, hs]
  refine ih (k + 1) hk' hlt _ _ ?_ h2
  rw [ht', List.map_append, List.flatMap_append, List.length_append]
  simpa only [List.map_cons, List.map_nil, List.flatMap_cons, List.flatMap_nil, List.append_nil, List.length_cons, List.length_nil, id_eq, Nat.zero_add] using ho
theorem z1h {R : Z1} (hR : ExtR R) {T : Tab} {lc zc : List AV} {o : Lt Cf} {x w : AV} {rest : List Ow} {xs : List Cf} (hl : xs.length < 1000000) (hx : ∀ x ∈ xs, CfS x) : ∀ (us : List Cf) (k : Nat), xs.drop k = us -> k <= xs.length -> ∀ (v : AV) (T1 : Tab),
  Owns T (⟨4, v, ((xs.take k).map Cf.plain).length, ((xs.take k).map Cf.plain).flatMap rfL⟩ :: rest) T1 ->
  (∀ v T1, Owns T (⟨4, v, (xs.map Cf.plain).length, (xs.map Cf.plain).flatMap rfL⟩ :: rest) T1 -> R (.exit 2) [(1, .lp 1 0), (2, .lp 2 0), (3, .lp 3 0), (83, .fz xs.length (xs.flatMap cfC) none), (84, .i .i64 xs.length), (85, .i .i64 xs.length), (86, .b false)] [(1, lc), (2, zc), (3, lz o x v w)] T1) ->
  AW prog q6i R [(1, .lp 1 0), (2, .lp 2 0), (3, .lp 3 0), (83, .fz xs.length (xs.flatMap cfC) none), (84, .i .i64 xs.length), (85, .i .i64 k)] [(1, lc), (2, zc), (3, lz o x v w)] T1 := by
 intro us
 induction us with
 | nil =>
  intro k hk hle v T1 ho h2
  have hk' := U3 hk hle
  refine U1 hR ?_
  unfold q5p
  simp -implicitDefEqProofs -dsimp only [go_sem, seval, hk', Int.lt_irrefl]
  rw [List.take_of_length_le (by omega : xs.length <= k)] at ho
  have := h2 _ _ ho
  rw [hk'] at this
  exact this
 | cons u us ih =>
  intro k hk hle v T1 ho h2
  obtain ⟨hlt, hu, hk'⟩ := U9 hk
  obtain ⟨p1, p2, p3, p4, p5, p6⟩ := ho.form (List.mem_cons_self ..)
  simp only at p1 p2 p3 p4 p5 p6
  have cl : ∀ c : Cf, (cfC c).length = 5 := fun _ => rfl
  have ea := G2 cl hu
  have e5 : k * 5 + 5 <= (xs.flatMap cfC).length := by rw [O6 cl]; omega
  unfold Len at *
  have hs : IntKind.i64.wrap ((k : Int) + 1) = ((k + 1 : Nat) : Int) := N6 (by omega)
  have hok := hx u (List.mem_of_getElem? hu)
  have pc := z4l u none none hok
  simp only [cfC, Cf.cells, rfL, Rf.cells] at pc
  refine O4 (l := q6i) rfl hR ?_
  unfold q5p
  have ht' : xs.take (k + 1) = xs.take k ++ [u] := I4 hu
  simp -implicitDefEqProofs -dsimp only [go_sem, seval, Int.ofNat_lt, hlt, Int.natCast_nonneg, Int.toNat_natCast, ea, e5, cfC, Cf.cells, rfL, Rf.cells, List.cons_append, List.nil_append, p1, p2, p3, p4, p5, p6, ↓J0 _ _ qgr]
  refine cpn pc ?_
  simp -implicitDefEqProofs -dsimp only [go_sem, seval, p1, p2, p3, p4, p5, p6]
  refine ho.app (m := 1) (news := rfL (Cf.plain u)) rfl rfl (by simp; omega) (by simp; omega) fun v2 T2 ho => J1 ?_
  obtain ⟨q1, q2, q3, q4, q5, q6⟩ := ho.form (List.mem_cons_self ..)
  simp only at q1 q2 q3 q4 q5 q6
  simp -implicitDefEqProofs -dsimp only [go_sem, seval, q1, q2, q3, q4, q5, q6, hs]
  refine ih (k + 1) hk' hlt _ _ ?_ h2
  rw [ht', List.map_append, List.flatMap_append, List.length_append]
  simpa only [List.map_cons, List.map_nil, List.flatMap_cons, List.flatMap_nil, List.append_nil, List.length_cons, List.length_nil, id_eq, Nat.zero_add] using ho
theorem z1i {R : Z1} (hR : ExtR R) {T : Tab} {lc zc : List AV} {o : Lt Cf} {x y : AV} {rest : List Ow} {xs : List En} (hl : xs.length < 1000000) (hx : ∀ x ∈ xs, EnF x) : ∀ (us : List En) (k : Nat), xs.drop k = us -> k <= xs.length -> ∀ (v : AV) (T1 : Tab),
  Owns T (⟨10, v, ((xs.take k).map id).length, ((xs.take k).map id).flatMap enC⟩ :: rest) T1 ->
  (∀ v T1, Owns T (⟨10, v, (xs.map id).length, (xs.map id).flatMap enC⟩ :: rest) T1 -> R (.exit 4) [(2, .lp 2 0), (3, .lp 3 0), (98, .fz xs.length (xs.flatMap enC) none), (99, .i .i64 xs.length), (100, .i .i64 xs.length), (101, .b false)] [(2, zc), (3, lz o x y v)] T1) ->
  AW prog q6j R [(2, .lp 2 0), (3, .lp 3 0), (98, .fz xs.length (xs.flatMap enC) none), (99, .i .i64 xs.length), (100, .i .i64 k)] [(2, zc), (3, lz o x y v)] T1 := by
 intro us
 induction us with
 | nil =>
  intro k hk hle v T1 ho h2
  have hk' := U3 hk hle
  refine U1 hR ?_
  unfold q5q
  simp -implicitDefEqProofs -dsimp only [go_sem, seval, hk', Int.lt_irrefl]
  rw [List.take_of_length_le (by omega : xs.length <= k)] at ho
  have := h2 _ _ ho
  rw [hk'] at this
  exact this
 | cons u us ih =>
  intro k hk hle v T1 ho h2
  obtain ⟨hlt, hu, hk'⟩ := U9 hk
  obtain ⟨p1, p2, p3, p4, p5, p6⟩ := ho.form (List.mem_cons_self ..)
  simp only at p1 p2 p3 p4 p5 p6
  have cl : ∀ c : En, (enC c).length = 10 := fun _ => rfl
  have ea := G2 cl hu
  have e5 : k * 10 + 10 <= (xs.flatMap enC).length := by rw [O6 cl]; omega
  unfold Len at *
  have hs : IntKind.i64.wrap ((k : Int) + 1) = ((k + 1 : Nat) : Int) := N6 (by omega)
  have hok := hx u (List.mem_of_getElem? hu)
  have pc := qyg u none none hok
  simp only [enC, En.cells] at pc
  refine O4 (l := q6j) rfl hR ?_
  unfold q5q
  have ht' : xs.take (k + 1) = xs.take k ++ [u] := I4 hu
  simp -implicitDefEqProofs -dsimp only [go_sem, seval, Int.ofNat_lt, hlt, Int.natCast_nonneg, Int.toNat_natCast, ea, e5, enC, En.cells, List.cons_append, List.nil_append, p1, p2, p3, p4, p5, p6, ↓J0 _ _ qgu]
  refine cpn pc ?_
  simp -implicitDefEqProofs -dsimp only [go_sem, seval, p1, p2, p3, p4, p5, p6]
  refine ho.app (m := 1) (news := enC u) rfl rfl (by simp; omega) (by simp; omega) fun v2 T2 ho => J1 ?_
  obtain ⟨q1, q2, q3, q4, q5, q6⟩ := ho.form (List.mem_cons_self ..)
  simp only at q1 q2 q3 q4 q5 q6
  simp -implicitDefEqProofs -dsimp only [go_sem, seval, q1, q2, q3, q4, q5, q6, hs]
  refine ih (k + 1) hk' hlt _ _ ?_ h2
  rw [ht', List.map_append, List.flatMap_append, List.length_append]
  simpa only [List.map_cons, List.map_nil, List.flatMap_cons, List.flatMap_nil, List.append_nil, List.length_cons, List.length_nil, id_eq, Nat.zero_add] using ho
theorem z1j (l : Lt Cf) (h : l.Fine) : PCalls prog q3z [.agg (l.cells cfC)] (.agg (l.plain.cells rfL)) := by
 refine K6 U7 qgk (by simp) fun T => ?_
 have htx := qo8 l.t none none h.t
 obtain ⟨zc, hz⟩ : ∃ z : List AV, z = [.i .i64 0, .i .i64 0, .i .i64 0, .i .i64 0, .i .i64 0, .i .i64 0, .i .u64 0, .i .i64 0, .i .i64 0, .i .i64 0, .b false, .i .u64 0, .i .i64 0, .fz 0 [] (some 0), .fz 0 [] (some 0), .fz 0 [] (some 0), .i .i64 0, .i .u64 0, .b false, .fz 0 [] (some 0), .fz 0 [] (some 0), .i .i64 0, .i .u64 0, .s [], .i .u64 0, .i .i64 0] := ⟨_, rfl⟩
 have hzl : zc.length = 26 := by rw [hz]; rfl
 have hz26 : zc.drop 26 = [] := by rw [hz]; rfl
 unfold qa6
 refine q9z True [(1, .lp 1 0), (2, .lp 2 0)] [(1, l.cells cfC), (2, zc)] T (fun K hK => by rw [hz] at hK; simp -implicitDefEqProofs -dsimp only [go_sem, seval]; exact hK trivial) fun _ => ?_
 refine q9z True [(1, .lp 1 0), (2, .lp 2 0), (3, .lp 3 0)] [(1, l.cells cfC), (2, zc), (3, lz ({ l with t := l.t } : Lt Cf) (.fz 0 [] (some 0)) (.fz 0 [] (some 0)) (.fz 0 [] (some 0)))] T (fun K hK => ?_) fun _ => ?_
 ·simp -implicitDefEqProofs -dsimp only [go_sem, seval, qbm, ↓J0 _ _ q8q]
  refine cpn htx ?_
  simp -implicitDefEqProofs -dsimp only [go_sem, seval, Tx.cells]
  exact hK trivial
 simp -implicitDefEqProofs -dsimp only [go_sem, seval, qbm]
 refine z1g (T := T) (lc := l.cells cfC) (zc := zc) (o := ({ l with t := l.t } : Lt Cf)) (rest := []) (by repeat' (first | exact N8 _ _ | assumption | apply N7 | apply K8 | apply V0)) (by have := h.vs; omega) (fun _ _ => trivial) l.vs 0 rfl (Nat.zero_le _) (.fz 0 [] (some 0)) T ⟨T, rfl, .nil T 4⟩ (fun v1 T1 ho1 => ?_)
 simp -implicitDefEqProofs -dsimp only [go_sem, seval, qbm]
 refine z1h (T := T) (lc := l.cells cfC) (zc := zc) (o := ({ l with t := l.t } : Lt Cf)) (by repeat' (first | exact N8 _ _ | assumption | apply N7 | apply K8 | apply V0)) (by have := h.cs; omega) (fun c hc => by have := (h.cl c hc).1; show c.ch.length < 1000000000; omega) l.cs 0 rfl (Nat.zero_le _) (.fz 0 [] (some 0)) T1 ⟨T1, ho1, .nil T1 4⟩ (fun v2 T2 ho2 => ?_)
 simp -implicitDefEqProofs -dsimp only [go_sem, seval, qbm]
 refine z1i (T := T) (lc := []) (zc := zc) (o := ({ l with t := l.t } : Lt Cf)) (by repeat' (first | exact N8 _ _ | assumption | apply N7 | apply K8 | apply V0)) (by have := h.es; omega) h.et l.es 0 rfl (Nat.zero_le _) (.fz 0 [] (some 0)) T2 ⟨T2, ho2, .nil T2 10⟩ (fun v3 T3 ho3 => ?_)
 simp -implicitDefEqProofs -dsimp only [go_sem, seval, qbm, hzl, hz26]
 refine q2g ho3 fun S hS => ?_
 obtain ⟨c3, e3⟩ := hS _ (List.mem_cons_self ..)
 obtain ⟨c2, e2⟩ := hS _ (List.mem_cons_of_mem _ (List.mem_cons_self ..))
 obtain ⟨c1, e1⟩ := hS _ (List.mem_cons_of_mem _ (List.mem_cons_of_mem _ (List.mem_cons_self ..)))
 simp only [List.map_id] at e1 e2 e3
 simp only [lz, qm3, qc5, List.map_cons, List.map_nil, e1, e2, e3, qaz, qcr, qsn, qi5]
 exact Wk.agg ⟨.refl _, .refl _, .refl _, .refl _, .refl _, .refl _, .refl _, .refl _, .refl _, .refl _, .refl _, .refl _, .refl _, .fz, .fz, .fz, .refl _, .refl _, .refl _, .refl _, .refl _, .refl _, .refl _, .refl _, .refl _, .refl _, trivial⟩
end Go.Aw
namespace Go.Aw
open Go
open Go.Proofs.Tryz (prog)
set_option linter.all false
set_option maxHeartbeats 4000000
theorem z6b {v : Int} : ∀ {l : List Int} {k j : Nat}, ixF v l k = some j -> k <= j /\ j < k + l.length
 | [], k, j, h => by simp [ixF] at h
 | y :: l, k, j, h => by
  simp only [ixF] at h
  split at h
  ·injection h with h; subst h; simp
  ·have := z6b h
   simp only [List.length_cons]
   omega
def Cf.place (c : Cf) (n : Int) : Int := if c.right then ixI n c.ch else -1
def Cf.at (c : Cf) (k : Int) : Int := if c.right = true /\ 0 <= k /\ k < c.ch.length then (c.ch[k.toNat]?).getD 0 else -1
def Cf.next (c : Cf) (n : Int) : Int := if c.place n < 0 then -1 else c.at (c.place n + 1)
def Cf.has (c : Cf) (n : Int) : Bool := c.right && decide (0 <= n) && (decide (n = c.ln) || ctn c.ch n)
end Go.Aw
namespace Go.Aw
open Go
open Go.Proofs.Tryz (prog)
set_option linter.all false
set_option maxHeartbeats 4000000
end Go.Aw
namespace Go.Aw
open Go
open Go.Proofs.Tryz (prog)
set_option linter.all false
set_option maxHeartbeats 4000000
end Go.Aw
namespace Go.Aw
open Go
open Go.Proofs.Tryz (prog)
set_option linter.all false
set_option maxHeartbeats 4000000
def Cf.may (c : Cf) (n ep : Int) : Bool := c.right && srv n && !decide (ep <= c.ep)
end Go.Aw
namespace Go.Aw
open Go
open Go.Proofs.Tryz (prog)
set_option linter.all false
set_option maxHeartbeats 4000000
def Cf.ret (r : Cf × Int) : AV := .tup [.agg (r.1.cells none none), .i .i64 r.2]
end Go.Aw
namespace Go.Aw
open Go
open Go.Proofs.Tryz (prog)
set_option linter.all false
set_option maxHeartbeats 4000000
theorem qpz (fu : List Bool) : ∀ (l : List Int) (k : Nat), (qeo fu l k).map (·.1) = l
 | [], _ => rfl
 | _ :: l, k => by simp [qeo, qpz fu l (k + 1)]
theorem Cf.plain_fst (c : Cf) : c.plain.l.map (·.1) = c.ch := qpz _ _ _
theorem Cf.plain_len (c : Cf) : c.plain.l.length = c.ch.length := qeh _ _ _
theorem z1k (v : Int) : ∀ (a b : List Int) (k : Nat), ixF v (a ++ b) k = match ixF v a k with | some j => some j | none => ixF v b (k + a.length)
 | [], b, k => by simp [ixF]
 | x :: a, b, k => by
  simp only [List.cons_append, ixF]
  by_cases h : v = x
  ·simp [h]
  ·simp only [h, if_false, z1k v a b (k + 1), List.length_cons]
   rw [show k + 1 + a.length = k + (a.length + 1) by omega]
theorem z1l (xs : List Int) (v : Int) : ctn xs v = decide (v ∈ xs) := by
 have : ∀ (l : List Int) (k : Nat), (ixF v l k = none) ↔ v ∉ l := by
  intro l
  induction l with
  | nil => intro k; simp [ixF]
  | cons x l ih =>
   intro k
   simp only [ixF, List.mem_cons, not_or]
   by_cases h : v = x
   ·simp [h]
   ·simp [h, ih (k + 1)]
 have h := this xs 0
 unfold ctn ixI
 cases e : ixF v xs 0 with
 | none => simp only [e, true_iff] at h; simp [h]
 | some j => simp only [e] at h; simp at h; simp [h]
theorem zck {xs ys : List Int} {y : Int} {k : Nat} (h : xs.drop k = y :: ys) : (ixI y xs = (k : Int)) ↔ ctn (xs.take k) y = false := by
 have hk : k < xs.length := (U9 h).1
 have e : xs = xs.take k ++ y :: ys := by rw [<- h]; exact (List.take_append_drop k xs).symm
 have hl : (xs.take k).length = k := by rw [List.length_take]; omega
 have h1 : ixF y xs 0 = match ixF y (xs.take k) 0 with | some j => some j | none => some k := by
  conv => lhs; rw [e]
  rw [z1k]
  cases ixF y (xs.take k) 0 with
  | none => simp [ixF, hl]
  | some j => rfl
 unfold ctn ixI
 rw [h1]
 cases h2 : ixF y (xs.take k) 0 with
 | none => simp
 | some j =>
  have := z6b h2
  simp only [hl] at this
  simp
  omega
theorem z86 {xs : List Int} {l : List (Int × Bool)} {ln : Int} (hx : l.map (·.1) = xs) : ∀ (ys : List (Int × Bool)) (k : Nat), l.drop k = ys -> qra l ln ys k = (z3j xs (ys.map (·.1)) k && decide (∀ y ∈ ys, ¬ y.1 = ln)) := by
 intro ys
 induction ys with
 | nil => intro k _; simp [qra, z3j]
 | cons y ys ih =>
  intro k hk
  have h2 := ih (k + 1) (U9 hk).2.2
  have h3 : xs.drop k = y.1 :: ys.map (·.1) := by rw [<- hx, <- List.map_drop, hk]; rfl
  have h4 := zck h3
  simp only [qra, z3j, List.map_cons, h2, hx]
  rw [Bool.eq_iff_iff]
  simp only [Bool.and_eq_true, Bool.not_eq_true', decide_eq_false_iff_not, Bool.not_eq_false', decide_eq_true_eq, List.mem_cons, forall_eq_or_imp, srv, h4]
  constructor
  ·rintro ⟨⟨⟨⟨a, b⟩, c⟩, d⟩, e, f⟩
   exact ⟨⟨⟨⟨by omega, by omega⟩, c⟩, e⟩, d, f⟩
  ·rintro ⟨⟨⟨⟨a, b⟩, c⟩, e⟩, d, f⟩
   exact ⟨⟨⟨⟨by omega, by omega⟩, c⟩, d⟩, e, f⟩
theorem qw2 {xs : List Int} : ∀ (ys : List Int) (k : Nat), z3j xs ys k = true -> ∀ y ∈ ys, 0 <= y /\ y < 8
 | [], _, _, y, hy => by cases hy
 | x :: ys, k, h, y, hy => by
  simp only [z3j, Bool.and_eq_true, srv, decide_eq_true_eq] at h
  rcases List.mem_cons.1 hy with rfl | hy
  ·exact h.1.1
  ·exact qw2 ys (k + 1) h.2 y hy
theorem Cf.plain_right (c : Cf) (hf : c.fu.length = c.ch.length) : c.plain.right = c.right := by
 rw [Bool.eq_iff_iff]
 have e1 : c.plain.l.length = c.ch.length := c.plain_len
 have e2 : qra c.plain.l c.plain.ln c.plain.l 0 = _ := z86 (ln := c.ln) c.plain_fst c.plain.l 0 rfl
 rw [c.plain_fst] at e2
 have e3 : 0 < c.ch.length -> (c.plain.l[0]?).getD (0, false) = ((c.ch[0]?).getD 0, (c.fu[0]?).getD false) := fun h => by
  simp only [Cf.plain]
  cases hc : c.ch with
  | nil => simp [hc] at h
  | cons x l => simp [qeo]
 simp only [Rf.right, Cf.right, e2, e1]
 have e4 : (∀ y ∈ c.plain.l, ¬ y.1 = c.ln) ↔ ctn c.ch c.ln = false := by
  rw [z1l, decide_eq_false_iff_not, <- c.plain_fst, List.mem_map]
  constructor
  ·rintro h ⟨a, h1, h2⟩; exact h a h1 h2
  ·intro h y hy e; exact h ⟨y, hy, e⟩
 simp only [Bool.and_eq_true, Bool.not_eq_true', decide_eq_false_iff_not, Bool.not_eq_false', decide_eq_true_eq, e4, Bool.and_eq_false_iff, Bool.or_eq_false_iff, Bool.not_eq_true, srv]
 have e5 : c.plain.ep = c.ep := rfl
 have e6 : c.plain.sh = c.sh := rfl
 have e7 : c.plain.ln = c.ln := rfl
 rw [e5, e6, e7]
 constructor
 ·rintro ⟨⟨⟨⟨⟨⟨⟨⟨a1, a2⟩, a3⟩, a4⟩, a5⟩, a6⟩, a7⟩, a8⟩, a9, a10⟩
  rw [e3 (by omega)] at a6
  refine ⟨⟨⟨⟨⟨⟨⟨⟨a1, a2⟩, by omega⟩, a4⟩, a5⟩, by omega⟩, a6⟩, ?_⟩, a9⟩
  by_cases h : c.ln = -1
  ·exact .inl h
  ·exact .inr ⟨by omega, a10⟩
 ·rintro ⟨⟨⟨⟨⟨⟨⟨⟨a1, a2⟩, a3⟩, a4⟩, a5⟩, a6⟩, a7⟩, a8⟩, a9⟩
  have hn := qw2 c.ch 0 a9
  refine ⟨⟨⟨⟨⟨⟨⟨⟨a1, a2⟩, by omega⟩, a4⟩, a5⟩, ?_⟩, by omega⟩, by omega⟩, a9, ?_⟩
  ·rw [e3 (by omega)]; exact a7
  ·rcases a8 with h | h
   ·rw [z1l, decide_eq_false_iff_not, h]
    intro hm
    have := hn _ hm
    omega
   ·exact h.2
end Go.Aw
