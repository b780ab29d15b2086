import Derived.Test.YtchdmofoaokpjaaGreatDoorM30N17M17L
namespace Go.Aw
open Go
open Go.Proofs.Tryz (prog)
set_option linter.all false
set_option maxHeartbeats 8000000
set_option maxRecDepth 8000
def lz {γ : Type} (o : Lt γ) (x y w : AV) : List AV := [.i .i64 o.fk, .i .i64 o.fn, .i .i64 o.tk, .i .i64 o.tn, .i .i64 o.k, .i .i64 o.sh, .i .u64 o.ep, .i .i64 o.n, .i .i64 o.m, .i .i64 o.nd, .b o.fl, .i .u64 o.br, .i .i64 o.bn, x, y, w, .i .i64 o.t.cl, .i .u64 o.t.sq, .b o.t.pl, .fz o.t.rs.length (o.t.rs.flatMap rdC) none, .fz o.t.ws.length (o.t.ws.flatMap wtC) none, .i .i64 o.cl, .i .u64 o.sq, .s o.v, .i .u64 o.q, .i .i64 o.co]
section
variable {γ : Type} (o : Lt γ) (x y w v : AV)
theorem za6 : (lz o x y w).length = 26 := rfl
theorem z5m : (lz o x y w).take 26 = lz o x y w := rfl
theorem zdq : (lz o x y w)[13]? = some x := rfl
theorem zdr : (lz o x y w)[14]? = some y := rfl
theorem zds : (lz o x y w)[15]? = some w := rfl
theorem zdt : (lz o x y w).take 13 ++ [v] ++ (lz o x y w).drop 14 = lz o v y w := rfl
theorem zdu : (lz o x y w).take 14 ++ [v] ++ (lz o x y w).drop 15 = lz o x v w := rfl
theorem zdv : (lz o x y w).take 15 ++ [v] ++ (lz o x y w).drop 16 = lz o x y v := rfl
theorem zdw {f : γ -> List AV} : (o.cells f)[0]? = some (.i .i64 o.fk) := rfl
theorem zdx {f : γ -> List AV} : (o.cells f)[1]? = some (.i .i64 o.fn) := rfl
theorem zdy {f : γ -> List AV} : (o.cells f)[2]? = some (.i .i64 o.tk) := rfl
theorem zdz {f : γ -> List AV} : (o.cells f)[3]? = some (.i .i64 o.tn) := rfl
attribute [go_sem] za6 z5m zdq zdr zds zdt zdu zdv zdw zdx zdy zdz
end
def RfW (c : Rf) : Prop := Len c.l.length
def EnW (e : En) : Prop := e.t.Wide
theorem z21 {R : G9} (hR : ExtR R) {T : Tab} {lc zc : List AV} {o : Lt Rf} {y w : AV} {rest : List Ow} {xs : List Vt} (hl : Len xs.length) (hx : ∀ x ∈ xs, VtT x) : ∀ (us : List Vt) (k : Nat), xs.drop k = us -> k <= xs.length -> ∀ (v : AV) (T1 : Tab),
  Owns T (⟨4, v, (((xs.take k).take 20).map id).length, (((xs.take k).take 20).map id).flatMap vtC⟩ :: rest) T1 ->
  (∀ v T1, Owns T (⟨4, v, ((xs.take 20).map id).length, ((xs.take 20).map id).flatMap vtC⟩ :: rest) T1 -> R (.exit 0) [(1, .lp 1 0), (2, .lp 2 0), (3, .lp 3 0), (58, .fz xs.length (xs.flatMap vtC) none), (59, .i .i64 xs.length), (60, .i .i64 xs.length), (61, .b false)] [(1, lc), (2, zc), (3, lz o v y w)] T1) ->
  AW prog q58 R [(1, .lp 1 0), (2, .lp 2 0), (3, .lp 3 0), (58, .fz xs.length (xs.flatMap vtC) none), (59, .i .i64 xs.length), (60, .i .i64 k)] [(1, lc), (2, zc), (3, lz o v y w)] T1 := by
 intro us
 induction us with
 | nil =>
  intro k hk hle v T1 ho h2
  have hk' := V6 hk hle
  refine V1 hR ?_
  unfold q4o
  simp -implicitDefEqProofs -dsimp only [go_sem, seval, hk', Int.lt_irrefl]
  rw [List.take_of_length_le (by omega : xs.length <= k)] at ho
  have := h2 _ _ ho
  rw [hk'] at this
  exact this
 | cons u us ih =>
  intro k hk hle v T1 ho h2
  obtain ⟨hlt, hu, hk'⟩ := Y6 hk
  obtain ⟨p1, p2, p3, p4, p5, p6⟩ := ho.form (List.mem_cons_self ..)
  simp only at p1 p2 p3 p4 p5 p6
  have cl : ∀ c : Vt, (vtC c).length = 4 := fun _ => rfl
  have ea := q08 cl hu
  have e5 : k * 4 + 4 <= (xs.flatMap vtC).length := by rw [Q5 cl]; omega
  unfold Len at *
  have hs : IntKind.i64.wrap ((k : Int) + 1) = ((k + 1 : Nat) : Int) := O8 (by omega)
  have hok := hx u (List.mem_of_getElem? hu)
  refine Q1 (l := q58) rfl hR ?_
  unfold q4o
  simp -implicitDefEqProofs -dsimp only [go_sem, seval, Int.ofNat_lt, hlt, Int.natCast_nonneg, Int.toNat_natCast, ea, e5, vtC, List.cons_append, List.nil_append, p1, p2, p3, p4, p5, p6]
  apply K0 <;> intro h3
  ·have hk10 : k < 20 := by have := of_decide_eq_true h3; omega
   have ht : (xs.take k).take 20 = xs.take k := List.take_of_length_le (by simp; omega)
   have ht' : (xs.take (k + 1)).take 20 = xs.take k ++ [u] := by rw [List.take_of_length_le (by simp; omega)]; exact q1v hu
   simp -implicitDefEqProofs -dsimp only [go_sem, seval, h3, p1, p2, p3, p4, p5, p6]
   refine ho.app (m := 1) (news := vtC u) rfl rfl (by simp; omega) (by simp; omega) fun v2 T2 ho => J1 ?_
   obtain ⟨q1, q2, q3, q4, q5, q6⟩ := ho.form (List.mem_cons_self ..)
   simp only at q1 q2 q3 q4 q5 q6
   simp -implicitDefEqProofs -dsimp only [go_sem, seval, q1, q2, q3, q4, q5, q6, hs]
   refine ih (k + 1) hk' hlt _ _ ?_ h2
   rw [ht', List.map_append, List.flatMap_append, List.length_append]
   rw [ht] at ho
   simpa only [List.map_cons, List.map_nil, List.flatMap_cons, List.flatMap_nil, List.append_nil, List.length_cons, List.length_nil, id_eq, Nat.zero_add] using ho
  ·have hk10 : 20 <= k := by have := of_decide_eq_false h3; omega
   have e : ∀ j, 20 <= j -> (xs.take j).take 20 = xs.take 20 := fun j hj => by rw [List.take_take, Nat.min_eq_left hj]
   simp -implicitDefEqProofs -dsimp only [go_sem, seval, h3, p1, p2, p3, p4, p5, p6, hs]
   refine ih (k + 1) hk' hlt _ _ ?_ h2
   rw [e k hk10] at ho
   rw [e (k + 1) (by omega)]
   exact ho
theorem z22 {R : G9} (hR : ExtR R) {T : Tab} {lc zc : List AV} {o : Lt Rf} {x w : AV} {rest : List Ow} {xs : List Rf} (hl : Len xs.length) (hx : ∀ x ∈ xs, RfW x) : ∀ (us : List Rf) (k : Nat), xs.drop k = us -> k <= xs.length -> ∀ (v : AV) (T1 : Tab),
  Owns T (⟨5, v, (((xs.take k).take 6).map Rf.ours).length, (((xs.take k).take 6).map Rf.ours).flatMap cfC⟩ :: rest) T1 ->
  (∀ v T1, Owns T (⟨5, v, ((xs.take 6).map Rf.ours).length, ((xs.take 6).map Rf.ours).flatMap cfC⟩ :: rest) T1 -> R (.exit 2) [(1, .lp 1 0), (2, .lp 2 0), (3, .lp 3 0), (86, .fz xs.length (xs.flatMap rfL) none), (87, .i .i64 xs.length), (88, .i .i64 xs.length), (89, .b false)] [(1, lc), (2, zc), (3, lz o x v w)] T1) ->
  AW prog q59 R [(1, .lp 1 0), (2, .lp 2 0), (3, .lp 3 0), (86, .fz xs.length (xs.flatMap rfL) none), (87, .i .i64 xs.length), (88, .i .i64 k)] [(1, lc), (2, zc), (3, lz o x v w)] T1 := by
 intro us
 induction us with
 | nil =>
  intro k hk hle v T1 ho h2
  have hk' := V6 hk hle
  refine V1 hR ?_
  unfold q4p
  simp -implicitDefEqProofs -dsimp only [go_sem, seval, hk', Int.lt_irrefl]
  rw [List.take_of_length_le (by omega : xs.length <= k)] at ho
  have := h2 _ _ ho
  rw [hk'] at this
  exact this
 | cons u us ih =>
  intro k hk hle v T1 ho h2
  obtain ⟨hlt, hu, hk'⟩ := Y6 hk
  obtain ⟨p1, p2, p3, p4, p5, p6⟩ := ho.form (List.mem_cons_self ..)
  simp only at p1 p2 p3 p4 p5 p6
  have cl : ∀ c : Rf, (rfL c).length = 4 := fun _ => rfl
  have ea := q08 cl hu
  have e5 : k * 4 + 4 <= (xs.flatMap rfL).length := by rw [Q5 cl]; omega
  unfold Len at *
  have hs : IntKind.i64.wrap ((k : Int) + 1) = ((k + 1 : Nat) : Int) := O8 (by omega)
  have hok := hx u (List.mem_of_getElem? hu)
  have pc := z5c u none hok
  simp only [rfL, Rf.cells, cfC, Cf.cells] at pc
  refine Q1 (l := q59) rfl hR ?_
  unfold q4p
  simp -implicitDefEqProofs -dsimp only [go_sem, seval, Int.ofNat_lt, hlt, Int.natCast_nonneg, Int.toNat_natCast, ea, e5, rfL, Rf.cells, cfC, Cf.cells, List.cons_append, List.nil_append, p1, p2, p3, p4, p5, p6]
  apply K0 <;> intro h3
  ·have hk10 : k < 6 := by have := of_decide_eq_true h3; omega
   have ht : (xs.take k).take 6 = xs.take k := List.take_of_length_le (by simp; omega)
   have ht' : (xs.take (k + 1)).take 6 = xs.take k ++ [u] := by rw [List.take_of_length_le (by simp; omega)]; exact q1v hu
   simp -implicitDefEqProofs -dsimp only [go_sem, seval, h3, p1, p2, p3, p4, p5, p6, ↓J0 _ _ qet]
   refine cpn pc ?_
   simp -implicitDefEqProofs -dsimp only [go_sem, seval, p1, p2, p3, p4, p5, p6]
   refine ho.app (m := 1) (news := cfC (Rf.ours u)) rfl rfl (by simp; omega) (by simp; omega) fun v2 T2 ho => J1 ?_
   obtain ⟨q1, q2, q3, q4, q5, q6⟩ := ho.form (List.mem_cons_self ..)
   simp only at q1 q2 q3 q4 q5 q6
   simp -implicitDefEqProofs -dsimp only [go_sem, seval, q1, q2, q3, q4, q5, q6, hs]
   refine ih (k + 1) hk' hlt _ _ ?_ h2
   rw [ht', List.map_append, List.flatMap_append, List.length_append]
   rw [ht] at ho
   simpa only [List.map_cons, List.map_nil, List.flatMap_cons, List.flatMap_nil, List.append_nil, List.length_cons, List.length_nil, id_eq, Nat.zero_add] using ho
  ·have hk10 : 6 <= k := by have := of_decide_eq_false h3; omega
   have e : ∀ j, 6 <= j -> (xs.take j).take 6 = xs.take 6 := fun j hj => by rw [List.take_take, Nat.min_eq_left hj]
   simp -implicitDefEqProofs -dsimp only [go_sem, seval, h3, p1, p2, p3, p4, p5, p6, hs]
   refine ih (k + 1) hk' hlt _ _ ?_ h2
   rw [e k hk10] at ho
   rw [e (k + 1) (by omega)]
   exact ho
theorem z23 {R : G9} (hR : ExtR R) {T : Tab} {lc zc : List AV} {o : Lt Rf} {x y : AV} {rest : List Ow} {xs : List En} (hl : Len xs.length) (hx : ∀ x ∈ xs, EnW x) : ∀ (us : List En) (k : Nat), xs.drop k = us -> k <= xs.length -> ∀ (v : AV) (T1 : Tab),
  Owns T (⟨10, v, (((xs.take k).take 10).map En.our).length, (((xs.take k).take 10).map En.our).flatMap enC⟩ :: rest) T1 ->
  (∀ v T1, Owns T (⟨10, v, ((xs.take 10).map En.our).length, ((xs.take 10).map En.our).flatMap enC⟩ :: rest) T1 -> R (.exit 4) [(2, .lp 2 0), (3, .lp 3 0), (104, .fz xs.length (xs.flatMap enC) none), (105, .i .i64 xs.length), (106, .i .i64 xs.length), (107, .b false)] [(2, zc), (3, lz o x y v)] T1) ->
  AW prog q5a R [(2, .lp 2 0), (3, .lp 3 0), (104, .fz xs.length (xs.flatMap enC) none), (105, .i .i64 xs.length), (106, .i .i64 k)] [(2, zc), (3, lz o x y v)] T1 := by
 intro us
 induction us with
 | nil =>
  intro k hk hle v T1 ho h2
  have hk' := V6 hk hle
  refine V1 hR ?_
  unfold q4q
  simp -implicitDefEqProofs -dsimp only [go_sem, seval, hk', Int.lt_irrefl]
  rw [List.take_of_length_le (by omega : xs.length <= k)] at ho
  have := h2 _ _ ho
  rw [hk'] at this
  exact this
 | cons u us ih =>
  intro k hk hle v T1 ho h2
  obtain ⟨hlt, hu, hk'⟩ := Y6 hk
  obtain ⟨p1, p2, p3, p4, p5, p6⟩ := ho.form (List.mem_cons_self ..)
  simp only at p1 p2 p3 p4 p5 p6
  have cl : ∀ c : En, (enC c).length = 10 := fun _ => rfl
  have ea := q08 cl hu
  have e5 : k * 10 + 10 <= (xs.flatMap enC).length := by rw [Q5 cl]; omega
  unfold Len at *
  have hs : IntKind.i64.wrap ((k : Int) + 1) = ((k + 1 : Nat) : Int) := O8 (by omega)
  have hok := hx u (List.mem_of_getElem? hu)
  have pc := qyv u none none hok
  simp only [enC, En.cells] at pc
  refine Q1 (l := q5a) rfl hR ?_
  unfold q4q
  simp -implicitDefEqProofs -dsimp only [go_sem, seval, Int.ofNat_lt, hlt, Int.natCast_nonneg, Int.toNat_natCast, ea, e5, enC, En.cells, List.cons_append, List.nil_append, p1, p2, p3, p4, p5, p6]
  apply K0 <;> intro h3
  ·have hk10 : k < 10 := by have := of_decide_eq_true h3; omega
   have ht : (xs.take k).take 10 = xs.take k := List.take_of_length_le (by simp; omega)
   have ht' : (xs.take (k + 1)).take 10 = xs.take k ++ [u] := by rw [List.take_of_length_le (by simp; omega)]; exact q1v hu
   simp -implicitDefEqProofs -dsimp only [go_sem, seval, h3, p1, p2, p3, p4, p5, p6, ↓J0 _ _ qew]
   refine cpn pc ?_
   simp -implicitDefEqProofs -dsimp only [go_sem, seval, p1, p2, p3, p4, p5, p6]
   refine ho.app (m := 1) (news := enC (En.our u)) rfl rfl (by simp; omega) (by simp; omega) fun v2 T2 ho => J1 ?_
   obtain ⟨q1, q2, q3, q4, q5, q6⟩ := ho.form (List.mem_cons_self ..)
   simp only at q1 q2 q3 q4 q5 q6
   simp -implicitDefEqProofs -dsimp only [go_sem, seval, q1, q2, q3, q4, q5, q6, hs]
   refine ih (k + 1) hk' hlt _ _ ?_ h2
   rw [ht', List.map_append, List.flatMap_append, List.length_append]
   rw [ht] at ho
   simpa only [List.map_cons, List.map_nil, List.flatMap_cons, List.flatMap_nil, List.append_nil, List.length_cons, List.length_nil, id_eq, Nat.zero_add] using ho
  ·have hk10 : 10 <= k := by have := of_decide_eq_false h3; omega
   have e : ∀ j, 10 <= j -> (xs.take j).take 10 = xs.take 10 := fun j hj => by rw [List.take_take, Nat.min_eq_left hj]
   simp -implicitDefEqProofs -dsimp only [go_sem, seval, h3, p1, p2, p3, p4, p5, p6, hs]
   refine ih (k + 1) hk' hlt _ _ ?_ h2
   rw [e k hk10] at ho
   rw [e (k + 1) (by omega)]
   exact ho
theorem z24 (l : Lt Rf) (h : l.Wide) : PCalls prog q3j [.agg (l.cells rfL)] (.agg (l.ours.cells cfC)) := by
 refine K6 U1 qeq (by simp) fun T => ?_
 have htx := qqn l.t none none h.t
 obtain ⟨zc, hz⟩ : ∃ z : List AV, z = [.i .i64 0, .i .i64 0, .i .i64 0, .i .i64 0, .i .i64 0, .i .i64 0, .i .u64 0, .i .i64 0, .i .i64 0, .i .i64 0, .b false, .i .u64 0, .i .i64 0, .fz 0 [] (some 0), .fz 0 [] (some 0), .fz 0 [] (some 0), .i .i64 0, .i .u64 0, .b false, .fz 0 [] (some 0), .fz 0 [] (some 0), .i .i64 0, .i .u64 0, .s [], .i .u64 0, .i .i64 0] := ⟨_, rfl⟩
 have hzl : zc.length = 26 := by rw [hz]; rfl
 have hz26 : zc.drop 26 = [] := by rw [hz]; rfl
 unfold q8p
 refine qyw True [(1, .lp 1 0), (2, .lp 2 0)] [(1, l.cells rfL), (2, zc)] T (fun K hK => by rw [hz] at hK; simp -implicitDefEqProofs -dsimp only [go_sem, seval]; exact hK trivial) fun _ => ?_
 refine qyw True [(1, .lp 1 0), (2, .lp 2 0), (3, .lp 3 0)] [(1, l.cells rfL), (2, zc), (3, lz ({ l with t := l.t.our } : Lt Rf) (.fz 0 [] (some 0)) (.fz 0 [] (some 0)) (.fz 0 [] (some 0)))] T (fun K hK => ?_) fun _ => ?_
 ·simp -implicitDefEqProofs -dsimp only [go_sem, seval, qiq, ↓J0 _ _ q7o]
  refine cpn htx ?_
  simp -implicitDefEqProofs -dsimp only [go_sem, seval, Tx.cells]
  exact hK trivial
 simp -implicitDefEqProofs -dsimp only [go_sem, seval, qiq]
 refine z21 (T := T) (lc := l.cells rfL) (zc := zc) (o := ({ l with t := l.t.our } : Lt Rf)) (rest := []) (by repeat' (first | exact O6 _ _ | assumption | apply O5 | apply N4 | apply V8)) h.vs (fun _ _ => trivial) l.vs 0 rfl (Nat.zero_le _) (.fz 0 [] (some 0)) T ⟨T, rfl, .nil T 4⟩ (fun v1 T1 ho1 => ?_)
 simp -implicitDefEqProofs -dsimp only [go_sem, seval, qiq]
 refine z22 (T := T) (lc := l.cells rfL) (zc := zc) (o := ({ l with t := l.t.our } : Lt Rf)) (by repeat' (first | exact O6 _ _ | assumption | apply O5 | apply N4 | apply V8)) h.cs h.cl l.cs 0 rfl (Nat.zero_le _) (.fz 0 [] (some 0)) T1 ⟨T1, ho1, .nil T1 5⟩ (fun v2 T2 ho2 => ?_)
 simp -implicitDefEqProofs -dsimp only [go_sem, seval, qiq]
 refine z23 (T := T) (lc := []) (zc := zc) (o := ({ l with t := l.t.our } : Lt Rf)) (by repeat' (first | exact O6 _ _ | assumption | apply O5 | apply N4 | apply V8)) h.es h.et l.es 0 rfl (Nat.zero_le _) (.fz 0 [] (some 0)) T2 ⟨T2, ho2, .nil T2 10⟩ (fun v3 T3 ho3 => ?_)
 simp -implicitDefEqProofs -dsimp only [go_sem, seval, qiq, hzl, hz26]
 refine q33 ho3 fun S hS => ?_
 obtain ⟨c3, e3⟩ := hS _ (List.mem_cons_self ..)
 obtain ⟨c2, e2⟩ := hS _ (List.mem_cons_of_mem _ (List.mem_cons_self ..))
 obtain ⟨c1, e1⟩ := hS _ (List.mem_cons_of_mem _ (List.mem_cons_of_mem _ (List.mem_cons_self ..)))
 simp only [List.map_id] at e1 e2 e3
 simp only [lz, qm5, q99, List.map_cons, List.map_nil, e1, e2, e3, qbs, qch, quc, qha]
 exact Wk.agg ⟨.refl _, .refl _, .refl _, .refl _, .refl _, .refl _, .refl _, .refl _, .refl _, .refl _, .refl _, .refl _, .refl _, .fz, .fz, .fz, .refl _, .refl _, .refl _, .refl _, .refl _, .refl _, .refl _, .refl _, .refl _, .refl _, trivial⟩
end Go.Aw
