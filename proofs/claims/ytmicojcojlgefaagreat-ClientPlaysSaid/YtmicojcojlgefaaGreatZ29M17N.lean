import Derived.Test.YtmicojcojlgefaaGreatZ29M17M
namespace Go.Aw
open Go
open Go.Proofs.Tryz (prog)
set_option linter.all false
set_option maxHeartbeats 8000000
set_option maxRecDepth 8000
def CfS (c : Cf) : Prop := c.ch.length < 1000000000
theorem z1d {R : Y5} (hR : ExtR R) {T : Tab} {lc zc : List AV} {o : Lt Cf} {y w : AV} {rest : List Ow} {xs : List Vt} (hl : xs.length < 1000000) (hx : ∀ x ∈ xs, VtT x) : ∀ (us : List Vt) (k : Nat), xs.drop k = us -> k <= xs.length -> ∀ (v : AV) (T1 : Tab),
  Owns T (⟨4, v, ((xs.take k).map id).length, ((xs.take k).map id).flatMap vtC⟩ :: rest) T1 ->
  (∀ v T1, Owns T (⟨4, v, (xs.map id).length, (xs.map id).flatMap vtC⟩ :: rest) T1 -> R (.exit 0) [(1, .lp 1 0), (2, .lp 2 0), (3, .lp 3 0), (58, .fz xs.length (xs.flatMap vtC) none), (59, .i .i64 xs.length), (60, .i .i64 xs.length), (61, .b false)] [(1, lc), (2, zc), (3, lz o v y w)] T1) ->
  AW prog q70 R [(1, .lp 1 0), (2, .lp 2 0), (3, .lp 3 0), (58, .fz xs.length (xs.flatMap vtC) none), (59, .i .i64 xs.length), (60, .i .i64 k)] [(1, lc), (2, zc), (3, lz o v y w)] T1 := by
 intro us
 induction us with
 | nil =>
  intro k hk hle v T1 ho h2
  have hk' := O9 hk hle
  refine Q2 hR ?_
  unfold q5z
  simp -implicitDefEqProofs -dsimp only [go_sem, seval, hk', Int.lt_irrefl]
  rw [List.take_of_length_le (by omega : xs.length <= k)] at ho
  have := h2 _ _ ho
  rw [hk'] at this
  exact this
 | cons u us ih =>
  intro k hk hle v T1 ho h2
  obtain ⟨hlt, hu, hk'⟩ := Q5 hk
  obtain ⟨p1, p2, p3, p4, p5, p6⟩ := ho.form (List.mem_cons_self ..)
  simp only at p1 p2 p3 p4 p5 p6
  have cl : ∀ c : Vt, (vtC c).length = 4 := fun _ => rfl
  have ea := V0 cl hu
  have e5 : k * 4 + 4 <= (xs.flatMap vtC).length := by rw [K8 cl]; omega
  unfold Len at *
  have hs : IntKind.i64.wrap ((k : Int) + 1) = ((k + 1 : Nat) : Int) := K9 (by omega)
  have hok := hx u (List.mem_of_getElem? hu)
  refine O2 (l := q70) rfl hR ?_
  unfold q5z
  have ht' : xs.take (k + 1) = xs.take k ++ [u] := Z9 hu
  simp -implicitDefEqProofs -dsimp only [go_sem, seval, Int.ofNat_lt, hlt, Int.natCast_nonneg, Int.toNat_natCast, ea, e5, vtC, List.cons_append, List.nil_append, p1, p2, p3, p4, p5, p6]
  refine ho.app (m := 1) (news := vtC u) rfl rfl (by simp; omega) (by simp; omega) fun v2 T2 ho => J1 ?_
  obtain ⟨q1, q2, q3, q4, q5, q6⟩ := ho.form (List.mem_cons_self ..)
  simp only at q1 q2 q3 q4 q5 q6
  simp -implicitDefEqProofs -dsimp only [go_sem, seval, q1, q2, q3, q4, q5, q6, hs]
  refine ih (k + 1) hk' hlt _ _ ?_ h2
  rw [ht', List.map_append, List.flatMap_append, List.length_append]
  simpa only [List.map_cons, List.map_nil, List.flatMap_cons, List.flatMap_nil, List.append_nil, List.length_cons, List.length_nil, id_eq, Nat.zero_add] using ho
theorem z1e {R : Y5} (hR : ExtR R) {T : Tab} {lc zc : List AV} {o : Lt Cf} {x w : AV} {rest : List Ow} {xs : List Cf} (hl : xs.length < 1000000) (hx : ∀ x ∈ xs, CfS x) : ∀ (us : List Cf) (k : Nat), xs.drop k = us -> k <= xs.length -> ∀ (v : AV) (T1 : Tab),
  Owns T (⟨4, v, ((xs.take k).map Cf.plain).length, ((xs.take k).map Cf.plain).flatMap rfL⟩ :: rest) T1 ->
  (∀ v T1, Owns T (⟨4, v, (xs.map Cf.plain).length, (xs.map Cf.plain).flatMap rfL⟩ :: rest) T1 -> R (.exit 2) [(1, .lp 1 0), (2, .lp 2 0), (3, .lp 3 0), (83, .fz xs.length (xs.flatMap cfC) none), (84, .i .i64 xs.length), (85, .i .i64 xs.length), (86, .b false)] [(1, lc), (2, zc), (3, lz o x v w)] T1) ->
  AW prog q71 R [(1, .lp 1 0), (2, .lp 2 0), (3, .lp 3 0), (83, .fz xs.length (xs.flatMap cfC) none), (84, .i .i64 xs.length), (85, .i .i64 k)] [(1, lc), (2, zc), (3, lz o x v w)] T1 := by
 intro us
 induction us with
 | nil =>
  intro k hk hle v T1 ho h2
  have hk' := O9 hk hle
  refine Q2 hR ?_
  unfold q60
  simp -implicitDefEqProofs -dsimp only [go_sem, seval, hk', Int.lt_irrefl]
  rw [List.take_of_length_le (by omega : xs.length <= k)] at ho
  have := h2 _ _ ho
  rw [hk'] at this
  exact this
 | cons u us ih =>
  intro k hk hle v T1 ho h2
  obtain ⟨hlt, hu, hk'⟩ := Q5 hk
  obtain ⟨p1, p2, p3, p4, p5, p6⟩ := ho.form (List.mem_cons_self ..)
  simp only at p1 p2 p3 p4 p5 p6
  have cl : ∀ c : Cf, (cfC c).length = 5 := fun _ => rfl
  have ea := V0 cl hu
  have e5 : k * 5 + 5 <= (xs.flatMap cfC).length := by rw [K8 cl]; omega
  unfold Len at *
  have hs : IntKind.i64.wrap ((k : Int) + 1) = ((k + 1 : Nat) : Int) := K9 (by omega)
  have hok := hx u (List.mem_of_getElem? hu)
  have pc := z30 u none none hok
  simp only [cfC, Cf.cells, rfL, Rf.cells] at pc
  refine O2 (l := q71) rfl hR ?_
  unfold q60
  have ht' : xs.take (k + 1) = xs.take k ++ [u] := Z9 hu
  simp -implicitDefEqProofs -dsimp only [go_sem, seval, Int.ofNat_lt, hlt, Int.natCast_nonneg, Int.toNat_natCast, ea, e5, cfC, Cf.cells, rfL, Rf.cells, List.cons_append, List.nil_append, p1, p2, p3, p4, p5, p6, ↓J0 _ _ qj0]
  refine cpn pc ?_
  simp -implicitDefEqProofs -dsimp only [go_sem, seval, p1, p2, p3, p4, p5, p6]
  refine ho.app (m := 1) (news := rfL (Cf.plain u)) rfl rfl (by simp; omega) (by simp; omega) fun v2 T2 ho => J1 ?_
  obtain ⟨q1, q2, q3, q4, q5, q6⟩ := ho.form (List.mem_cons_self ..)
  simp only at q1 q2 q3 q4 q5 q6
  simp -implicitDefEqProofs -dsimp only [go_sem, seval, q1, q2, q3, q4, q5, q6, hs]
  refine ih (k + 1) hk' hlt _ _ ?_ h2
  rw [ht', List.map_append, List.flatMap_append, List.length_append]
  simpa only [List.map_cons, List.map_nil, List.flatMap_cons, List.flatMap_nil, List.append_nil, List.length_cons, List.length_nil, id_eq, Nat.zero_add] using ho
theorem z1f {R : Y5} (hR : ExtR R) {T : Tab} {lc zc : List AV} {o : Lt Cf} {x y : AV} {rest : List Ow} {xs : List En} (hl : xs.length < 1000000) (hx : ∀ x ∈ xs, EnF x) : ∀ (us : List En) (k : Nat), xs.drop k = us -> k <= xs.length -> ∀ (v : AV) (T1 : Tab),
  Owns T (⟨10, v, ((xs.take k).map id).length, ((xs.take k).map id).flatMap enC⟩ :: rest) T1 ->
  (∀ v T1, Owns T (⟨10, v, (xs.map id).length, (xs.map id).flatMap enC⟩ :: rest) T1 -> R (.exit 4) [(2, .lp 2 0), (3, .lp 3 0), (98, .fz xs.length (xs.flatMap enC) none), (99, .i .i64 xs.length), (100, .i .i64 xs.length), (101, .b false)] [(2, zc), (3, lz o x y v)] T1) ->
  AW prog q72 R [(2, .lp 2 0), (3, .lp 3 0), (98, .fz xs.length (xs.flatMap enC) none), (99, .i .i64 xs.length), (100, .i .i64 k)] [(2, zc), (3, lz o x y v)] T1 := by
 intro us
 induction us with
 | nil =>
  intro k hk hle v T1 ho h2
  have hk' := O9 hk hle
  refine Q2 hR ?_
  unfold q61
  simp -implicitDefEqProofs -dsimp only [go_sem, seval, hk', Int.lt_irrefl]
  rw [List.take_of_length_le (by omega : xs.length <= k)] at ho
  have := h2 _ _ ho
  rw [hk'] at this
  exact this
 | cons u us ih =>
  intro k hk hle v T1 ho h2
  obtain ⟨hlt, hu, hk'⟩ := Q5 hk
  obtain ⟨p1, p2, p3, p4, p5, p6⟩ := ho.form (List.mem_cons_self ..)
  simp only at p1 p2 p3 p4 p5 p6
  have cl : ∀ c : En, (enC c).length = 10 := fun _ => rfl
  have ea := V0 cl hu
  have e5 : k * 10 + 10 <= (xs.flatMap enC).length := by rw [K8 cl]; omega
  unfold Len at *
  have hs : IntKind.i64.wrap ((k : Int) + 1) = ((k + 1 : Nat) : Int) := K9 (by omega)
  have hok := hx u (List.mem_of_getElem? hu)
  have pc := qyd u none none hok
  simp only [enC, En.cells] at pc
  refine O2 (l := q72) rfl hR ?_
  unfold q61
  have ht' : xs.take (k + 1) = xs.take k ++ [u] := Z9 hu
  simp -implicitDefEqProofs -dsimp only [go_sem, seval, Int.ofNat_lt, hlt, Int.natCast_nonneg, Int.toNat_natCast, ea, e5, enC, En.cells, List.cons_append, List.nil_append, p1, p2, p3, p4, p5, p6, ↓J0 _ _ qj3]
  refine cpn pc ?_
  simp -implicitDefEqProofs -dsimp only [go_sem, seval, p1, p2, p3, p4, p5, p6]
  refine ho.app (m := 1) (news := enC u) rfl rfl (by simp; omega) (by simp; omega) fun v2 T2 ho => J1 ?_
  obtain ⟨q1, q2, q3, q4, q5, q6⟩ := ho.form (List.mem_cons_self ..)
  simp only at q1 q2 q3 q4 q5 q6
  simp -implicitDefEqProofs -dsimp only [go_sem, seval, q1, q2, q3, q4, q5, q6, hs]
  refine ih (k + 1) hk' hlt _ _ ?_ h2
  rw [ht', List.map_append, List.flatMap_append, List.length_append]
  simpa only [List.map_cons, List.map_nil, List.flatMap_cons, List.flatMap_nil, List.append_nil, List.length_cons, List.length_nil, id_eq, Nat.zero_add] using ho
theorem qus (l : Lt Cf) (h : l.Fine) : PCalls prog q1c [.agg (l.cells cfC)] (.agg (l.plain.cells rfL)) := by
 refine K5 Q7 qiv (by simp) fun T => ?_
 have htx := qln l.t none none h.t
 obtain ⟨zc, hz⟩ : ∃ z : List AV, z = [.i .i64 0, .i .i64 0, .i .i64 0, .i .i64 0, .i .i64 0, .i .i64 0, .i .u64 0, .i .i64 0, .i .i64 0, .i .i64 0, .b false, .i .u64 0, .i .i64 0, .fz 0 [] (some 0), .fz 0 [] (some 0), .fz 0 [] (some 0), .i .i64 0, .i .u64 0, .b false, .fz 0 [] (some 0), .fz 0 [] (some 0), .i .i64 0, .i .u64 0, .s [], .i .u64 0, .i .i64 0] := ⟨_, rfl⟩
 have hzl : zc.length = 26 := by rw [hz]; rfl
 have hz26 : zc.drop 26 = [] := by rw [hz]; rfl
 unfold qbi
 refine q88 True [(1, .lp 1 0), (2, .lp 2 0)] [(1, l.cells cfC), (2, zc)] T (fun K hK => by rw [hz] at hK; simp -implicitDefEqProofs -dsimp only [go_sem, seval]; exact hK trivial) fun _ => ?_
 refine q88 True [(1, .lp 1 0), (2, .lp 2 0), (3, .lp 3 0)] [(1, l.cells cfC), (2, zc), (3, lz ({ l with t := l.t } : Lt Cf) (.fz 0 [] (some 0)) (.fz 0 [] (some 0)) (.fz 0 [] (some 0)))] T (fun K hK => ?_) fun _ => ?_
 ·simp -implicitDefEqProofs -dsimp only [go_sem, seval, q5w, ↓J0 _ _ q5e]
  refine cpn htx ?_
  simp -implicitDefEqProofs -dsimp only [go_sem, seval, Tx.cells]
  exact hK trivial
 simp -implicitDefEqProofs -dsimp only [go_sem, seval, q5w]
 refine z1d (T := T) (lc := l.cells cfC) (zc := zc) (o := ({ l with t := l.t } : Lt Cf)) (rest := []) (by repeat' (first | exact N5 _ _ | assumption | apply N4 | apply K7 | apply U1)) (by have := h.vs; omega) (fun _ _ => trivial) l.vs 0 rfl (Nat.zero_le _) (.fz 0 [] (some 0)) T ⟨T, rfl, .nil T 4⟩ (fun v1 T1 ho1 => ?_)
 simp -implicitDefEqProofs -dsimp only [go_sem, seval, q5w]
 refine z1e (T := T) (lc := l.cells cfC) (zc := zc) (o := ({ l with t := l.t } : Lt Cf)) (by repeat' (first | exact N5 _ _ | assumption | apply N4 | apply K7 | apply U1)) (by have := h.cs; omega) (fun c hc => by have := (h.cl c hc).1; show c.ch.length < 1000000000; omega) l.cs 0 rfl (Nat.zero_le _) (.fz 0 [] (some 0)) T1 ⟨T1, ho1, .nil T1 4⟩ (fun v2 T2 ho2 => ?_)
 simp -implicitDefEqProofs -dsimp only [go_sem, seval, q5w]
 refine z1f (T := T) (lc := []) (zc := zc) (o := ({ l with t := l.t } : Lt Cf)) (by repeat' (first | exact N5 _ _ | assumption | apply N4 | apply K7 | apply U1)) (by have := h.es; omega) h.et l.es 0 rfl (Nat.zero_le _) (.fz 0 [] (some 0)) T2 ⟨T2, ho2, .nil T2 10⟩ (fun v3 T3 ho3 => ?_)
 simp -implicitDefEqProofs -dsimp only [go_sem, seval, q5w, hzl, hz26]
 refine q4i ho3 fun S hS => ?_
 obtain ⟨c3, e3⟩ := hS _ (List.mem_cons_self ..)
 obtain ⟨c2, e2⟩ := hS _ (List.mem_cons_of_mem _ (List.mem_cons_self ..))
 obtain ⟨c1, e1⟩ := hS _ (List.mem_cons_of_mem _ (List.mem_cons_of_mem _ (List.mem_cons_self ..)))
 simp only [List.map_id] at e1 e2 e3
 simp only [lz, qrh, qns, List.map_cons, List.map_nil, e1, e2, e3, qo1, qwv, z4o, z07]
 exact Wk.agg ⟨.refl _, .refl _, .refl _, .refl _, .refl _, .refl _, .refl _, .refl _, .refl _, .refl _, .refl _, .refl _, .refl _, .fz, .fz, .fz, .refl _, .refl _, .refl _, .refl _, .refl _, .refl _, .refl _, .refl _, .refl _, .refl _, trivial⟩
end Go.Aw
