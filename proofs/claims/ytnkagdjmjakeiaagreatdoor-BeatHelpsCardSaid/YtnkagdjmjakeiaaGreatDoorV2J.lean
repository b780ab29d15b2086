import Derived.Test.YtnkagdjmjakeiaaGreatDoorV2I
namespace Go.Aw
open Go
open Go.Proofs.Tryz (prog)
set_option linter.all false
set_option maxHeartbeats 8000000
theorem qj4 {R : Y5} (hR : ExtR R) {T : Tab} {xs : List Bool} {p : Nat} (hp : xs[p]? = some false) {c1 c2 : Option Nat} (hl : xs.length < 1000000000) (h2 : R .ret [(4, .b false)] [] T) : ∀ (m k : Nat), k + m = p ->
  AW prog O4 R [(0, .fz xs.length (G4 (xs.set p true)) c1), (1, .fz xs.length (G4 xs) c2), (12, .i .i64 xs.length), (13, .i .i64 k)] [] T := by
 have hpl := (List.getElem?_eq_some_iff.1 hp).1
 intro m
 induction m with
 | zero =>
  intro k hk
  obtain rfl : k = p := by omega
  have hy : (xs.set k true)[k]? = some true := by rw [List.getElem?_set_self hpl]
  refine Q7 (l := O4) rfl hR ?_
  unfold Q4
  simp -implicitDefEqProofs -dsimp only [go_sem, seval, Int.ofNat_lt, hpl, Int.natCast_nonneg, Int.toNat_natCast, q3t, hy, hp, decide_true]
  exact h2
 | succ m ih =>
  intro k hk
  have hlt : k < xs.length := by omega
  obtain ⟨y, hy⟩ : ∃ y, xs[k]? = some y := ⟨_, List.getElem?_eq_getElem hlt⟩
  have hy2 : (xs.set p true)[k]? = some y := by rw [List.getElem?_set_ne (by omega)]; exact hy
  have hbb : (y == y) = true := by cases y <;> rfl
  have hws : IntKind.i64.wrap ((k : Int) + 1) = ((k + 1 : Nat) : Int) := Q0 (by omega)
  refine Q7 (l := O4) rfl hR ?_
  unfold Q4
  simp -implicitDefEqProofs -dsimp only [go_sem, seval, Int.ofNat_lt, hlt, Int.natCast_nonneg, Int.toNat_natCast, q3t, hy, hy2, decide_true, hbb, hws]
  exact ih (k + 1) (by omega)
theorem qj5 {xs : List Bool} {p : Nat} (hp : xs[p]? = some false) (c1 c2 : Option Nat) (hl : xs.length < 1000000000) : U4 prog U1 [.fz xs.length (G4 (xs.set p true)) c1, .fz xs.length (G4 xs) c2] (.b false) := by
 refine K9 O2 q2c (by simp) fun T => ?_
 unfold q06
 simp -implicitDefEqProofs -dsimp only [go_sem, seval, decide_true]
 refine qj4 (T := T) (by repeat' (first | exact O6 _ _ | assumption | apply O5 | apply N2 | apply Z8)) hp hl ?_ p 0 (by omega)
 simp -implicitDefEqProofs -dsimp only [go_sem, seval]
 exact K0 rfl
theorem qgc (c : Cf) {p : Nat} (hp : c.fu[p]? = some false) (h1 : c.ch.length < 1000000000) (h2 : c.fu.length < 1000000000) :
  U4 prog q34 [.agg (Cf.cells ⟨c.ep, c.sh, c.ch, c.fu.set p true, c.ln⟩ none none), .agg (c.cells none none)] (.b false) := by
 refine K9 O2 qd4 (by simp) fun T => ?_
 unfold q92
 simp -implicitDefEqProofs -dsimp only [go_sem, seval, Cf.cells, List.length_set, decide_true, ↓U9, q0w, true_and, ↓J1 _ _ q30]
 refine cpn (qjx c.ch none none h1) ?_
 simp -implicitDefEqProofs -dsimp only [go_sem, seval, decide_true, ↓U9, q0w, true_and, ↓J1 _ _ q2d]
 refine cpn (qj5 hp none none h2) ?_
 simp -implicitDefEqProofs -dsimp only [go_sem, seval]
 exact K0 rfl
theorem qpv {R : Y5} (hR : ExtR R) {T : Tab} {i1 i2 : Nat} {cs : List Cf} {fv : AV} (hfv : fv = .fn (.func q34) [] []) {k : Nat} {c : Cf} {p : Nat} (hc : cs[k]? = some c) (hp : c.fu[p]? = some false)
  (h1 : T i1 = .row 5 (q3f (cs.set k ⟨c.ep, c.sh, c.ch, c.fu.set p true, c.ln⟩))) (h2' : T i2 = .row 5 (q3f cs)) (hl : Len cs.length) (hs : ∀ c ∈ cs, c.ch.length < 1000000000 /\ c.fu.length < 1000000000)
  (h2 : R .ret [(6, .b false)] [] T) : ∀ (m j : Nat), j + m = k ->
  AW prog K4 R [(1, .sl i2 0 cs.length none), (2, fv), (15, .sl i1 0 cs.length none), (16, .i .i64 cs.length), (17, .i .i64 j)] [] T := by
 subst hfv
 unfold Len at hl
 have hkl := (List.getElem?_eq_some_iff.1 hc).1
 intro m
 induction m with
 | zero =>
  intro j hj
  obtain rfl : j = k := by omega
  have hy1 : (cs.set j (⟨c.ep, c.sh, c.ch, c.fu.set p true, c.ln⟩ : Cf))[j]? = some ⟨c.ep, c.sh, c.ch, c.fu.set p true, c.ln⟩ := by rw [List.getElem?_set_self hkl]
  have hcell1 := q7j hy1
  have hcell2 := q7j hc
  have hlen1 : j * 5 + 5 <= (q3f (cs.set j (⟨c.ep, c.sh, c.ch, c.fu.set p true, c.ln⟩ : Cf))).length := by rw [I2, List.length_set]; omega
  have hlen2 : j * 5 + 5 <= (q3f cs).length := by rw [I2]; omega
  have hsy := hs c (List.mem_of_getElem? hc)
  have cS := qgc c hp hsy.1 hsy.2
  simp only [Cf.cells] at cS
  refine Q7 (l := K4) rfl hR ?_
  unfold K8
  simp -implicitDefEqProofs -dsimp only [go_sem, seval, Int.ofNat_lt, hkl, Int.natCast_nonneg, Int.toNat_natCast, h1, h2', hlen1, hlen2, hcell1, hcell2, Cf.cells, List.cons_append, List.nil_append, q6y _ _ _ _ _ _ qd5]
  refine cpn cS ?_
  simp -implicitDefEqProofs -dsimp only [go_sem, seval, Bool.not_false]
  exact h2
 | succ m ih =>
  intro j hj
  have hlt : j < cs.length := by omega
  obtain ⟨y, hy⟩ : ∃ y, cs[j]? = some y := ⟨_, List.getElem?_eq_getElem hlt⟩
  have hws : IntKind.i64.wrap ((j : Int) + 1) = ((j + 1 : Nat) : Int) := Q0 (by omega)
  have hy1 : (cs.set k (⟨c.ep, c.sh, c.ch, c.fu.set p true, c.ln⟩ : Cf))[j]? = some y := by rw [List.getElem?_set_ne (by omega)]; exact hy
  have hcell1 := q7j hy1
  have hcell2 := q7j hy
  have hlen1 : j * 5 + 5 <= (q3f (cs.set k (⟨c.ep, c.sh, c.ch, c.fu.set p true, c.ln⟩ : Cf))).length := by rw [I2, List.length_set]; omega
  have hlen2 : j * 5 + 5 <= (q3f cs).length := by rw [I2]; omega
  have hsy := hs y (List.mem_of_getElem? hy)
  have cS := qg9 y none none none none hsy.1 hsy.2
  simp only [Cf.cells] at cS
  refine Q7 (l := K4) rfl hR ?_
  unfold K8
  simp -implicitDefEqProofs -dsimp only [go_sem, seval, Int.ofNat_lt, hlt, Int.natCast_nonneg, Int.toNat_natCast, h1, h2', hlen1, hlen2, hcell1, hcell2, Cf.cells, List.cons_append, List.nil_append, q6y _ _ _ _ _ _ qd5]
  refine cpn cS ?_
  simp -implicitDefEqProofs -dsimp only [go_sem, seval, Bool.not_true, hws]
  exact ih (j + 1) (by omega)
theorem qj6 {T : Tab} {a ia b ib : Nat} {o o' : Os} (ha : St T a ia o) (hb : St T b ib o') (hs : o.s = o'.s /\ o.l = o'.l /\ o.v = o'.v) (hn : o.n = o'.n) (hct : ¬ o.ct = o'.ct) :
  ACalls prog q28 [.ptr a 0, .ptr b 0] T (fun r T' => r = .b false /\ T' = T) := by
 obtain ⟨t1, _⟩ := ha
 obtain ⟨t2, _⟩ := hb
 rw [Os.row] at t1 t2
 rw [<- hs.1, <- hs.2.1, <- hs.2.2, <- hn] at t2
 have d : decide (o.ct = o'.ct) = false := decide_eq_false hct
 refine K6 O2 qbq (by simp) ?_
 unfold q72
 simp -implicitDefEqProofs -dsimp only [go_sem, seval, t1, t2, qhq, q2h, q3s, d, decide_true, eq_self, Bool.and_self, ↓U9, q0w, true_and]
 exact Q3 (.refl _) rfl
theorem qgd {T : Tab} {a ia b ib : Nat} {o o' : Os} (ha : St T a ia o) (hb : St T b ib o') (hs : o.s = o'.s /\ o.l = o'.l /\ o.v = o'.v) (hn : o.n = o'.n) (hct : o.ct = o'.ct) {k : Nat} {c : Cf} {p : Nat} (hc : o'.cs[k]? = some c) (hp : c.fu[p]? = some false)
  (hcs : o.cs = o'.cs.set k ⟨c.ep, c.sh, c.ch, c.fu.set p true, c.ln⟩) (hl : Len o'.cs.length) (hsm : ∀ c ∈ o'.cs, c.ch.length < 1000000000 /\ c.fu.length < 1000000000) :
  ACalls prog q28 [.ptr a 0, .ptr b 0] T (fun r T' => r = .b false /\ T' = T) := by
 obtain ⟨t1, u1⟩ := ha
 obtain ⟨t2, u2⟩ := hb
 rw [Os.row] at t1 t2
 rw [<- hs.1, <- hs.2.1, <- hs.2.2, <- hn, <- hct] at t2
 rw [hcs, List.length_set] at t1
 rw [hcs] at u1
 have cE : ACalls prog K5 [.sl ia 0 o'.cs.length none, .sl ib 0 o'.cs.length none, .fn (.func q34) [] []] T (fun r T' => r = .b false /\ T' = T) := by
  refine K6 O2 V9 (by simp) ?_
  unfold O1
  simp -implicitDefEqProofs -dsimp only [go_sem, seval, decide_true, eq_self, Bool.not_true]
  refine qpv (T := T) (by repeat' (first | exact O6 _ _ | assumption | apply O5 | apply N2 | apply Z8)) rfl hc hp u1 u2 hl hsm ?_ k 0 (by omega)
  simp -implicitDefEqProofs -dsimp only [go_sem, seval]
  exact Q3 (.refl _) rfl
 refine K6 O2 qbq (by simp) ?_
 unfold q72
 simp -implicitDefEqProofs -dsimp only [go_sem, seval, t1, t2, qhq, q2h, q3s, decide_true, eq_self, Bool.and_self, ↓U9, q0w, true_and, ↓J1 _ _ Y0]
 refine can cE ?_
 simp -implicitDefEqProofs -dsimp only [go_sem, seval]
 exact Q3 (.refl _) rfl
end Go.Aw
