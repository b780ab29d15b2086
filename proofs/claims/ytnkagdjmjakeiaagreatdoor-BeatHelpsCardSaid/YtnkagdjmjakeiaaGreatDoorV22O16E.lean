import Derived.Test.YtnkagdjmjakeiaaGreatDoorV22O16D
namespace Go.Aw
open Go
open Go.Proofs.Tryz (prog)
set_option linter.all false
set_option maxHeartbeats 4000000
theorem qpn {R : Y5} (hR : ExtR R) {T : Tab} {xs : List Int} {c1 c2 : Option Nat} (hl : xs.length < 1000000000) : ∀ (ys : List Int) (k : Nat), xs.drop k = ys -> k <= xs.length ->
  (R (.exit 0) [(0, .fz xs.length (q38 xs) c1), (1, .fz xs.length (q38 xs) c2), (12, .i .i64 xs.length), (13, .i .i64 xs.length), (14, .b false)] [] T) ->
  AW prog q0i R [(0, .fz xs.length (q38 xs) c1), (1, .fz xs.length (q38 xs) c2), (12, .i .i64 xs.length), (13, .i .i64 k)] [] T := by
 intro ys
 induction ys with
 | nil =>
  intro k hk hle h2
  have hk' := q18 hk hle
  refine G9 hR ?_
  unfold q05
  simp -implicitDefEqProofs -dsimp only [go_sem, seval, hk', Int.lt_irrefl]
  rw [hk'] at h2
  exact h2
 | cons y ys ih =>
  intro k hk hle h2
  obtain ⟨hlt, hy, hk'⟩ := q1e hk
  refine Q7 (l := q0i) rfl hR ?_
  unfold q05
  simp -implicitDefEqProofs -dsimp only [go_sem, seval, Int.ofNat_lt, hlt, Int.natCast_nonneg, Int.toNat_natCast, qb3, hy, decide_true]
  rw [Q0 (by omega)]
  exact ih (k + 1) hk' hlt h2
theorem qnk {R : Y5} (hR : ExtR R) {T : Tab} {xs : List Bool} {c1 c2 : Option Nat} (hl : xs.length < 1000000000) : ∀ (ys : List Bool) (k : Nat), xs.drop k = ys -> k <= xs.length ->
  (R (.exit 0) [(0, .fz xs.length (G4 xs) c1), (1, .fz xs.length (G4 xs) c2), (12, .i .i64 xs.length), (13, .i .i64 xs.length), (14, .b false)] [] T) ->
  AW prog O4 R [(0, .fz xs.length (G4 xs) c1), (1, .fz xs.length (G4 xs) c2), (12, .i .i64 xs.length), (13, .i .i64 k)] [] T := by
 intro ys
 induction ys with
 | nil =>
  intro k hk hle h2
  have hk' := q18 hk hle
  refine G9 hR ?_
  unfold Q4
  simp -implicitDefEqProofs -dsimp only [go_sem, seval, hk', Int.lt_irrefl]
  rw [hk'] at h2
  exact h2
 | cons y ys ih =>
  intro k hk hle h2
  obtain ⟨hlt, hy, hk'⟩ := q1e hk
  have hbb : (y == y) = true := by cases y <;> rfl
  refine Q7 (l := O4) rfl hR ?_
  unfold Q4
  simp -implicitDefEqProofs -dsimp only [go_sem, seval, Int.ofNat_lt, hlt, Int.natCast_nonneg, Int.toNat_natCast, q3t, hy, decide_true, hbb]
  rw [Q0 (by omega)]
  exact ih (k + 1) hk' hlt h2
theorem qjx (xs : List Int) (c1 c2 : Option Nat) (hl : xs.length < 1000000000) : U4 prog G3 [.fz xs.length (q38 xs) c1, .fz xs.length (q38 xs) c2] (.b true) := by
 refine K9 O2 q6k (by simp) fun T => ?_
 unfold q2z
 simp -implicitDefEqProofs -dsimp only [go_sem, seval, decide_true]
 refine qpn (T := T) (by repeat' (first | exact O6 _ _ | assumption | apply O5 | apply N2 | apply Z8)) hl xs 0 rfl (by omega) ?_
 simp -implicitDefEqProofs -dsimp only [go_sem, seval]
 exact K0 rfl
theorem qnl (xs : List Bool) (c1 c2 : Option Nat) (hl : xs.length < 1000000000) : U4 prog U1 [.fz xs.length (G4 xs) c1, .fz xs.length (G4 xs) c2] (.b true) := by
 refine K9 O2 q2c (by simp) fun T => ?_
 unfold q06
 simp -implicitDefEqProofs -dsimp only [go_sem, seval, decide_true]
 refine qnk (T := T) (by repeat' (first | exact O6 _ _ | assumption | apply O5 | apply N2 | apply Z8)) hl xs 0 rfl (by omega) ?_
 simp -implicitDefEqProofs -dsimp only [go_sem, seval]
 exact K0 rfl
theorem qg9 (c : Cf) (k1 k2 k3 k4 : Option Nat) (h1 : c.ch.length < 1000000000) (h2 : c.fu.length < 1000000000) : U4 prog q34 [.agg (c.cells k1 k2), .agg (c.cells k3 k4)] (.b true) := by
 refine K9 O2 qd4 (by simp) fun T => ?_
 unfold q92
 simp -implicitDefEqProofs -dsimp only [go_sem, seval, Cf.cells, decide_true, ↓U9, q0w, true_and, ↓J1 _ _ q30]
 refine cpn (qjx c.ch k1 k3 h1) ?_
 simp -implicitDefEqProofs -dsimp only [go_sem, seval, decide_true, ↓U9, q0w, true_and, ↓J1 _ _ q2d]
 refine cpn (qnl c.fu k2 k4 h2) ?_
 simp -implicitDefEqProofs -dsimp only [go_sem, seval]
 exact K0 rfl
structure Rf.Ok (w : Rf) : Prop where
 ep : 0 <= w.ep /\ w.ep < 18446744073709551616
 sh : 0 <= w.sh /\ w.sh < 4
 l : w.l.length <= 8
 ms : ∀ m ∈ w.l, 0 <= m.1 /\ m.1 < 8
 ln : w.ln = -1 \/ (0 <= w.ln /\ w.ln < 8)
theorem Cf.Ok.plain {c : Cf} (h : c.Ok) : c.plain.Ok := ⟨h.ep, h.sh, by rw [c.plain_len]; exact h.ch, fun m hm => h.ms _ (by rw [<- c.plain_fst]; exact List.mem_map_of_mem hm), h.ln⟩
end Go.Aw
