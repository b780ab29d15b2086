import Derived.Test.YtchdmofoaokpjaaGreatDoorM30N17M17B
namespace Go.Aw
open Go
open Go.Proofs.Tryz (prog)
set_option linter.all false
set_option maxHeartbeats 4000000
def eqL {α : Type} (e : α -> α -> Bool) : List α -> List α -> Bool
 | [], [] => true
 | x :: xs, y :: ys => e x y && eqL e xs ys
 | _, _ => false
theorem qio {α : Type} (e : α -> α -> Bool) : ∀ {xs ys : List α}, xs.length ≠ ys.length -> eqL e xs ys = false
 | [], [], h => (h rfl).elim
 | [], _ :: _, _ => rfl
 | _ :: _, [], _ => rfl
 | x :: xs, y :: ys, h => by
  simp only [eqL]
  rw [qio e (fun k => h (by simp [k])), Bool.and_false]
theorem q9m {α : Type} {e : α -> α -> Bool} (h : ∀ x, e x x = true) : ∀ xs : List α, eqL e xs xs = true
 | [] => rfl
 | x :: xs => by simp only [eqL, h x, q9m h xs, Bool.true_and]
def vtE (x y : Vt) : Bool := decide (x.sl = y.sl) && decide (x.rd = y.rd) && decide (x.nd = y.nd) && decide (x.v = y.v)
def rdE (x y : Rd) : Bool := decide (x.k = y.k) && decide (x.n = y.n)
def wtE (x y : Wt) : Bool := decide (x.k = y.k) && decide (x.v = y.v) && decide (x.g = y.g)
def qyx (x y : Int) : Bool := decide (x = y)
def qlb (x y : Bool) : Bool := decide (x = y)
def qyy (x : Int) : List AV := [.i .i64 x]
def qlc (x : Bool) : List AV := [.b x]
theorem qhi {R : G9} (hR : ExtR R) {T : Tab} {xs ys : List Vt} {c1 c2 : Option Nat} (hl : Len xs.length) (hlen : xs.length = ys.length) : ∀ (us vs : List Vt) (k : Nat), xs.drop k = us -> ys.drop k = vs -> k <= xs.length ->
  (eqL vtE us vs = false -> R .ret [(4, .b false)] [] T) ->
  (eqL vtE us vs = true -> R (.exit 0) [(0, .fz xs.length (xs.flatMap vtC) c1), (1, .fz ys.length (ys.flatMap vtC) c2), (12, .i .i64 xs.length), (13, .i .i64 xs.length), (14, .b false)] [] T) ->
  AW prog q00 R [(0, .fz xs.length (xs.flatMap vtC) c1), (1, .fz ys.length (ys.flatMap vtC) c2), (12, .i .i64 xs.length), (13, .i .i64 k)] [] T := by
 intro us
 induction us with
 | nil =>
  intro vs k hk hv hle h1 h2
  have hk' := V6 hk hle
  have hvs : vs = [] := by rw [<- hv]; exact List.drop_eq_nil_iff.2 (by omega)
  subst hvs
  refine V1 hR ?_
  unfold I6
  simp -implicitDefEqProofs -dsimp only [go_sem, seval, hk', Int.lt_irrefl]
  rw [hk'] at h2
  exact h2 rfl
 | cons x us ih =>
  intro vs k hk hv hle h1 h2
  obtain ⟨hlt, hx, hk'⟩ := Y6 hk
  obtain ⟨y, vs, rfl⟩ : ∃ y w, vs = y :: w := by
   cases vs with
   | nil => have := List.drop_eq_nil_iff.1 hv; omega
   | cons y w => exact ⟨y, w, rfl⟩
  obtain ⟨hlt2, hy, hv'⟩ := Y6 hv
  have cl : ∀ c : Vt, (vtC c).length = 4 := fun _ => rfl
  have ea := q08 cl hx
  have eb := q08 cl hy
  have e5 : k * 4 + 4 <= (xs.flatMap vtC).length := by rw [Q5 cl]; omega
  have e6 : k * 4 + 4 <= (ys.flatMap vtC).length := by rw [Q5 cl]; omega
  unfold Len at hl
  have hs : IntKind.i64.wrap ((k : Int) + 1) = ((k + 1 : Nat) : Int) := O8 (by omega)
  simp only [eqL] at h1 h2
  refine Q1 (l := q00) rfl hR ?_
  unfold I6
  simp -implicitDefEqProofs -dsimp only [go_sem, seval, Int.ofNat_lt, hlt, hlt2, Int.natCast_nonneg, Int.toNat_natCast, ea, eb, e5, e6, vtC, List.cons_append, List.nil_append, q05, U0]
  refine K0 (fun h => ?_) (fun h => ?_)
  ·have he : vtE x y = false := by simp [vtE] at h ⊢; grind
   simp -implicitDefEqProofs -dsimp only [go_sem, seval]
   exact h1 (by rw [he]; rfl)
  ·have he : vtE x y = true := by simp [vtE] at h ⊢; grind
   rw [he, Bool.true_and] at h1 h2
   simp -implicitDefEqProofs -dsimp only [go_sem, seval, hs]
   exact ih vs (k + 1) hk' hv' hlt h1 h2
theorem O3 (xs ys : List Vt) (c1 c2 : Option Nat) (hl : Len xs.length) : PCalls prog Y8 [.fz xs.length (xs.flatMap vtC) c1, .fz ys.length (ys.flatMap vtC) c2] (.b (eqL vtE xs ys)) := by
 refine K6 U1 q50 (by simp) fun T => ?_
 unfold q1g
 simp -implicitDefEqProofs -dsimp only [go_sem, seval]
 refine K0 (fun h => ?_) (fun h => ?_)
 ·have hne : xs.length ≠ ys.length := by simp at h; omega
  simp -implicitDefEqProofs -dsimp only [go_sem, seval]
  refine J9 ?_
  rw [qio _ hne]
 ·have heq : xs.length = ys.length := by simp at h; omega
  simp -implicitDefEqProofs -dsimp only [go_sem, seval]
  refine qhi (by repeat' (first | exact O6 _ _ | assumption | apply O5 | apply N4 | apply V8)) hl heq xs ys 0 rfl rfl (Nat.zero_le _) (fun h => ?_) (fun h => ?_) <;> simp -implicitDefEqProofs -dsimp only [go_sem, seval] <;> refine J9 ?_ <;> rw [h]
theorem qjc {R : G9} (hR : ExtR R) {T : Tab} {xs ys : List Rd} {c1 c2 : Option Nat} (hl : Len xs.length) (hlen : xs.length = ys.length) : ∀ (us vs : List Rd) (k : Nat), xs.drop k = us -> ys.drop k = vs -> k <= xs.length ->
  (eqL rdE us vs = false -> R .ret [(4, .b false)] [] T) ->
  (eqL rdE us vs = true -> R (.exit 0) [(0, .fz xs.length (xs.flatMap rdC) c1), (1, .fz ys.length (ys.flatMap rdC) c2), (12, .i .i64 xs.length), (13, .i .i64 xs.length), (14, .b false)] [] T) ->
  AW prog q09 R [(0, .fz xs.length (xs.flatMap rdC) c1), (1, .fz ys.length (ys.flatMap rdC) c2), (12, .i .i64 xs.length), (13, .i .i64 k)] [] T := by
 intro us
 induction us with
 | nil =>
  intro vs k hk hv hle h1 h2
  have hk' := V6 hk hle
  have hvs : vs = [] := by rw [<- hv]; exact List.drop_eq_nil_iff.2 (by omega)
  subst hvs
  refine V1 hR ?_
  unfold q04
  simp -implicitDefEqProofs -dsimp only [go_sem, seval, hk', Int.lt_irrefl]
  rw [hk'] at h2
  exact h2 rfl
 | cons x us ih =>
  intro vs k hk hv hle h1 h2
  obtain ⟨hlt, hx, hk'⟩ := Y6 hk
  obtain ⟨y, vs, rfl⟩ : ∃ y w, vs = y :: w := by
   cases vs with
   | nil => have := List.drop_eq_nil_iff.1 hv; omega
   | cons y w => exact ⟨y, w, rfl⟩
  obtain ⟨hlt2, hy, hv'⟩ := Y6 hv
  have cl : ∀ c : Rd, (rdC c).length = 2 := fun _ => rfl
  have ea := q08 cl hx
  have eb := q08 cl hy
  have e5 : k * 2 + 2 <= (xs.flatMap rdC).length := by rw [Q5 cl]; omega
  have e6 : k * 2 + 2 <= (ys.flatMap rdC).length := by rw [Q5 cl]; omega
  unfold Len at hl
  have hs : IntKind.i64.wrap ((k : Int) + 1) = ((k + 1 : Nat) : Int) := O8 (by omega)
  simp only [eqL] at h1 h2
  refine Q1 (l := q09) rfl hR ?_
  unfold q04
  simp -implicitDefEqProofs -dsimp only [go_sem, seval, Int.ofNat_lt, hlt, hlt2, Int.natCast_nonneg, Int.toNat_natCast, ea, eb, e5, e6, rdC, List.cons_append, List.nil_append, q05, U0]
  refine K0 (fun h => ?_) (fun h => ?_)
  ·have he : rdE x y = false := by simp [rdE] at h ⊢; grind
   simp -implicitDefEqProofs -dsimp only [go_sem, seval]
   exact h1 (by rw [he]; rfl)
  ·have he : rdE x y = true := by simp [rdE] at h ⊢; grind
   rw [he, Bool.true_and] at h1 h2
   simp -implicitDefEqProofs -dsimp only [go_sem, seval, hs]
   exact ih vs (k + 1) hk' hv' hlt h1 h2
theorem I0 (xs ys : List Rd) (c1 c2 : Option Nat) (hl : Len xs.length) : PCalls prog Z8 [.fz xs.length (xs.flatMap rdC) c1, .fz ys.length (ys.flatMap rdC) c2] (.b (eqL rdE xs ys)) := by
 refine K6 U1 q5o (by simp) fun T => ?_
 unfold q1w
 simp -implicitDefEqProofs -dsimp only [go_sem, seval]
 refine K0 (fun h => ?_) (fun h => ?_)
 ·have hne : xs.length ≠ ys.length := by simp at h; omega
  simp -implicitDefEqProofs -dsimp only [go_sem, seval]
  refine J9 ?_
  rw [qio _ hne]
 ·have heq : xs.length = ys.length := by simp at h; omega
  simp -implicitDefEqProofs -dsimp only [go_sem, seval]
  refine qjc (by repeat' (first | exact O6 _ _ | assumption | apply O5 | apply N4 | apply V8)) hl heq xs ys 0 rfl rfl (Nat.zero_le _) (fun h => ?_) (fun h => ?_) <;> simp -implicitDefEqProofs -dsimp only [go_sem, seval] <;> refine J9 ?_ <;> rw [h]
theorem qhj {R : G9} (hR : ExtR R) {T : Tab} {xs ys : List Wt} {c1 c2 : Option Nat} (hl : Len xs.length) (hlen : xs.length = ys.length) : ∀ (us vs : List Wt) (k : Nat), xs.drop k = us -> ys.drop k = vs -> k <= xs.length ->
  (eqL wtE us vs = false -> R .ret [(4, .b false)] [] T) ->
  (eqL wtE us vs = true -> R (.exit 0) [(0, .fz xs.length (xs.flatMap wtC) c1), (1, .fz ys.length (ys.flatMap wtC) c2), (12, .i .i64 xs.length), (13, .i .i64 xs.length), (14, .b false)] [] T) ->
  AW prog q01 R [(0, .fz xs.length (xs.flatMap wtC) c1), (1, .fz ys.length (ys.flatMap wtC) c2), (12, .i .i64 xs.length), (13, .i .i64 k)] [] T := by
 intro us
 induction us with
 | nil =>
  intro vs k hk hv hle h1 h2
  have hk' := V6 hk hle
  have hvs : vs = [] := by rw [<- hv]; exact List.drop_eq_nil_iff.2 (by omega)
  subst hvs
  refine V1 hR ?_
  unfold I7
  simp -implicitDefEqProofs -dsimp only [go_sem, seval, hk', Int.lt_irrefl]
  rw [hk'] at h2
  exact h2 rfl
 | cons x us ih =>
  intro vs k hk hv hle h1 h2
  obtain ⟨hlt, hx, hk'⟩ := Y6 hk
  obtain ⟨y, vs, rfl⟩ : ∃ y w, vs = y :: w := by
   cases vs with
   | nil => have := List.drop_eq_nil_iff.1 hv; omega
   | cons y w => exact ⟨y, w, rfl⟩
  obtain ⟨hlt2, hy, hv'⟩ := Y6 hv
  have cl : ∀ c : Wt, (wtC c).length = 3 := fun _ => rfl
  have ea := q08 cl hx
  have eb := q08 cl hy
  have e5 : k * 3 + 3 <= (xs.flatMap wtC).length := by rw [Q5 cl]; omega
  have e6 : k * 3 + 3 <= (ys.flatMap wtC).length := by rw [Q5 cl]; omega
  unfold Len at hl
  have hs : IntKind.i64.wrap ((k : Int) + 1) = ((k + 1 : Nat) : Int) := O8 (by omega)
  simp only [eqL] at h1 h2
  refine Q1 (l := q01) rfl hR ?_
  unfold I7
  simp -implicitDefEqProofs -dsimp only [go_sem, seval, Int.ofNat_lt, hlt, hlt2, Int.natCast_nonneg, Int.toNat_natCast, ea, eb, e5, e6, wtC, List.cons_append, List.nil_append, q05, U0]
  refine K0 (fun h => ?_) (fun h => ?_)
  ·have he : wtE x y = false := by simp [wtE] at h ⊢; grind
   simp -implicitDefEqProofs -dsimp only [go_sem, seval]
   exact h1 (by rw [he]; rfl)
  ·have he : wtE x y = true := by simp [wtE] at h ⊢; grind
   rw [he, Bool.true_and] at h1 h2
   simp -implicitDefEqProofs -dsimp only [go_sem, seval, hs]
   exact ih vs (k + 1) hk' hv' hlt h1 h2
theorem Z6 (xs ys : List Wt) (c1 c2 : Option Nat) (hl : Len xs.length) : PCalls prog Y9 [.fz xs.length (xs.flatMap wtC) c1, .fz ys.length (ys.flatMap wtC) c2] (.b (eqL wtE xs ys)) := by
 refine K6 U1 q52 (by simp) fun T => ?_
 unfold q1h
 simp -implicitDefEqProofs -dsimp only [go_sem, seval]
 refine K0 (fun h => ?_) (fun h => ?_)
 ·have hne : xs.length ≠ ys.length := by simp at h; omega
  simp -implicitDefEqProofs -dsimp only [go_sem, seval]
  refine J9 ?_
  rw [qio _ hne]
 ·have heq : xs.length = ys.length := by simp at h; omega
  simp -implicitDefEqProofs -dsimp only [go_sem, seval]
  refine qhj (by repeat' (first | exact O6 _ _ | assumption | apply O5 | apply N4 | apply V8)) hl heq xs ys 0 rfl rfl (Nat.zero_le _) (fun h => ?_) (fun h => ?_) <;> simp -implicitDefEqProofs -dsimp only [go_sem, seval] <;> refine J9 ?_ <;> rw [h]
theorem qyz {R : G9} (hR : ExtR R) {T : Tab} {xs ys : List Int} {c1 c2 : Option Nat} (hl : Len xs.length) (hlen : xs.length = ys.length) : ∀ (us vs : List Int) (k : Nat), xs.drop k = us -> ys.drop k = vs -> k <= xs.length ->
  (eqL qyx us vs = false -> R .ret [(4, .b false)] [] T) ->
  (eqL qyx us vs = true -> R (.exit 0) [(0, .fz xs.length (xs.flatMap qyy) c1), (1, .fz ys.length (ys.flatMap qyy) c2), (12, .i .i64 xs.length), (13, .i .i64 xs.length), (14, .b false)] [] T) ->
  AW prog q3r R [(0, .fz xs.length (xs.flatMap qyy) c1), (1, .fz ys.length (ys.flatMap qyy) c2), (12, .i .i64 xs.length), (13, .i .i64 k)] [] T := by
 intro us
 induction us with
 | nil =>
  intro vs k hk hv hle h1 h2
  have hk' := V6 hk hle
  have hvs : vs = [] := by rw [<- hv]; exact List.drop_eq_nil_iff.2 (by omega)
  subst hvs
  refine V1 hR ?_
  unfold q38
  simp -implicitDefEqProofs -dsimp only [go_sem, seval, hk', Int.lt_irrefl]
  rw [hk'] at h2
  exact h2 rfl
 | cons x us ih =>
  intro vs k hk hv hle h1 h2
  obtain ⟨hlt, hx, hk'⟩ := Y6 hk
  obtain ⟨y, vs, rfl⟩ : ∃ y w, vs = y :: w := by
   cases vs with
   | nil => have := List.drop_eq_nil_iff.1 hv; omega
   | cons y w => exact ⟨y, w, rfl⟩
  obtain ⟨hlt2, hy, hv'⟩ := Y6 hv
  have cl : ∀ c : Int, (qyy c).length = 1 := fun _ => rfl
  have ea := q08 cl hx
  have eb := q08 cl hy
  rw [Nat.mul_one] at ea eb
  have e5 : k * 1 + 1 <= (xs.flatMap qyy).length := by rw [Q5 cl]; omega
  have e6 : k * 1 + 1 <= (ys.flatMap qyy).length := by rw [Q5 cl]; omega
  unfold Len at hl
  have hs : IntKind.i64.wrap ((k : Int) + 1) = ((k + 1 : Nat) : Int) := O8 (by omega)
  simp only [eqL] at h1 h2
  refine Q1 (l := q3r) rfl hR ?_
  unfold q38
  simp -implicitDefEqProofs -dsimp only [go_sem, seval, Int.ofNat_lt, hlt, hlt2, Int.natCast_nonneg, Int.toNat_natCast, ea, eb, e5, e6, qyy, List.cons_append, List.nil_append, q05, U0]
  refine K0 (fun h => ?_) (fun h => ?_)
  ·have he : qyx x y = false := by simp [qyx] at h ⊢; grind
   simp -implicitDefEqProofs -dsimp only [go_sem, seval]
   exact h1 (by rw [he]; rfl)
  ·have he : qyx x y = true := by simp [qyx] at h ⊢; grind
   rw [he, Bool.true_and] at h1 h2
   simp -implicitDefEqProofs -dsimp only [go_sem, seval, hs]
   exact ih vs (k + 1) hk' hv' hlt h1 h2
theorem qz0 (xs ys : List Int) (c1 c2 : Option Nat) (hl : Len xs.length) : PCalls prog q0y [.fz xs.length (xs.flatMap qyy) c1, .fz ys.length (ys.flatMap qyy) c2] (.b (eqL qyx xs ys)) := by
 refine K6 U1 qc1 (by simp) fun T => ?_
 unfold q78
 simp -implicitDefEqProofs -dsimp only [go_sem, seval]
 refine K0 (fun h => ?_) (fun h => ?_)
 ·have hne : xs.length ≠ ys.length := by simp at h; omega
  simp -implicitDefEqProofs -dsimp only [go_sem, seval]
  refine J9 ?_
  rw [qio _ hne]
 ·have heq : xs.length = ys.length := by simp at h; omega
  simp -implicitDefEqProofs -dsimp only [go_sem, seval]
  refine qyz (by repeat' (first | exact O6 _ _ | assumption | apply O5 | apply N4 | apply V8)) hl heq xs ys 0 rfl rfl (Nat.zero_le _) (fun h => ?_) (fun h => ?_) <;> simp -implicitDefEqProofs -dsimp only [go_sem, seval] <;> refine J9 ?_ <;> rw [h]
theorem qw1 {R : G9} (hR : ExtR R) {T : Tab} {xs ys : List Bool} {c1 c2 : Option Nat} (hl : Len xs.length) (hlen : xs.length = ys.length) : ∀ (us vs : List Bool) (k : Nat), xs.drop k = us -> ys.drop k = vs -> k <= xs.length ->
  (eqL qlb us vs = false -> R .ret [(4, .b false)] [] T) ->
  (eqL qlb us vs = true -> R (.exit 0) [(0, .fz xs.length (xs.flatMap qlc) c1), (1, .fz ys.length (ys.flatMap qlc) c2), (12, .i .i64 xs.length), (13, .i .i64 xs.length), (14, .b false)] [] T) ->
  AW prog q2n R [(0, .fz xs.length (xs.flatMap qlc) c1), (1, .fz ys.length (ys.flatMap qlc) c2), (12, .i .i64 xs.length), (13, .i .i64 k)] [] T := by
 intro us
 induction us with
 | nil =>
  intro vs k hk hv hle h1 h2
  have hk' := V6 hk hle
  have hvs : vs = [] := by rw [<- hv]; exact List.drop_eq_nil_iff.2 (by omega)
  subst hvs
  refine V1 hR ?_
  unfold q29
  simp -implicitDefEqProofs -dsimp only [go_sem, seval, hk', Int.lt_irrefl]
  rw [hk'] at h2
  exact h2 rfl
 | cons x us ih =>
  intro vs k hk hv hle h1 h2
  obtain ⟨hlt, hx, hk'⟩ := Y6 hk
  obtain ⟨y, vs, rfl⟩ : ∃ y w, vs = y :: w := by
   cases vs with
   | nil => have := List.drop_eq_nil_iff.1 hv; omega
   | cons y w => exact ⟨y, w, rfl⟩
  obtain ⟨hlt2, hy, hv'⟩ := Y6 hv
  have cl : ∀ c : Bool, (qlc c).length = 1 := fun _ => rfl
  have ea := q08 cl hx
  have eb := q08 cl hy
  rw [Nat.mul_one] at ea eb
  have e5 : k * 1 + 1 <= (xs.flatMap qlc).length := by rw [Q5 cl]; omega
  have e6 : k * 1 + 1 <= (ys.flatMap qlc).length := by rw [Q5 cl]; omega
  unfold Len at hl
  have hs : IntKind.i64.wrap ((k : Int) + 1) = ((k + 1 : Nat) : Int) := O8 (by omega)
  simp only [eqL] at h1 h2
  refine Q1 (l := q2n) rfl hR ?_
  unfold q29
  simp -implicitDefEqProofs -dsimp only [go_sem, seval, Int.ofNat_lt, hlt, hlt2, Int.natCast_nonneg, Int.toNat_natCast, ea, eb, e5, e6, qlc, List.cons_append, List.nil_append, q05, U0]
  refine K0 (fun h => ?_) (fun h => ?_)
  ·have he : qlb x y = false := by simp [qlb] at h ⊢; grind
   simp -implicitDefEqProofs -dsimp only [go_sem, seval]
   exact h1 (by rw [he]; rfl)
  ·have he : qlb x y = true := by simp [qlb] at h ⊢; grind
   rw [he, Bool.true_and] at h1 h2
   simp -implicitDefEqProofs -dsimp only [go_sem, seval, hs]
   exact ih vs (k + 1) hk' hv' hlt h1 h2
theorem qw2 (xs ys : List Bool) (c1 c2 : Option Nat) (hl : Len xs.length) : PCalls prog q0e [.fz xs.length (xs.flatMap qlc) c1, .fz ys.length (ys.flatMap qlc) c2] (.b (eqL qlb xs ys)) := by
 refine K6 U1 qai (by simp) fun T => ?_
 unfold q6g
 simp -implicitDefEqProofs -dsimp only [go_sem, seval]
 refine K0 (fun h => ?_) (fun h => ?_)
 ·have hne : xs.length ≠ ys.length := by simp at h; omega
  simp -implicitDefEqProofs -dsimp only [go_sem, seval]
  refine J9 ?_
  rw [qio _ hne]
 ·have heq : xs.length = ys.length := by simp at h; omega
  simp -implicitDefEqProofs -dsimp only [go_sem, seval]
  refine qw1 (by repeat' (first | exact O6 _ _ | assumption | apply O5 | apply N4 | apply V8)) hl heq xs ys 0 rfl rfl (Nat.zero_le _) (fun h => ?_) (fun h => ?_) <;> simp -implicitDefEqProofs -dsimp only [go_sem, seval] <;> refine J9 ?_ <;> rw [h]
end Go.Aw
