import Derived.Test.YtmicojcojlgefaaGreatZ29M17B
namespace Go.Aw
open Go
open Go.Proofs.Tryz (prog)
set_option linter.all false
set_option maxHeartbeats 4000000
def eqL {α : Type} (e : α -> α -> Bool) : List α -> List α -> Bool
 | [], [] => true
 | x :: xs, y :: ys => e x y && eqL e xs ys
 | _, _ => false
theorem qof {α : Type} (e : α -> α -> Bool) : ∀ {xs ys : List α}, xs.length ≠ ys.length -> eqL e xs ys = false
 | [], [], h => (h rfl).elim
 | [], _ :: _, _ => rfl
 | _ :: _, [], _ => rfl
 | x :: xs, y :: ys, h => by
  simp only [eqL]
  rw [qof e (fun k => h (by simp [k])), Bool.and_false]
theorem qej {α : Type} {e : α -> α -> Bool} (h : ∀ x, e x x = true) : ∀ xs : List α, eqL e xs xs = true
 | [] => rfl
 | x :: xs => by simp only [eqL, h x, qej h xs, Bool.true_and]
theorem q3d {α : Type} (e : α -> α -> Bool) (xs : List α) : eqL e xs [] = decide (xs.length = 0) := by cases xs <;> rfl
def vtE (x y : Vt) : Bool := decide (x.sl = y.sl) && decide (x.rd = y.rd) && decide (x.nd = y.nd) && decide (x.v = y.v)
def rdE (x y : Rd) : Bool := decide (x.k = y.k) && decide (x.n = y.n)
def wtE (x y : Wt) : Bool := decide (x.k = y.k) && decide (x.v = y.v) && decide (x.g = y.g)
def z15 (x y : Int) : Bool := decide (x = y)
def qqj (x y : Bool) : Bool := decide (x = y)
def z16 (x : Int) : List AV := [.i .i64 x]
def qqk (x : Bool) : List AV := [.b x]
theorem qnl {R : Y5} (hR : ExtR R) {T : Tab} {xs ys : List Vt} {c1 c2 : Option Nat} (hl : Len xs.length) (hlen : xs.length = ys.length) : ∀ (us vs : List Vt) (k : Nat), xs.drop k = us -> ys.drop k = vs -> k <= xs.length ->
  (eqL vtE us vs = false -> R .ret [(4, .b false)] [] T) ->
  (eqL vtE us vs = true -> R (.exit 0) [(0, .fz xs.length (xs.flatMap vtC) c1), (1, .fz ys.length (ys.flatMap vtC) c2), (12, .i .i64 xs.length), (13, .i .i64 xs.length), (14, .b false)] [] T) ->
  AW prog q08 R [(0, .fz xs.length (xs.flatMap vtC) c1), (1, .fz ys.length (ys.flatMap vtC) c2), (12, .i .i64 xs.length), (13, .i .i64 k)] [] T := by
 intro us
 induction us with
 | nil =>
  intro vs k hk hv hle h1 h2
  have hk' := O9 hk hle
  have hvs : vs = [] := by rw [<- hv]; exact List.drop_eq_nil_iff.2 (by omega)
  subst hvs
  refine Q2 hR ?_
  unfold q04
  simp -implicitDefEqProofs -dsimp only [go_sem, seval, hk', Int.lt_irrefl]
  rw [hk'] at h2
  exact h2 rfl
 | cons x us ih =>
  intro vs k hk hv hle h1 h2
  obtain ⟨hlt, hx, hk'⟩ := Q5 hk
  obtain ⟨y, vs, rfl⟩ : ∃ y w, vs = y :: w := by
   cases vs with
   | nil => have := List.drop_eq_nil_iff.1 hv; omega
   | cons y w => exact ⟨y, w, rfl⟩
  obtain ⟨hlt2, hy, hv'⟩ := Q5 hv
  have cl : ∀ c : Vt, (vtC c).length = 4 := fun _ => rfl
  have ea := V0 cl hx
  have eb := V0 cl hy
  have e5 : k * 4 + 4 <= (xs.flatMap vtC).length := by rw [K8 cl]; omega
  have e6 : k * 4 + 4 <= (ys.flatMap vtC).length := by rw [K8 cl]; omega
  unfold Len at hl
  have hs : IntKind.i64.wrap ((k : Int) + 1) = ((k + 1 : Nat) : Int) := K9 (by omega)
  simp only [eqL] at h1 h2
  refine O2 (l := q08) rfl hR ?_
  unfold q04
  simp -implicitDefEqProofs -dsimp only [go_sem, seval, Int.ofNat_lt, hlt, hlt2, Int.natCast_nonneg, Int.toNat_natCast, ea, eb, e5, e6, vtC, List.cons_append, List.nil_append, U2, K6]
  refine J2 (fun h => ?_) (fun h => ?_)
  ·have he : vtE x y = false := by simp [vtE] at h ⊢; grind
   simp -implicitDefEqProofs -dsimp only [go_sem, seval]
   exact h1 (by rw [he]; rfl)
  ·have he : vtE x y = true := by simp [vtE] at h ⊢; grind
   rw [he, Bool.true_and] at h1 h2
   simp -implicitDefEqProofs -dsimp only [go_sem, seval, hs]
   exact ih vs (k + 1) hk' hv' hlt h1 h2
theorem Q1 (xs ys : List Vt) (c1 c2 : Option Nat) (hl : Len xs.length) : PCalls prog Z5 [.fz xs.length (xs.flatMap vtC) c1, .fz ys.length (ys.flatMap vtC) c2] (.b (eqL vtE xs ys)) := by
 refine K5 Q7 q7t (by simp) fun T => ?_
 unfold q2b
 simp -implicitDefEqProofs -dsimp only [go_sem, seval]
 refine J2 (fun h => ?_) (fun h => ?_)
 ·have hne : xs.length ≠ ys.length := by simp at h; omega
  simp -implicitDefEqProofs -dsimp only [go_sem, seval]
  refine K1 ?_
  rw [qof _ hne]
 ·have heq : xs.length = ys.length := by simp at h; omega
  simp -implicitDefEqProofs -dsimp only [go_sem, seval]
  refine qnl (by repeat' (first | exact N5 _ _ | assumption | apply N4 | apply K7 | apply U1)) hl heq xs ys 0 rfl rfl (Nat.zero_le _) (fun h => ?_) (fun h => ?_) <;> simp -implicitDefEqProofs -dsimp only [go_sem, seval] <;> refine K1 ?_ <;> rw [h]
theorem qp0 {R : Y5} (hR : ExtR R) {T : Tab} {xs ys : List Rd} {c1 c2 : Option Nat} (hl : Len xs.length) (hlen : xs.length = ys.length) : ∀ (us vs : List Rd) (k : Nat), xs.drop k = us -> ys.drop k = vs -> k <= xs.length ->
  (eqL rdE us vs = false -> R .ret [(4, .b false)] [] T) ->
  (eqL rdE us vs = true -> R (.exit 0) [(0, .fz xs.length (xs.flatMap rdC) c1), (1, .fz ys.length (ys.flatMap rdC) c2), (12, .i .i64 xs.length), (13, .i .i64 xs.length), (14, .b false)] [] T) ->
  AW prog q0k R [(0, .fz xs.length (xs.flatMap rdC) c1), (1, .fz ys.length (ys.flatMap rdC) c2), (12, .i .i64 xs.length), (13, .i .i64 k)] [] T := by
 intro us
 induction us with
 | nil =>
  intro vs k hk hv hle h1 h2
  have hk' := O9 hk hle
  have hvs : vs = [] := by rw [<- hv]; exact List.drop_eq_nil_iff.2 (by omega)
  subst hvs
  refine Q2 hR ?_
  unfold q0d
  simp -implicitDefEqProofs -dsimp only [go_sem, seval, hk', Int.lt_irrefl]
  rw [hk'] at h2
  exact h2 rfl
 | cons x us ih =>
  intro vs k hk hv hle h1 h2
  obtain ⟨hlt, hx, hk'⟩ := Q5 hk
  obtain ⟨y, vs, rfl⟩ : ∃ y w, vs = y :: w := by
   cases vs with
   | nil => have := List.drop_eq_nil_iff.1 hv; omega
   | cons y w => exact ⟨y, w, rfl⟩
  obtain ⟨hlt2, hy, hv'⟩ := Q5 hv
  have cl : ∀ c : Rd, (rdC c).length = 2 := fun _ => rfl
  have ea := V0 cl hx
  have eb := V0 cl hy
  have e5 : k * 2 + 2 <= (xs.flatMap rdC).length := by rw [K8 cl]; omega
  have e6 : k * 2 + 2 <= (ys.flatMap rdC).length := by rw [K8 cl]; omega
  unfold Len at hl
  have hs : IntKind.i64.wrap ((k : Int) + 1) = ((k + 1 : Nat) : Int) := K9 (by omega)
  simp only [eqL] at h1 h2
  refine O2 (l := q0k) rfl hR ?_
  unfold q0d
  simp -implicitDefEqProofs -dsimp only [go_sem, seval, Int.ofNat_lt, hlt, hlt2, Int.natCast_nonneg, Int.toNat_natCast, ea, eb, e5, e6, rdC, List.cons_append, List.nil_append, U2, K6]
  refine J2 (fun h => ?_) (fun h => ?_)
  ·have he : rdE x y = false := by simp [rdE] at h ⊢; grind
   simp -implicitDefEqProofs -dsimp only [go_sem, seval]
   exact h1 (by rw [he]; rfl)
  ·have he : rdE x y = true := by simp [rdE] at h ⊢; grind
   rw [he, Bool.true_and] at h1 h2
   simp -implicitDefEqProofs -dsimp only [go_sem, seval, hs]
   exact ih vs (k + 1) hk' hv' hlt h1 h2
theorem I8 (xs ys : List Rd) (c1 c2 : Option Nat) (hl : Len xs.length) : PCalls prog G5 [.fz xs.length (xs.flatMap rdC) c1, .fz ys.length (ys.flatMap rdC) c2] (.b (eqL rdE xs ys)) := by
 refine K5 Q7 q92 (by simp) fun T => ?_
 unfold q33
 simp -implicitDefEqProofs -dsimp only [go_sem, seval]
 refine J2 (fun h => ?_) (fun h => ?_)
 ·have hne : xs.length ≠ ys.length := by simp at h; omega
  simp -implicitDefEqProofs -dsimp only [go_sem, seval]
  refine K1 ?_
  rw [qof _ hne]
 ·have heq : xs.length = ys.length := by simp at h; omega
  simp -implicitDefEqProofs -dsimp only [go_sem, seval]
  refine qp0 (by repeat' (first | exact N5 _ _ | assumption | apply N4 | apply K7 | apply U1)) hl heq xs ys 0 rfl rfl (Nat.zero_le _) (fun h => ?_) (fun h => ?_) <;> simp -implicitDefEqProofs -dsimp only [go_sem, seval] <;> refine K1 ?_ <;> rw [h]
theorem qnm {R : Y5} (hR : ExtR R) {T : Tab} {xs ys : List Wt} {c1 c2 : Option Nat} (hl : Len xs.length) (hlen : xs.length = ys.length) : ∀ (us vs : List Wt) (k : Nat), xs.drop k = us -> ys.drop k = vs -> k <= xs.length ->
  (eqL wtE us vs = false -> R .ret [(4, .b false)] [] T) ->
  (eqL wtE us vs = true -> R (.exit 0) [(0, .fz xs.length (xs.flatMap wtC) c1), (1, .fz ys.length (ys.flatMap wtC) c2), (12, .i .i64 xs.length), (13, .i .i64 xs.length), (14, .b false)] [] T) ->
  AW prog q09 R [(0, .fz xs.length (xs.flatMap wtC) c1), (1, .fz ys.length (ys.flatMap wtC) c2), (12, .i .i64 xs.length), (13, .i .i64 k)] [] T := by
 intro us
 induction us with
 | nil =>
  intro vs k hk hv hle h1 h2
  have hk' := O9 hk hle
  have hvs : vs = [] := by rw [<- hv]; exact List.drop_eq_nil_iff.2 (by omega)
  subst hvs
  refine Q2 hR ?_
  unfold q05
  simp -implicitDefEqProofs -dsimp only [go_sem, seval, hk', Int.lt_irrefl]
  rw [hk'] at h2
  exact h2 rfl
 | cons x us ih =>
  intro vs k hk hv hle h1 h2
  obtain ⟨hlt, hx, hk'⟩ := Q5 hk
  obtain ⟨y, vs, rfl⟩ : ∃ y w, vs = y :: w := by
   cases vs with
   | nil => have := List.drop_eq_nil_iff.1 hv; omega
   | cons y w => exact ⟨y, w, rfl⟩
  obtain ⟨hlt2, hy, hv'⟩ := Q5 hv
  have cl : ∀ c : Wt, (wtC c).length = 3 := fun _ => rfl
  have ea := V0 cl hx
  have eb := V0 cl hy
  have e5 : k * 3 + 3 <= (xs.flatMap wtC).length := by rw [K8 cl]; omega
  have e6 : k * 3 + 3 <= (ys.flatMap wtC).length := by rw [K8 cl]; omega
  unfold Len at hl
  have hs : IntKind.i64.wrap ((k : Int) + 1) = ((k + 1 : Nat) : Int) := K9 (by omega)
  simp only [eqL] at h1 h2
  refine O2 (l := q09) rfl hR ?_
  unfold q05
  simp -implicitDefEqProofs -dsimp only [go_sem, seval, Int.ofNat_lt, hlt, hlt2, Int.natCast_nonneg, Int.toNat_natCast, ea, eb, e5, e6, wtC, List.cons_append, List.nil_append, U2, K6]
  refine J2 (fun h => ?_) (fun h => ?_)
  ·have he : wtE x y = false := by simp [wtE] at h ⊢; grind
   simp -implicitDefEqProofs -dsimp only [go_sem, seval]
   exact h1 (by rw [he]; rfl)
  ·have he : wtE x y = true := by simp [wtE] at h ⊢; grind
   rw [he, Bool.true_and] at h1 h2
   simp -implicitDefEqProofs -dsimp only [go_sem, seval, hs]
   exact ih vs (k + 1) hk' hv' hlt h1 h2
theorem G3 (xs ys : List Wt) (c1 c2 : Option Nat) (hl : Len xs.length) : PCalls prog Z6 [.fz xs.length (xs.flatMap wtC) c1, .fz ys.length (ys.flatMap wtC) c2] (.b (eqL wtE xs ys)) := by
 refine K5 Q7 q7v (by simp) fun T => ?_
 unfold q2c
 simp -implicitDefEqProofs -dsimp only [go_sem, seval]
 refine J2 (fun h => ?_) (fun h => ?_)
 ·have hne : xs.length ≠ ys.length := by simp at h; omega
  simp -implicitDefEqProofs -dsimp only [go_sem, seval]
  refine K1 ?_
  rw [qof _ hne]
 ·have heq : xs.length = ys.length := by simp at h; omega
  simp -implicitDefEqProofs -dsimp only [go_sem, seval]
  refine qnm (by repeat' (first | exact N5 _ _ | assumption | apply N4 | apply K7 | apply U1)) hl heq xs ys 0 rfl rfl (Nat.zero_le _) (fun h => ?_) (fun h => ?_) <;> simp -implicitDefEqProofs -dsimp only [go_sem, seval] <;> refine K1 ?_ <;> rw [h]
theorem z17 {R : Y5} (hR : ExtR R) {T : Tab} {xs ys : List Int} {c1 c2 : Option Nat} (hl : Len xs.length) (hlen : xs.length = ys.length) : ∀ (us vs : List Int) (k : Nat), xs.drop k = us -> ys.drop k = vs -> k <= xs.length ->
  (eqL z15 us vs = false -> R .ret [(4, .b false)] [] T) ->
  (eqL z15 us vs = true -> R (.exit 0) [(0, .fz xs.length (xs.flatMap z16) c1), (1, .fz ys.length (ys.flatMap z16) c2), (12, .i .i64 xs.length), (13, .i .i64 xs.length), (14, .b false)] [] T) ->
  AW prog q5l R [(0, .fz xs.length (xs.flatMap z16) c1), (1, .fz ys.length (ys.flatMap z16) c2), (12, .i .i64 xs.length), (13, .i .i64 k)] [] T := by
 intro us
 induction us with
 | nil =>
  intro vs k hk hv hle h1 h2
  have hk' := O9 hk hle
  have hvs : vs = [] := by rw [<- hv]; exact List.drop_eq_nil_iff.2 (by omega)
  subst hvs
  refine Q2 hR ?_
  unfold q4s
  simp -implicitDefEqProofs -dsimp only [go_sem, seval, hk', Int.lt_irrefl]
  rw [hk'] at h2
  exact h2 rfl
 | cons x us ih =>
  intro vs k hk hv hle h1 h2
  obtain ⟨hlt, hx, hk'⟩ := Q5 hk
  obtain ⟨y, vs, rfl⟩ : ∃ y w, vs = y :: w := by
   cases vs with
   | nil => have := List.drop_eq_nil_iff.1 hv; omega
   | cons y w => exact ⟨y, w, rfl⟩
  obtain ⟨hlt2, hy, hv'⟩ := Q5 hv
  have cl : ∀ c : Int, (z16 c).length = 1 := fun _ => rfl
  have ea := V0 cl hx
  have eb := V0 cl hy
  rw [Nat.mul_one] at ea eb
  have e5 : k * 1 + 1 <= (xs.flatMap z16).length := by rw [K8 cl]; omega
  have e6 : k * 1 + 1 <= (ys.flatMap z16).length := by rw [K8 cl]; omega
  unfold Len at hl
  have hs : IntKind.i64.wrap ((k : Int) + 1) = ((k + 1 : Nat) : Int) := K9 (by omega)
  simp only [eqL] at h1 h2
  refine O2 (l := q5l) rfl hR ?_
  unfold q4s
  simp -implicitDefEqProofs -dsimp only [go_sem, seval, Int.ofNat_lt, hlt, hlt2, Int.natCast_nonneg, Int.toNat_natCast, ea, eb, e5, e6, z16, List.cons_append, List.nil_append, U2, K6]
  refine J2 (fun h => ?_) (fun h => ?_)
  ·have he : z15 x y = false := by simp [z15] at h ⊢; grind
   simp -implicitDefEqProofs -dsimp only [go_sem, seval]
   exact h1 (by rw [he]; rfl)
  ·have he : z15 x y = true := by simp [z15] at h ⊢; grind
   rw [he, Bool.true_and] at h1 h2
   simp -implicitDefEqProofs -dsimp only [go_sem, seval, hs]
   exact ih vs (k + 1) hk' hv' hlt h1 h2
theorem z18 (xs ys : List Int) (c1 c2 : Option Nat) (hl : Len xs.length) : PCalls prog q1o [.fz xs.length (xs.flatMap z16) c1, .fz ys.length (ys.flatMap z16) c2] (.b (eqL z15 xs ys)) := by
 refine K5 Q7 qgu (by simp) fun T => ?_
 unfold qaf
 simp -implicitDefEqProofs -dsimp only [go_sem, seval]
 refine J2 (fun h => ?_) (fun h => ?_)
 ·have hne : xs.length ≠ ys.length := by simp at h; omega
  simp -implicitDefEqProofs -dsimp only [go_sem, seval]
  refine K1 ?_
  rw [qof _ hne]
 ·have heq : xs.length = ys.length := by simp at h; omega
  simp -implicitDefEqProofs -dsimp only [go_sem, seval]
  refine z17 (by repeat' (first | exact N5 _ _ | assumption | apply N4 | apply K7 | apply U1)) hl heq xs ys 0 rfl rfl (Nat.zero_le _) (fun h => ?_) (fun h => ?_) <;> simp -implicitDefEqProofs -dsimp only [go_sem, seval] <;> refine K1 ?_ <;> rw [h]
theorem qyh {R : Y5} (hR : ExtR R) {T : Tab} {xs ys : List Bool} {c1 c2 : Option Nat} (hl : Len xs.length) (hlen : xs.length = ys.length) : ∀ (us vs : List Bool) (k : Nat), xs.drop k = us -> ys.drop k = vs -> k <= xs.length ->
  (eqL qqj us vs = false -> R .ret [(4, .b false)] [] T) ->
  (eqL qqj us vs = true -> R (.exit 0) [(0, .fz xs.length (xs.flatMap qqk) c1), (1, .fz ys.length (ys.flatMap qqk) c2), (12, .i .i64 xs.length), (13, .i .i64 xs.length), (14, .b false)] [] T) ->
  AW prog q3v R [(0, .fz xs.length (xs.flatMap qqk) c1), (1, .fz ys.length (ys.flatMap qqk) c2), (12, .i .i64 xs.length), (13, .i .i64 k)] [] T := by
 intro us
 induction us with
 | nil =>
  intro vs k hk hv hle h1 h2
  have hk' := O9 hk hle
  have hvs : vs = [] := by rw [<- hv]; exact List.drop_eq_nil_iff.2 (by omega)
  subst hvs
  refine Q2 hR ?_
  unfold q3c
  simp -implicitDefEqProofs -dsimp only [go_sem, seval, hk', Int.lt_irrefl]
  rw [hk'] at h2
  exact h2 rfl
 | cons x us ih =>
  intro vs k hk hv hle h1 h2
  obtain ⟨hlt, hx, hk'⟩ := Q5 hk
  obtain ⟨y, vs, rfl⟩ : ∃ y w, vs = y :: w := by
   cases vs with
   | nil => have := List.drop_eq_nil_iff.1 hv; omega
   | cons y w => exact ⟨y, w, rfl⟩
  obtain ⟨hlt2, hy, hv'⟩ := Q5 hv
  have cl : ∀ c : Bool, (qqk c).length = 1 := fun _ => rfl
  have ea := V0 cl hx
  have eb := V0 cl hy
  rw [Nat.mul_one] at ea eb
  have e5 : k * 1 + 1 <= (xs.flatMap qqk).length := by rw [K8 cl]; omega
  have e6 : k * 1 + 1 <= (ys.flatMap qqk).length := by rw [K8 cl]; omega
  unfold Len at hl
  have hs : IntKind.i64.wrap ((k : Int) + 1) = ((k + 1 : Nat) : Int) := K9 (by omega)
  simp only [eqL] at h1 h2
  refine O2 (l := q3v) rfl hR ?_
  unfold q3c
  simp -implicitDefEqProofs -dsimp only [go_sem, seval, Int.ofNat_lt, hlt, hlt2, Int.natCast_nonneg, Int.toNat_natCast, ea, eb, e5, e6, qqk, List.cons_append, List.nil_append, U2, K6]
  refine J2 (fun h => ?_) (fun h => ?_)
  ·have he : qqj x y = false := by simp [qqj] at h ⊢; grind
   simp -implicitDefEqProofs -dsimp only [go_sem, seval]
   exact h1 (by rw [he]; rfl)
  ·have he : qqj x y = true := by simp [qqj] at h ⊢; grind
   rw [he, Bool.true_and] at h1 h2
   simp -implicitDefEqProofs -dsimp only [go_sem, seval, hs]
   exact ih vs (k + 1) hk' hv' hlt h1 h2
theorem qyi (xs ys : List Bool) (c1 c2 : Option Nat) (hl : Len xs.length) : PCalls prog q0z [.fz xs.length (xs.flatMap qqk) c1, .fz ys.length (ys.flatMap qqk) c2] (.b (eqL qqj xs ys)) := by
 refine K5 Q7 qfi (by simp) fun T => ?_
 unfold q9s
 simp -implicitDefEqProofs -dsimp only [go_sem, seval]
 refine J2 (fun h => ?_) (fun h => ?_)
 ·have hne : xs.length ≠ ys.length := by simp at h; omega
  simp -implicitDefEqProofs -dsimp only [go_sem, seval]
  refine K1 ?_
  rw [qof _ hne]
 ·have heq : xs.length = ys.length := by simp at h; omega
  simp -implicitDefEqProofs -dsimp only [go_sem, seval]
  refine qyh (by repeat' (first | exact N5 _ _ | assumption | apply N4 | apply K7 | apply U1)) hl heq xs ys 0 rfl rfl (Nat.zero_le _) (fun h => ?_) (fun h => ?_) <;> simp -implicitDefEqProofs -dsimp only [go_sem, seval] <;> refine K1 ?_ <;> rw [h]
end Go.Aw
