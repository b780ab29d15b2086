import Derived.Test.YtchdmofoaokpjaaGreatDoorM30N17M17B
namespace Go.Aw
open Go
open Go.Proofs.Tryz (prog)
set_option linter.all false
set_option maxHeartbeats 4000000
def eqL {α : Type} (e : α -> α -> Bool) : List α -> List α -> Bool
 | [], [] => true
 | x :: xs, y :: ys => e x y && eqL e xs ys
 | _, _ => false
theorem qip {α : Type} (e : α -> α -> Bool) : ∀ {xs ys : List α}, xs.length ≠ ys.length -> eqL e xs ys = false
 | [], [], h => (h rfl).elim
 | [], _ :: _, _ => rfl
 | _ :: _, [], _ => rfl
 | x :: xs, y :: ys, h => by
  simp only [eqL]
  rw [qip e (fun k => h (by simp [k])), Bool.and_false]
def vtE (x y : Vt) : Bool := decide (x.sl = y.sl) && decide (x.rd = y.rd) && decide (x.nd = y.nd) && decide (x.v = y.v)
def rdE (x y : Rd) : Bool := decide (x.k = y.k) && decide (x.n = y.n)
def wtE (x y : Wt) : Bool := decide (x.k = y.k) && decide (x.v = y.v) && decide (x.g = y.g)
def z1i (x y : Int) : Bool := decide (x = y)
def qom (x y : Bool) : Bool := decide (x = y)
def qyp (x : Int) : List AV := [.i .i64 x]
def ql6 (x : Bool) : List AV := [.b x]
theorem qhh {R : I2} (hR : ExtR R) {T : Tab} {xs ys : List Vt} {c1 c2 : Option Nat} (hl : Len xs.length) (hlen : xs.length = ys.length) : ∀ (us vs : List Vt) (k : Nat), xs.drop k = us -> ys.drop k = vs -> k <= xs.length ->
  (eqL vtE us vs = false -> R .ret [(4, .b false)] [] T) ->
  (eqL vtE us vs = true -> R (.exit 0) [(0, .fz xs.length (xs.flatMap vtC) c1), (1, .fz ys.length (ys.flatMap vtC) c2), (12, .i .i64 xs.length), (13, .i .i64 xs.length), (14, .b false)] [] T) ->
  AW prog I9 R [(0, .fz xs.length (xs.flatMap vtC) c1), (1, .fz ys.length (ys.flatMap vtC) c2), (12, .i .i64 xs.length), (13, .i .i64 k)] [] T := by
 intro us
 induction us with
 | nil =>
  intro vs k hk hv hle h1 h2
  have hk' := Y0 hk hle
  have hvs : vs = [] := by rw [<- hv]; exact List.drop_eq_nil_iff.2 (by omega)
  subst hvs
  refine V1 hR ?_
  unfold I5
  simp -implicitDefEqProofs -dsimp only [go_sem, seval, hk', Int.lt_irrefl]
  rw [hk'] at h2
  exact h2 rfl
 | cons x us ih =>
  intro vs k hk hv hle h1 h2
  obtain ⟨hlt, hx, hk'⟩ := Y9 hk
  obtain ⟨y, vs, rfl⟩ : ∃ y w, vs = y :: w := by
   cases vs with
   | nil => have := List.drop_eq_nil_iff.1 hv; omega
   | cons y w => exact ⟨y, w, rfl⟩
  obtain ⟨hlt2, hy, hv'⟩ := Y9 hv
  have cl : ∀ c : Vt, (vtC c).length = 4 := fun _ => rfl
  have ea := q0b cl hx
  have eb := q0b cl hy
  have e5 : k * 4 + 4 <= (xs.flatMap vtC).length := by rw [Q6 cl]; omega
  have e6 : k * 4 + 4 <= (ys.flatMap vtC).length := by rw [Q6 cl]; omega
  unfold Len at hl
  have hs : IntKind.i64.wrap ((k : Int) + 1) = ((k + 1 : Nat) : Int) := Q0 (by omega)
  simp only [eqL] at h1 h2
  refine Q3 (l := I9) rfl hR ?_
  unfold I5
  simp -implicitDefEqProofs -dsimp only [go_sem, seval, Int.ofNat_lt, hlt, hlt2, Int.natCast_nonneg, Int.toNat_natCast, ea, eb, e5, e6, vtC, List.cons_append, List.nil_append, q05, U1]
  refine K0 (fun h => ?_) (fun h => ?_)
  ·have he : vtE x y = false := by simp [vtE] at h ⊢; grind
   simp -implicitDefEqProofs -dsimp only [go_sem, seval]
   exact h1 (by rw [he]; rfl)
  ·have he : vtE x y = true := by simp [vtE] at h ⊢; grind
   rw [he, Bool.true_and] at h1 h2
   simp -implicitDefEqProofs -dsimp only [go_sem, seval, hs]
   exact ih vs (k + 1) hk' hv' hlt h1 h2
theorem O3 (xs ys : List Vt) (c1 c2 : Option Nat) (hl : Len xs.length) : PCalls prog Y5 [.fz xs.length (xs.flatMap vtC) c1, .fz ys.length (ys.flatMap vtC) c2] (.b (eqL vtE xs ys)) := by
 refine K5 Q9 q4t (by simp) fun T => ?_
 unfold q1d
 simp -implicitDefEqProofs -dsimp only [go_sem, seval]
 refine K0 (fun h => ?_) (fun h => ?_)
 ·have hne : xs.length ≠ ys.length := by simp at h; omega
  simp -implicitDefEqProofs -dsimp only [go_sem, seval]
  refine J9 ?_
  rw [qip _ hne]
 ·have heq : xs.length = ys.length := by simp at h; omega
  simp -implicitDefEqProofs -dsimp only [go_sem, seval]
  refine qhh (by repeat' (first | exact O7 _ _ | assumption | apply O6 | apply N6 | apply Y1)) hl heq xs ys 0 rfl rfl (Nat.zero_le _) (fun h => ?_) (fun h => ?_) <;> simp -implicitDefEqProofs -dsimp only [go_sem, seval] <;> refine J9 ?_ <;> rw [h]
theorem qja {R : I2} (hR : ExtR R) {T : Tab} {xs ys : List Rd} {c1 c2 : Option Nat} (hl : Len xs.length) (hlen : xs.length = ys.length) : ∀ (us vs : List Rd) (k : Nat), xs.drop k = us -> ys.drop k = vs -> k <= xs.length ->
  (eqL rdE us vs = false -> R .ret [(4, .b false)] [] T) ->
  (eqL rdE us vs = true -> R (.exit 0) [(0, .fz xs.length (xs.flatMap rdC) c1), (1, .fz ys.length (ys.flatMap rdC) c2), (12, .i .i64 xs.length), (13, .i .i64 xs.length), (14, .b false)] [] T) ->
  AW prog q07 R [(0, .fz xs.length (xs.flatMap rdC) c1), (1, .fz ys.length (ys.flatMap rdC) c2), (12, .i .i64 xs.length), (13, .i .i64 k)] [] T := by
 intro us
 induction us with
 | nil =>
  intro vs k hk hv hle h1 h2
  have hk' := Y0 hk hle
  have hvs : vs = [] := by rw [<- hv]; exact List.drop_eq_nil_iff.2 (by omega)
  subst hvs
  refine V1 hR ?_
  unfold q04
  simp -implicitDefEqProofs -dsimp only [go_sem, seval, hk', Int.lt_irrefl]
  rw [hk'] at h2
  exact h2 rfl
 | cons x us ih =>
  intro vs k hk hv hle h1 h2
  obtain ⟨hlt, hx, hk'⟩ := Y9 hk
  obtain ⟨y, vs, rfl⟩ : ∃ y w, vs = y :: w := by
   cases vs with
   | nil => have := List.drop_eq_nil_iff.1 hv; omega
   | cons y w => exact ⟨y, w, rfl⟩
  obtain ⟨hlt2, hy, hv'⟩ := Y9 hv
  have cl : ∀ c : Rd, (rdC c).length = 2 := fun _ => rfl
  have ea := q0b cl hx
  have eb := q0b cl hy
  have e5 : k * 2 + 2 <= (xs.flatMap rdC).length := by rw [Q6 cl]; omega
  have e6 : k * 2 + 2 <= (ys.flatMap rdC).length := by rw [Q6 cl]; omega
  unfold Len at hl
  have hs : IntKind.i64.wrap ((k : Int) + 1) = ((k + 1 : Nat) : Int) := Q0 (by omega)
  simp only [eqL] at h1 h2
  refine Q3 (l := q07) rfl hR ?_
  unfold q04
  simp -implicitDefEqProofs -dsimp only [go_sem, seval, Int.ofNat_lt, hlt, hlt2, Int.natCast_nonneg, Int.toNat_natCast, ea, eb, e5, e6, rdC, List.cons_append, List.nil_append, q05, U1]
  refine K0 (fun h => ?_) (fun h => ?_)
  ·have he : rdE x y = false := by simp [rdE] at h ⊢; grind
   simp -implicitDefEqProofs -dsimp only [go_sem, seval]
   exact h1 (by rw [he]; rfl)
  ·have he : rdE x y = true := by simp [rdE] at h ⊢; grind
   rw [he, Bool.true_and] at h1 h2
   simp -implicitDefEqProofs -dsimp only [go_sem, seval, hs]
   exact ih vs (k + 1) hk' hv' hlt h1 h2
theorem G8 (xs ys : List Rd) (c1 c2 : Option Nat) (hl : Len xs.length) : PCalls prog Z7 [.fz xs.length (xs.flatMap rdC) c1, .fz ys.length (ys.flatMap rdC) c2] (.b (eqL rdE xs ys)) := by
 refine K5 Q9 q5e (by simp) fun T => ?_
 unfold q1u
 simp -implicitDefEqProofs -dsimp only [go_sem, seval]
 refine K0 (fun h => ?_) (fun h => ?_)
 ·have hne : xs.length ≠ ys.length := by simp at h; omega
  simp -implicitDefEqProofs -dsimp only [go_sem, seval]
  refine J9 ?_
  rw [qip _ hne]
 ·have heq : xs.length = ys.length := by simp at h; omega
  simp -implicitDefEqProofs -dsimp only [go_sem, seval]
  refine qja (by repeat' (first | exact O7 _ _ | assumption | apply O6 | apply N6 | apply Y1)) hl heq xs ys 0 rfl rfl (Nat.zero_le _) (fun h => ?_) (fun h => ?_) <;> simp -implicitDefEqProofs -dsimp only [go_sem, seval] <;> refine J9 ?_ <;> rw [h]
theorem qhi {R : I2} (hR : ExtR R) {T : Tab} {xs ys : List Wt} {c1 c2 : Option Nat} (hl : Len xs.length) (hlen : xs.length = ys.length) : ∀ (us vs : List Wt) (k : Nat), xs.drop k = us -> ys.drop k = vs -> k <= xs.length ->
  (eqL wtE us vs = false -> R .ret [(4, .b false)] [] T) ->
  (eqL wtE us vs = true -> R (.exit 0) [(0, .fz xs.length (xs.flatMap wtC) c1), (1, .fz ys.length (ys.flatMap wtC) c2), (12, .i .i64 xs.length), (13, .i .i64 xs.length), (14, .b false)] [] T) ->
  AW prog q00 R [(0, .fz xs.length (xs.flatMap wtC) c1), (1, .fz ys.length (ys.flatMap wtC) c2), (12, .i .i64 xs.length), (13, .i .i64 k)] [] T := by
 intro us
 induction us with
 | nil =>
  intro vs k hk hv hle h1 h2
  have hk' := Y0 hk hle
  have hvs : vs = [] := by rw [<- hv]; exact List.drop_eq_nil_iff.2 (by omega)
  subst hvs
  refine V1 hR ?_
  unfold I6
  simp -implicitDefEqProofs -dsimp only [go_sem, seval, hk', Int.lt_irrefl]
  rw [hk'] at h2
  exact h2 rfl
 | cons x us ih =>
  intro vs k hk hv hle h1 h2
  obtain ⟨hlt, hx, hk'⟩ := Y9 hk
  obtain ⟨y, vs, rfl⟩ : ∃ y w, vs = y :: w := by
   cases vs with
   | nil => have := List.drop_eq_nil_iff.1 hv; omega
   | cons y w => exact ⟨y, w, rfl⟩
  obtain ⟨hlt2, hy, hv'⟩ := Y9 hv
  have cl : ∀ c : Wt, (wtC c).length = 3 := fun _ => rfl
  have ea := q0b cl hx
  have eb := q0b cl hy
  have e5 : k * 3 + 3 <= (xs.flatMap wtC).length := by rw [Q6 cl]; omega
  have e6 : k * 3 + 3 <= (ys.flatMap wtC).length := by rw [Q6 cl]; omega
  unfold Len at hl
  have hs : IntKind.i64.wrap ((k : Int) + 1) = ((k + 1 : Nat) : Int) := Q0 (by omega)
  simp only [eqL] at h1 h2
  refine Q3 (l := q00) rfl hR ?_
  unfold I6
  simp -implicitDefEqProofs -dsimp only [go_sem, seval, Int.ofNat_lt, hlt, hlt2, Int.natCast_nonneg, Int.toNat_natCast, ea, eb, e5, e6, wtC, List.cons_append, List.nil_append, q05, U1]
  refine K0 (fun h => ?_) (fun h => ?_)
  ·have he : wtE x y = false := by simp [wtE] at h ⊢; grind
   simp -implicitDefEqProofs -dsimp only [go_sem, seval]
   exact h1 (by rw [he]; rfl)
  ·have he : wtE x y = true := by simp [wtE] at h ⊢; grind
   rw [he, Bool.true_and] at h1 h2
   simp -implicitDefEqProofs -dsimp only [go_sem, seval, hs]
   exact ih vs (k + 1) hk' hv' hlt h1 h2
theorem Z5 (xs ys : List Wt) (c1 c2 : Option Nat) (hl : Len xs.length) : PCalls prog Y6 [.fz xs.length (xs.flatMap wtC) c1, .fz ys.length (ys.flatMap wtC) c2] (.b (eqL wtE xs ys)) := by
 refine K5 Q9 q4v (by simp) fun T => ?_
 unfold q1e
 simp -implicitDefEqProofs -dsimp only [go_sem, seval]
 refine K0 (fun h => ?_) (fun h => ?_)
 ·have hne : xs.length ≠ ys.length := by simp at h; omega
  simp -implicitDefEqProofs -dsimp only [go_sem, seval]
  refine J9 ?_
  rw [qip _ hne]
 ·have heq : xs.length = ys.length := by simp at h; omega
  simp -implicitDefEqProofs -dsimp only [go_sem, seval]
  refine qhi (by repeat' (first | exact O7 _ _ | assumption | apply O6 | apply N6 | apply Y1)) hl heq xs ys 0 rfl rfl (Nat.zero_le _) (fun h => ?_) (fun h => ?_) <;> simp -implicitDefEqProofs -dsimp only [go_sem, seval] <;> refine J9 ?_ <;> rw [h]
theorem qyq {R : I2} (hR : ExtR R) {T : Tab} {xs ys : List Int} {c1 c2 : Option Nat} (hl : Len xs.length) (hlen : xs.length = ys.length) : ∀ (us vs : List Int) (k : Nat), xs.drop k = us -> ys.drop k = vs -> k <= xs.length ->
  (eqL z1i us vs = false -> R .ret [(4, .b false)] [] T) ->
  (eqL z1i us vs = true -> R (.exit 0) [(0, .fz xs.length (xs.flatMap qyp) c1), (1, .fz ys.length (ys.flatMap qyp) c2), (12, .i .i64 xs.length), (13, .i .i64 xs.length), (14, .b false)] [] T) ->
  AW prog q3o R [(0, .fz xs.length (xs.flatMap qyp) c1), (1, .fz ys.length (ys.flatMap qyp) c2), (12, .i .i64 xs.length), (13, .i .i64 k)] [] T := by
 intro us
 induction us with
 | nil =>
  intro vs k hk hv hle h1 h2
  have hk' := Y0 hk hle
  have hvs : vs = [] := by rw [<- hv]; exact List.drop_eq_nil_iff.2 (by omega)
  subst hvs
  refine V1 hR ?_
  unfold q35
  simp -implicitDefEqProofs -dsimp only [go_sem, seval, hk', Int.lt_irrefl]
  rw [hk'] at h2
  exact h2 rfl
 | cons x us ih =>
  intro vs k hk hv hle h1 h2
  obtain ⟨hlt, hx, hk'⟩ := Y9 hk
  obtain ⟨y, vs, rfl⟩ : ∃ y w, vs = y :: w := by
   cases vs with
   | nil => have := List.drop_eq_nil_iff.1 hv; omega
   | cons y w => exact ⟨y, w, rfl⟩
  obtain ⟨hlt2, hy, hv'⟩ := Y9 hv
  have cl : ∀ c : Int, (qyp c).length = 1 := fun _ => rfl
  have ea := q0b cl hx
  have eb := q0b cl hy
  rw [Nat.mul_one] at ea eb
  have e5 : k * 1 + 1 <= (xs.flatMap qyp).length := by rw [Q6 cl]; omega
  have e6 : k * 1 + 1 <= (ys.flatMap qyp).length := by rw [Q6 cl]; omega
  unfold Len at hl
  have hs : IntKind.i64.wrap ((k : Int) + 1) = ((k + 1 : Nat) : Int) := Q0 (by omega)
  simp only [eqL] at h1 h2
  refine Q3 (l := q3o) rfl hR ?_
  unfold q35
  simp -implicitDefEqProofs -dsimp only [go_sem, seval, Int.ofNat_lt, hlt, hlt2, Int.natCast_nonneg, Int.toNat_natCast, ea, eb, e5, e6, qyp, List.cons_append, List.nil_append, q05, U1]
  refine K0 (fun h => ?_) (fun h => ?_)
  ·have he : z1i x y = false := by simp [z1i] at h ⊢; grind
   simp -implicitDefEqProofs -dsimp only [go_sem, seval]
   exact h1 (by rw [he]; rfl)
  ·have he : z1i x y = true := by simp [z1i] at h ⊢; grind
   rw [he, Bool.true_and] at h1 h2
   simp -implicitDefEqProofs -dsimp only [go_sem, seval, hs]
   exact ih vs (k + 1) hk' hv' hlt h1 h2
theorem qyr (xs ys : List Int) (c1 c2 : Option Nat) (hl : Len xs.length) : PCalls prog q0w [.fz xs.length (xs.flatMap qyp) c1, .fz ys.length (ys.flatMap qyp) c2] (.b (eqL z1i xs ys)) := by
 refine K5 Q9 qbt (by simp) fun T => ?_
 unfold q6y
 simp -implicitDefEqProofs -dsimp only [go_sem, seval]
 refine K0 (fun h => ?_) (fun h => ?_)
 ·have hne : xs.length ≠ ys.length := by simp at h; omega
  simp -implicitDefEqProofs -dsimp only [go_sem, seval]
  refine J9 ?_
  rw [qip _ hne]
 ·have heq : xs.length = ys.length := by simp at h; omega
  simp -implicitDefEqProofs -dsimp only [go_sem, seval]
  refine qyq (by repeat' (first | exact O7 _ _ | assumption | apply O6 | apply N6 | apply Y1)) hl heq xs ys 0 rfl rfl (Nat.zero_le _) (fun h => ?_) (fun h => ?_) <;> simp -implicitDefEqProofs -dsimp only [go_sem, seval] <;> refine J9 ?_ <;> rw [h]
theorem qvx {R : I2} (hR : ExtR R) {T : Tab} {xs ys : List Bool} {c1 c2 : Option Nat} (hl : Len xs.length) (hlen : xs.length = ys.length) : ∀ (us vs : List Bool) (k : Nat), xs.drop k = us -> ys.drop k = vs -> k <= xs.length ->
  (eqL qom us vs = false -> R .ret [(4, .b false)] [] T) ->
  (eqL qom us vs = true -> R (.exit 0) [(0, .fz xs.length (xs.flatMap ql6) c1), (1, .fz ys.length (ys.flatMap ql6) c2), (12, .i .i64 xs.length), (13, .i .i64 xs.length), (14, .b false)] [] T) ->
  AW prog q2k R [(0, .fz xs.length (xs.flatMap ql6) c1), (1, .fz ys.length (ys.flatMap ql6) c2), (12, .i .i64 xs.length), (13, .i .i64 k)] [] T := by
 intro us
 induction us with
 | nil =>
  intro vs k hk hv hle h1 h2
  have hk' := Y0 hk hle
  have hvs : vs = [] := by rw [<- hv]; exact List.drop_eq_nil_iff.2 (by omega)
  subst hvs
  refine V1 hR ?_
  unfold q24
  simp -implicitDefEqProofs -dsimp only [go_sem, seval, hk', Int.lt_irrefl]
  rw [hk'] at h2
  exact h2 rfl
 | cons x us ih =>
  intro vs k hk hv hle h1 h2
  obtain ⟨hlt, hx, hk'⟩ := Y9 hk
  obtain ⟨y, vs, rfl⟩ : ∃ y w, vs = y :: w := by
   cases vs with
   | nil => have := List.drop_eq_nil_iff.1 hv; omega
   | cons y w => exact ⟨y, w, rfl⟩
  obtain ⟨hlt2, hy, hv'⟩ := Y9 hv
  have cl : ∀ c : Bool, (ql6 c).length = 1 := fun _ => rfl
  have ea := q0b cl hx
  have eb := q0b cl hy
  rw [Nat.mul_one] at ea eb
  have e5 : k * 1 + 1 <= (xs.flatMap ql6).length := by rw [Q6 cl]; omega
  have e6 : k * 1 + 1 <= (ys.flatMap ql6).length := by rw [Q6 cl]; omega
  unfold Len at hl
  have hs : IntKind.i64.wrap ((k : Int) + 1) = ((k + 1 : Nat) : Int) := Q0 (by omega)
  simp only [eqL] at h1 h2
  refine Q3 (l := q2k) rfl hR ?_
  unfold q24
  simp -implicitDefEqProofs -dsimp only [go_sem, seval, Int.ofNat_lt, hlt, hlt2, Int.natCast_nonneg, Int.toNat_natCast, ea, eb, e5, e6, ql6, List.cons_append, List.nil_append, q05, U1]
  refine K0 (fun h => ?_) (fun h => ?_)
  ·have he : qom x y = false := by simp [qom] at h ⊢; grind
   simp -implicitDefEqProofs -dsimp only [go_sem, seval]
   exact h1 (by rw [he]; rfl)
  ·have he : qom x y = true := by simp [qom] at h ⊢; grind
   rw [he, Bool.true_and] at h1 h2
   simp -implicitDefEqProofs -dsimp only [go_sem, seval, hs]
   exact ih vs (k + 1) hk' hv' hlt h1 h2
theorem qvy (xs ys : List Bool) (c1 c2 : Option Nat) (hl : Len xs.length) : PCalls prog q0e [.fz xs.length (xs.flatMap ql6) c1, .fz ys.length (ys.flatMap ql6) c2] (.b (eqL qom xs ys)) := by
 refine K5 Q9 qa5 (by simp) fun T => ?_
 unfold q64
 simp -implicitDefEqProofs -dsimp only [go_sem, seval]
 refine K0 (fun h => ?_) (fun h => ?_)
 ·have hne : xs.length ≠ ys.length := by simp at h; omega
  simp -implicitDefEqProofs -dsimp only [go_sem, seval]
  refine J9 ?_
  rw [qip _ hne]
 ·have heq : xs.length = ys.length := by simp at h; omega
  simp -implicitDefEqProofs -dsimp only [go_sem, seval]
  refine qvx (by repeat' (first | exact O7 _ _ | assumption | apply O6 | apply N6 | apply Y1)) hl heq xs ys 0 rfl rfl (Nat.zero_le _) (fun h => ?_) (fun h => ?_) <;> simp -implicitDefEqProofs -dsimp only [go_sem, seval] <;> refine J9 ?_ <;> rw [h]
end Go.Aw
