import Derived.Test.YteiamcnjlpbihaaGreatDoorN17M17B
namespace Go.Aw
open Go
open Go.Proofs.Tryz (prog)
set_option linter.all false
set_option maxHeartbeats 4000000
def eqL {α : Type} (e : α -> α -> Bool) : List α -> List α -> Bool
 | [], [] => true
 | x :: xs, y :: ys => e x y && eqL e xs ys
 | _, _ => false
theorem qps {α : Type} (e : α -> α -> Bool) : ∀ {xs ys : List α}, xs.length ≠ ys.length -> eqL e xs ys = false
 | [], [], h => (h rfl).elim
 | [], _ :: _, _ => rfl
 | _ :: _, [], _ => rfl
 | x :: xs, y :: ys, h => by
  simp only [eqL]
  rw [qps e (fun k => h (by simp [k])), Bool.and_false]
theorem qe4 {α : Type} {e : α -> α -> Bool} (h : ∀ x, e x x = true) : ∀ xs : List α, eqL e xs xs = true
 | [] => rfl
 | x :: xs => by simp only [eqL, h x, qe4 h xs, Bool.true_and]
theorem q3p {α : Type} (e : α -> α -> Bool) (xs : List α) : eqL e xs [] = decide (xs.length = 0) := by cases xs <;> rfl
def vtE (x y : Vt) : Bool := decide (x.sl = y.sl) && decide (x.rd = y.rd) && decide (x.nd = y.nd) && decide (x.v = y.v)
def rdE (x y : Rd) : Bool := decide (x.k = y.k) && decide (x.n = y.n)
def wtE (x y : Wt) : Bool := decide (x.k = y.k) && decide (x.v = y.v) && decide (x.g = y.g)
def z5z (x y : Int) : Bool := decide (x = y)
def qs4 (x y : Bool) : Bool := decide (x = y)
def z60 (x : Int) : List AV := [.i .i64 x]
def qs5 (x : Bool) : List AV := [.b x]
theorem qop {R : Z1} (hR : ExtR R) {T : Tab} {xs ys : List Vt} {c1 c2 : Option Nat} (hl : Len xs.length) (hlen : xs.length = ys.length) : ∀ (us vs : List Vt) (k : Nat), xs.drop k = us -> ys.drop k = vs -> k <= xs.length ->
  (eqL vtE us vs = false -> R .ret [(4, .b false)] [] T) ->
  (eqL vtE us vs = true -> R (.exit 0) [(0, .fz xs.length (xs.flatMap vtC) c1), (1, .fz ys.length (ys.flatMap vtC) c2), (12, .i .i64 xs.length), (13, .i .i64 xs.length), (14, .b false)] [] T) ->
  AW prog q0o R [(0, .fz xs.length (xs.flatMap vtC) c1), (1, .fz ys.length (ys.flatMap vtC) c2), (12, .i .i64 xs.length), (13, .i .i64 k)] [] T := by
 intro us
 induction us with
 | nil =>
  intro vs k hk hv hle h1 h2
  have hk' := Q7 hk hle
  have hvs : vs = [] := by rw [<- hv]; exact List.drop_eq_nil_iff.2 (by omega)
  subst hvs
  refine Q5 hR ?_
  unfold q0j
  simp -implicitDefEqProofs -dsimp only [go_sem, seval, hk', Int.lt_irrefl]
  rw [hk'] at h2
  exact h2 rfl
 | cons x us ih =>
  intro vs k hk hv hle h1 h2
  obtain ⟨hlt, hx, hk'⟩ := U6 hk
  obtain ⟨y, vs, rfl⟩ : ∃ y w, vs = y :: w := by
   cases vs with
   | nil => have := List.drop_eq_nil_iff.1 hv; omega
   | cons y w => exact ⟨y, w, rfl⟩
  obtain ⟨hlt2, hy, hv'⟩ := U6 hv
  have cl : ∀ c : Vt, (vtC c).length = 4 := fun _ => rfl
  have ea := Z5 cl hx
  have eb := Z5 cl hy
  have e5 : k * 4 + 4 <= (xs.flatMap vtC).length := by rw [O1 cl]; omega
  have e6 : k * 4 + 4 <= (ys.flatMap vtC).length := by rw [O1 cl]; omega
  unfold Len at hl
  have hs : IntKind.i64.wrap ((k : Int) + 1) = ((k + 1 : Nat) : Int) := N4 (by omega)
  simp only [eqL] at h1 h2
  refine O0 (l := q0o) rfl hR ?_
  unfold q0j
  simp -implicitDefEqProofs -dsimp only [go_sem, seval, Int.ofNat_lt, hlt, hlt2, Int.natCast_nonneg, Int.toNat_natCast, ea, eb, e5, e6, vtC, List.cons_append, List.nil_append, Z4, O2]
  refine J2 (fun h => ?_) (fun h => ?_)
  ·have he : vtE x y = false := by simp [vtE] at h ⊢; grind
   simp -implicitDefEqProofs -dsimp only [go_sem, seval]
   exact h1 (by rw [he]; rfl)
  ·have he : vtE x y = true := by simp [vtE] at h ⊢; grind
   rw [he, Bool.true_and] at h1 h2
   simp -implicitDefEqProofs -dsimp only [go_sem, seval, hs]
   exact ih vs (k + 1) hk' hv' hlt h1 h2
theorem Q9 (xs ys : List Vt) (c1 c2 : Option Nat) (hl : Len xs.length) : PCalls prog I1 [.fz xs.length (xs.flatMap vtC) c1, .fz ys.length (ys.flatMap vtC) c2] (.b (eqL vtE xs ys)) := by
 refine K7 U3 q7z (by simp) fun T => ?_
 unfold q2p
 simp -implicitDefEqProofs -dsimp only [go_sem, seval]
 refine J2 (fun h => ?_) (fun h => ?_)
 ·have hne : xs.length ≠ ys.length := by simp at h; omega
  simp -implicitDefEqProofs -dsimp only [go_sem, seval]
  refine J9 ?_
  rw [qps _ hne]
 ·have heq : xs.length = ys.length := by simp at h; omega
  simp -implicitDefEqProofs -dsimp only [go_sem, seval]
  refine qop (by repeat' (first | exact N2 _ _ | assumption | apply N1 | apply K9 | apply Q3)) hl heq xs ys 0 rfl rfl (Nat.zero_le _) (fun h => ?_) (fun h => ?_) <;> simp -implicitDefEqProofs -dsimp only [go_sem, seval] <;> refine J9 ?_ <;> rw [h]
theorem qq8 {R : Z1} (hR : ExtR R) {T : Tab} {xs ys : List Rd} {c1 c2 : Option Nat} (hl : Len xs.length) (hlen : xs.length = ys.length) : ∀ (us vs : List Rd) (k : Nat), xs.drop k = us -> ys.drop k = vs -> k <= xs.length ->
  (eqL rdE us vs = false -> R .ret [(4, .b false)] [] T) ->
  (eqL rdE us vs = true -> R (.exit 0) [(0, .fz xs.length (xs.flatMap rdC) c1), (1, .fz ys.length (ys.flatMap rdC) c2), (12, .i .i64 xs.length), (13, .i .i64 xs.length), (14, .b false)] [] T) ->
  AW prog q0z R [(0, .fz xs.length (xs.flatMap rdC) c1), (1, .fz ys.length (ys.flatMap rdC) c2), (12, .i .i64 xs.length), (13, .i .i64 k)] [] T := by
 intro us
 induction us with
 | nil =>
  intro vs k hk hv hle h1 h2
  have hk' := Q7 hk hle
  have hvs : vs = [] := by rw [<- hv]; exact List.drop_eq_nil_iff.2 (by omega)
  subst hvs
  refine Q5 hR ?_
  unfold q0t
  simp -implicitDefEqProofs -dsimp only [go_sem, seval, hk', Int.lt_irrefl]
  rw [hk'] at h2
  exact h2 rfl
 | cons x us ih =>
  intro vs k hk hv hle h1 h2
  obtain ⟨hlt, hx, hk'⟩ := U6 hk
  obtain ⟨y, vs, rfl⟩ : ∃ y w, vs = y :: w := by
   cases vs with
   | nil => have := List.drop_eq_nil_iff.1 hv; omega
   | cons y w => exact ⟨y, w, rfl⟩
  obtain ⟨hlt2, hy, hv'⟩ := U6 hv
  have cl : ∀ c : Rd, (rdC c).length = 2 := fun _ => rfl
  have ea := Z5 cl hx
  have eb := Z5 cl hy
  have e5 : k * 2 + 2 <= (xs.flatMap rdC).length := by rw [O1 cl]; omega
  have e6 : k * 2 + 2 <= (ys.flatMap rdC).length := by rw [O1 cl]; omega
  unfold Len at hl
  have hs : IntKind.i64.wrap ((k : Int) + 1) = ((k + 1 : Nat) : Int) := N4 (by omega)
  simp only [eqL] at h1 h2
  refine O0 (l := q0z) rfl hR ?_
  unfold q0t
  simp -implicitDefEqProofs -dsimp only [go_sem, seval, Int.ofNat_lt, hlt, hlt2, Int.natCast_nonneg, Int.toNat_natCast, ea, eb, e5, e6, rdC, List.cons_append, List.nil_append, Z4, O2]
  refine J2 (fun h => ?_) (fun h => ?_)
  ·have he : rdE x y = false := by simp [rdE] at h ⊢; grind
   simp -implicitDefEqProofs -dsimp only [go_sem, seval]
   exact h1 (by rw [he]; rfl)
  ·have he : rdE x y = true := by simp [rdE] at h ⊢; grind
   rw [he, Bool.true_and] at h1 h2
   simp -implicitDefEqProofs -dsimp only [go_sem, seval, hs]
   exact ih vs (k + 1) hk' hv' hlt h1 h2
theorem q0f (xs ys : List Rd) (c1 c2 : Option Nat) (hl : Len xs.length) : PCalls prog I9 [.fz xs.length (xs.flatMap rdC) c1, .fz ys.length (ys.flatMap rdC) c2] (.b (eqL rdE xs ys)) := by
 refine K7 U3 q8s (by simp) fun T => ?_
 unfold q3b
 simp -implicitDefEqProofs -dsimp only [go_sem, seval]
 refine J2 (fun h => ?_) (fun h => ?_)
 ·have hne : xs.length ≠ ys.length := by simp at h; omega
  simp -implicitDefEqProofs -dsimp only [go_sem, seval]
  refine J9 ?_
  rw [qps _ hne]
 ·have heq : xs.length = ys.length := by simp at h; omega
  simp -implicitDefEqProofs -dsimp only [go_sem, seval]
  refine qq8 (by repeat' (first | exact N2 _ _ | assumption | apply N1 | apply K9 | apply Q3)) hl heq xs ys 0 rfl rfl (Nat.zero_le _) (fun h => ?_) (fun h => ?_) <;> simp -implicitDefEqProofs -dsimp only [go_sem, seval] <;> refine J9 ?_ <;> rw [h]
theorem qoq {R : Z1} (hR : ExtR R) {T : Tab} {xs ys : List Wt} {c1 c2 : Option Nat} (hl : Len xs.length) (hlen : xs.length = ys.length) : ∀ (us vs : List Wt) (k : Nat), xs.drop k = us -> ys.drop k = vs -> k <= xs.length ->
  (eqL wtE us vs = false -> R .ret [(4, .b false)] [] T) ->
  (eqL wtE us vs = true -> R (.exit 0) [(0, .fz xs.length (xs.flatMap wtC) c1), (1, .fz ys.length (ys.flatMap wtC) c2), (12, .i .i64 xs.length), (13, .i .i64 xs.length), (14, .b false)] [] T) ->
  AW prog q0p R [(0, .fz xs.length (xs.flatMap wtC) c1), (1, .fz ys.length (ys.flatMap wtC) c2), (12, .i .i64 xs.length), (13, .i .i64 k)] [] T := by
 intro us
 induction us with
 | nil =>
  intro vs k hk hv hle h1 h2
  have hk' := Q7 hk hle
  have hvs : vs = [] := by rw [<- hv]; exact List.drop_eq_nil_iff.2 (by omega)
  subst hvs
  refine Q5 hR ?_
  unfold q0k
  simp -implicitDefEqProofs -dsimp only [go_sem, seval, hk', Int.lt_irrefl]
  rw [hk'] at h2
  exact h2 rfl
 | cons x us ih =>
  intro vs k hk hv hle h1 h2
  obtain ⟨hlt, hx, hk'⟩ := U6 hk
  obtain ⟨y, vs, rfl⟩ : ∃ y w, vs = y :: w := by
   cases vs with
   | nil => have := List.drop_eq_nil_iff.1 hv; omega
   | cons y w => exact ⟨y, w, rfl⟩
  obtain ⟨hlt2, hy, hv'⟩ := U6 hv
  have cl : ∀ c : Wt, (wtC c).length = 3 := fun _ => rfl
  have ea := Z5 cl hx
  have eb := Z5 cl hy
  have e5 : k * 3 + 3 <= (xs.flatMap wtC).length := by rw [O1 cl]; omega
  have e6 : k * 3 + 3 <= (ys.flatMap wtC).length := by rw [O1 cl]; omega
  unfold Len at hl
  have hs : IntKind.i64.wrap ((k : Int) + 1) = ((k + 1 : Nat) : Int) := N4 (by omega)
  simp only [eqL] at h1 h2
  refine O0 (l := q0p) rfl hR ?_
  unfold q0k
  simp -implicitDefEqProofs -dsimp only [go_sem, seval, Int.ofNat_lt, hlt, hlt2, Int.natCast_nonneg, Int.toNat_natCast, ea, eb, e5, e6, wtC, List.cons_append, List.nil_append, Z4, O2]
  refine J2 (fun h => ?_) (fun h => ?_)
  ·have he : wtE x y = false := by simp [wtE] at h ⊢; grind
   simp -implicitDefEqProofs -dsimp only [go_sem, seval]
   exact h1 (by rw [he]; rfl)
  ·have he : wtE x y = true := by simp [wtE] at h ⊢; grind
   rw [he, Bool.true_and] at h1 h2
   simp -implicitDefEqProofs -dsimp only [go_sem, seval, hs]
   exact ih vs (k + 1) hk' hv' hlt h1 h2
theorem I8 (xs ys : List Wt) (c1 c2 : Option Nat) (hl : Len xs.length) : PCalls prog I2 [.fz xs.length (xs.flatMap wtC) c1, .fz ys.length (ys.flatMap wtC) c2] (.b (eqL wtE xs ys)) := by
 refine K7 U3 q81 (by simp) fun T => ?_
 unfold q2r
 simp -implicitDefEqProofs -dsimp only [go_sem, seval]
 refine J2 (fun h => ?_) (fun h => ?_)
 ·have hne : xs.length ≠ ys.length := by simp at h; omega
  simp -implicitDefEqProofs -dsimp only [go_sem, seval]
  refine J9 ?_
  rw [qps _ hne]
 ·have heq : xs.length = ys.length := by simp at h; omega
  simp -implicitDefEqProofs -dsimp only [go_sem, seval]
  refine qoq (by repeat' (first | exact N2 _ _ | assumption | apply N1 | apply K9 | apply Q3)) hl heq xs ys 0 rfl rfl (Nat.zero_le _) (fun h => ?_) (fun h => ?_) <;> simp -implicitDefEqProofs -dsimp only [go_sem, seval] <;> refine J9 ?_ <;> rw [h]
theorem z61 {R : Z1} (hR : ExtR R) {T : Tab} {xs ys : List Int} {c1 c2 : Option Nat} (hl : Len xs.length) (hlen : xs.length = ys.length) : ∀ (us vs : List Int) (k : Nat), xs.drop k = us -> ys.drop k = vs -> k <= xs.length ->
  (eqL z5z us vs = false -> R .ret [(4, .b false)] [] T) ->
  (eqL z5z us vs = true -> R (.exit 0) [(0, .fz xs.length (xs.flatMap z60) c1), (1, .fz ys.length (ys.flatMap z60) c2), (12, .i .i64 xs.length), (13, .i .i64 xs.length), (14, .b false)] [] T) ->
  AW prog q5z R [(0, .fz xs.length (xs.flatMap z60) c1), (1, .fz ys.length (ys.flatMap z60) c2), (12, .i .i64 xs.length), (13, .i .i64 k)] [] T := by
 intro us
 induction us with
 | nil =>
  intro vs k hk hv hle h1 h2
  have hk' := Q7 hk hle
  have hvs : vs = [] := by rw [<- hv]; exact List.drop_eq_nil_iff.2 (by omega)
  subst hvs
  refine Q5 hR ?_
  unfold q5c
  simp -implicitDefEqProofs -dsimp only [go_sem, seval, hk', Int.lt_irrefl]
  rw [hk'] at h2
  exact h2 rfl
 | cons x us ih =>
  intro vs k hk hv hle h1 h2
  obtain ⟨hlt, hx, hk'⟩ := U6 hk
  obtain ⟨y, vs, rfl⟩ : ∃ y w, vs = y :: w := by
   cases vs with
   | nil => have := List.drop_eq_nil_iff.1 hv; omega
   | cons y w => exact ⟨y, w, rfl⟩
  obtain ⟨hlt2, hy, hv'⟩ := U6 hv
  have cl : ∀ c : Int, (z60 c).length = 1 := fun _ => rfl
  have ea := Z5 cl hx
  have eb := Z5 cl hy
  rw [Nat.mul_one] at ea eb
  have e5 : k * 1 + 1 <= (xs.flatMap z60).length := by rw [O1 cl]; omega
  have e6 : k * 1 + 1 <= (ys.flatMap z60).length := by rw [O1 cl]; omega
  unfold Len at hl
  have hs : IntKind.i64.wrap ((k : Int) + 1) = ((k + 1 : Nat) : Int) := N4 (by omega)
  simp only [eqL] at h1 h2
  refine O0 (l := q5z) rfl hR ?_
  unfold q5c
  simp -implicitDefEqProofs -dsimp only [go_sem, seval, Int.ofNat_lt, hlt, hlt2, Int.natCast_nonneg, Int.toNat_natCast, ea, eb, e5, e6, z60, List.cons_append, List.nil_append, Z4, O2]
  refine J2 (fun h => ?_) (fun h => ?_)
  ·have he : z5z x y = false := by simp [z5z] at h ⊢; grind
   simp -implicitDefEqProofs -dsimp only [go_sem, seval]
   exact h1 (by rw [he]; rfl)
  ·have he : z5z x y = true := by simp [z5z] at h ⊢; grind
   rw [he, Bool.true_and] at h1 h2
   simp -implicitDefEqProofs -dsimp only [go_sem, seval, hs]
   exact ih vs (k + 1) hk' hv' hlt h1 h2
theorem z62 (xs ys : List Int) (c1 c2 : Option Nat) (hl : Len xs.length) : PCalls prog q1z [.fz xs.length (xs.flatMap z60) c1, .fz ys.length (ys.flatMap z60) c2] (.b (eqL z5z xs ys)) := by
 refine K7 U3 qh9 (by simp) fun T => ?_
 unfold qat
 simp -implicitDefEqProofs -dsimp only [go_sem, seval]
 refine J2 (fun h => ?_) (fun h => ?_)
 ·have hne : xs.length ≠ ys.length := by simp at h; omega
  simp -implicitDefEqProofs -dsimp only [go_sem, seval]
  refine J9 ?_
  rw [qps _ hne]
 ·have heq : xs.length = ys.length := by simp at h; omega
  simp -implicitDefEqProofs -dsimp only [go_sem, seval]
  refine z61 (by repeat' (first | exact N2 _ _ | assumption | apply N1 | apply K9 | apply Q3)) hl heq xs ys 0 rfl rfl (Nat.zero_le _) (fun h => ?_) (fun h => ?_) <;> simp -implicitDefEqProofs -dsimp only [go_sem, seval] <;> refine J9 ?_ <;> rw [h]
theorem z3e {R : Z1} (hR : ExtR R) {T : Tab} {xs ys : List Bool} {c1 c2 : Option Nat} (hl : Len xs.length) (hlen : xs.length = ys.length) : ∀ (us vs : List Bool) (k : Nat), xs.drop k = us -> ys.drop k = vs -> k <= xs.length ->
  (eqL qs4 us vs = false -> R .ret [(4, .b false)] [] T) ->
  (eqL qs4 us vs = true -> R (.exit 0) [(0, .fz xs.length (xs.flatMap qs5) c1), (1, .fz ys.length (ys.flatMap qs5) c2), (12, .i .i64 xs.length), (13, .i .i64 xs.length), (14, .b false)] [] T) ->
  AW prog q4h R [(0, .fz xs.length (xs.flatMap qs5) c1), (1, .fz ys.length (ys.flatMap qs5) c2), (12, .i .i64 xs.length), (13, .i .i64 k)] [] T := by
 intro us
 induction us with
 | nil =>
  intro vs k hk hv hle h1 h2
  have hk' := Q7 hk hle
  have hvs : vs = [] := by rw [<- hv]; exact List.drop_eq_nil_iff.2 (by omega)
  subst hvs
  refine Q5 hR ?_
  unfold q3k
  simp -implicitDefEqProofs -dsimp only [go_sem, seval, hk', Int.lt_irrefl]
  rw [hk'] at h2
  exact h2 rfl
 | cons x us ih =>
  intro vs k hk hv hle h1 h2
  obtain ⟨hlt, hx, hk'⟩ := U6 hk
  obtain ⟨y, vs, rfl⟩ : ∃ y w, vs = y :: w := by
   cases vs with
   | nil => have := List.drop_eq_nil_iff.1 hv; omega
   | cons y w => exact ⟨y, w, rfl⟩
  obtain ⟨hlt2, hy, hv'⟩ := U6 hv
  have cl : ∀ c : Bool, (qs5 c).length = 1 := fun _ => rfl
  have ea := Z5 cl hx
  have eb := Z5 cl hy
  rw [Nat.mul_one] at ea eb
  have e5 : k * 1 + 1 <= (xs.flatMap qs5).length := by rw [O1 cl]; omega
  have e6 : k * 1 + 1 <= (ys.flatMap qs5).length := by rw [O1 cl]; omega
  unfold Len at hl
  have hs : IntKind.i64.wrap ((k : Int) + 1) = ((k + 1 : Nat) : Int) := N4 (by omega)
  simp only [eqL] at h1 h2
  refine O0 (l := q4h) rfl hR ?_
  unfold q3k
  simp -implicitDefEqProofs -dsimp only [go_sem, seval, Int.ofNat_lt, hlt, hlt2, Int.natCast_nonneg, Int.toNat_natCast, ea, eb, e5, e6, qs5, List.cons_append, List.nil_append, Z4, O2]
  refine J2 (fun h => ?_) (fun h => ?_)
  ·have he : qs4 x y = false := by simp [qs4] at h ⊢; grind
   simp -implicitDefEqProofs -dsimp only [go_sem, seval]
   exact h1 (by rw [he]; rfl)
  ·have he : qs4 x y = true := by simp [qs4] at h ⊢; grind
   rw [he, Bool.true_and] at h1 h2
   simp -implicitDefEqProofs -dsimp only [go_sem, seval, hs]
   exact ih vs (k + 1) hk' hv' hlt h1 h2
theorem z3f (xs ys : List Bool) (c1 c2 : Option Nat) (hl : Len xs.length) : PCalls prog q15 [.fz xs.length (xs.flatMap qs5) c1, .fz ys.length (ys.flatMap qs5) c2] (.b (eqL qs4 xs ys)) := by
 refine K7 U3 qfa (by simp) fun T => ?_
 unfold q9k
 simp -implicitDefEqProofs -dsimp only [go_sem, seval]
 refine J2 (fun h => ?_) (fun h => ?_)
 ·have hne : xs.length ≠ ys.length := by simp at h; omega
  simp -implicitDefEqProofs -dsimp only [go_sem, seval]
  refine J9 ?_
  rw [qps _ hne]
 ·have heq : xs.length = ys.length := by simp at h; omega
  simp -implicitDefEqProofs -dsimp only [go_sem, seval]
  refine z3e (by repeat' (first | exact N2 _ _ | assumption | apply N1 | apply K9 | apply Q3)) hl heq xs ys 0 rfl rfl (Nat.zero_le _) (fun h => ?_) (fun h => ?_) <;> simp -implicitDefEqProofs -dsimp only [go_sem, seval] <;> refine J9 ?_ <;> rw [h]
end Go.Aw
