import Derived.Test.YtmicojcojlgefaaK29M17B
namespace Go.Aw
open Go
open Go.Proofs.Try (prog)
set_option linter.all false
set_option maxHeartbeats 4000000
def eqL {α : Type} (e : α -> α -> Bool) : List α -> List α -> Bool
 | [], [] => true
 | x :: xs, y :: ys => e x y && eqL e xs ys
 | _, _ => false
theorem qff {α : Type} (e : α -> α -> Bool) : ∀ {xs ys : List α}, xs.length ≠ ys.length -> eqL e xs ys = false
 | [], [], h => (h rfl).elim
 | [], _ :: _, _ => rfl
 | _ :: _, [], _ => rfl
 | x :: xs, y :: ys, h => by
  simp only [eqL]
  rw [qff e (fun k => h (by simp [k])), Bool.and_false]
def vtE (x y : Vt) : Bool := decide (x.sl = y.sl) && decide (x.rd = y.rd) && decide (x.nd = y.nd) && decide (x.v = y.v)
def rdE (x y : Rd) : Bool := decide (x.k = y.k) && decide (x.n = y.n)
def wtE (x y : Wt) : Bool := decide (x.k = y.k) && decide (x.v = y.v) && decide (x.g = y.g)
def qrz (x y : Int) : Bool := decide (x = y)
def qjq (x y : Bool) : Bool := decide (x = y)
def qqc (x : Int) : List AV := [.i .i64 x]
def qhg (x : Bool) : List AV := [.b x]
theorem qeo {R : I2} (hR : ExtR R) {T : Tab} {xs ys : List Vt} {c1 c2 : Option Nat} (hl : Len xs.length) (hlen : xs.length = ys.length) : ∀ (us vs : List Vt) (k : Nat), xs.drop k = us -> ys.drop k = vs -> k <= xs.length ->
  (eqL vtE us vs = false -> R .ret [(4, .b false)] [] T) ->
  (eqL vtE us vs = true -> R (.exit 0) [(0, .fz xs.length (xs.flatMap vtC) c1), (1, .fz ys.length (ys.flatMap vtC) c2), (12, .i .i64 xs.length), (13, .i .i64 xs.length), (14, .b false)] [] T) ->
  AW prog G0 R [(0, .fz xs.length (xs.flatMap vtC) c1), (1, .fz ys.length (ys.flatMap vtC) c2), (12, .i .i64 xs.length), (13, .i .i64 k)] [] T := by
 intro us
 induction us with
 | nil =>
  intro vs k hk hv hle h1 h2
  have hk' := V0 hk hle
  have hvs : vs = [] := by rw [<- hv]; exact List.drop_eq_nil_iff.2 (by omega)
  subst hvs
  refine V7 hR ?_
  unfold Z7
  simp -implicitDefEqProofs -dsimp only [go_sem, seval, hk', Int.lt_irrefl]
  rw [hk'] at h2
  exact h2 rfl
 | cons x us ih =>
  intro vs k hk hv hle h1 h2
  obtain ⟨hlt, hx, hk'⟩ := V8 hk
  obtain ⟨y, vs, rfl⟩ : ∃ y w, vs = y :: w := by
   cases vs with
   | nil => have := List.drop_eq_nil_iff.1 hv; omega
   | cons y w => exact ⟨y, w, rfl⟩
  obtain ⟨hlt2, hy, hv'⟩ := V8 hv
  have cl : ∀ c : Vt, (vtC c).length = 4 := fun _ => rfl
  have ea := I4 cl hx
  have eb := I4 cl hy
  have e5 : k * 4 + 4 <= (xs.flatMap vtC).length := by rw [O1 cl]; omega
  have e6 : k * 4 + 4 <= (ys.flatMap vtC).length := by rw [O1 cl]; omega
  unfold Len at hl
  have hs : IntKind.i64.wrap ((k : Int) + 1) = ((k + 1 : Nat) : Int) := O7 (by omega)
  simp only [eqL] at h1 h2
  refine Q4 (l := G0) rfl hR ?_
  unfold Z7
  simp -implicitDefEqProofs -dsimp only [go_sem, seval, Int.ofNat_lt, hlt, hlt2, Int.natCast_nonneg, Int.toNat_natCast, ea, eb, e5, e6, vtC, List.cons_append, List.nil_append, Y7, N8]
  refine J7 (fun h => ?_) (fun h => ?_)
  ·have he : vtE x y = false := by simp [vtE] at h ⊢; grind
   simp -implicitDefEqProofs -dsimp only [go_sem, seval]
   exact h1 (by rw [he]; rfl)
  ·have he : vtE x y = true := by simp [vtE] at h ⊢; grind
   rw [he, Bool.true_and] at h1 h2
   simp -implicitDefEqProofs -dsimp only [go_sem, seval, hs]
   exact ih vs (k + 1) hk' hv' hlt h1 h2
theorem N7 (xs ys : List Vt) (c1 c2 : Option Nat) (hl : Len xs.length) : PCalls prog V1 [.fz xs.length (xs.flatMap vtC) c1, .fz ys.length (ys.flatMap vtC) c2] (.b (eqL vtE xs ys)) := by
 refine K4 U6 q45 (by simp) fun T => ?_
 unfold q0s
 simp -implicitDefEqProofs -dsimp only [go_sem, seval]
 refine J7 (fun h => ?_) (fun h => ?_)
 ·have hne : xs.length ≠ ys.length := by simp at h; omega
  simp -implicitDefEqProofs -dsimp only [go_sem, seval]
  refine K2 ?_
  rw [qff _ hne]
 ·have heq : xs.length = ys.length := by simp at h; omega
  simp -implicitDefEqProofs -dsimp only [go_sem, seval]
  refine qeo (by repeat' (first | exact O9 _ _ | assumption | apply O8 | apply N9 | apply Z5)) hl heq xs ys 0 rfl rfl (Nat.zero_le _) (fun h => ?_) (fun h => ?_) <;> simp -implicitDefEqProofs -dsimp only [go_sem, seval] <;> refine K2 ?_ <;> rw [h]
theorem qfz {R : I2} (hR : ExtR R) {T : Tab} {xs ys : List Rd} {c1 c2 : Option Nat} (hl : Len xs.length) (hlen : xs.length = ys.length) : ∀ (us vs : List Rd) (k : Nat), xs.drop k = us -> ys.drop k = vs -> k <= xs.length ->
  (eqL rdE us vs = false -> R .ret [(4, .b false)] [] T) ->
  (eqL rdE us vs = true -> R (.exit 0) [(0, .fz xs.length (xs.flatMap rdC) c1), (1, .fz ys.length (ys.flatMap rdC) c2), (12, .i .i64 xs.length), (13, .i .i64 xs.length), (14, .b false)] [] T) ->
  AW prog G8 R [(0, .fz xs.length (xs.flatMap rdC) c1), (1, .fz ys.length (ys.flatMap rdC) c2), (12, .i .i64 xs.length), (13, .i .i64 k)] [] T := by
 intro us
 induction us with
 | nil =>
  intro vs k hk hv hle h1 h2
  have hk' := V0 hk hle
  have hvs : vs = [] := by rw [<- hv]; exact List.drop_eq_nil_iff.2 (by omega)
  subst hvs
  refine V7 hR ?_
  unfold G4
  simp -implicitDefEqProofs -dsimp only [go_sem, seval, hk', Int.lt_irrefl]
  rw [hk'] at h2
  exact h2 rfl
 | cons x us ih =>
  intro vs k hk hv hle h1 h2
  obtain ⟨hlt, hx, hk'⟩ := V8 hk
  obtain ⟨y, vs, rfl⟩ : ∃ y w, vs = y :: w := by
   cases vs with
   | nil => have := List.drop_eq_nil_iff.1 hv; omega
   | cons y w => exact ⟨y, w, rfl⟩
  obtain ⟨hlt2, hy, hv'⟩ := V8 hv
  have cl : ∀ c : Rd, (rdC c).length = 2 := fun _ => rfl
  have ea := I4 cl hx
  have eb := I4 cl hy
  have e5 : k * 2 + 2 <= (xs.flatMap rdC).length := by rw [O1 cl]; omega
  have e6 : k * 2 + 2 <= (ys.flatMap rdC).length := by rw [O1 cl]; omega
  unfold Len at hl
  have hs : IntKind.i64.wrap ((k : Int) + 1) = ((k + 1 : Nat) : Int) := O7 (by omega)
  simp only [eqL] at h1 h2
  refine Q4 (l := G8) rfl hR ?_
  unfold G4
  simp -implicitDefEqProofs -dsimp only [go_sem, seval, Int.ofNat_lt, hlt, hlt2, Int.natCast_nonneg, Int.toNat_natCast, ea, eb, e5, e6, rdC, List.cons_append, List.nil_append, Y7, N8]
  refine J7 (fun h => ?_) (fun h => ?_)
  ·have he : rdE x y = false := by simp [rdE] at h ⊢; grind
   simp -implicitDefEqProofs -dsimp only [go_sem, seval]
   exact h1 (by rw [he]; rfl)
  ·have he : rdE x y = true := by simp [rdE] at h ⊢; grind
   rw [he, Bool.true_and] at h1 h2
   simp -implicitDefEqProofs -dsimp only [go_sem, seval, hs]
   exact ih vs (k + 1) hk' hv' hlt h1 h2
theorem Z4 (xs ys : List Rd) (c1 c2 : Option Nat) (hl : Len xs.length) : PCalls prog Y1 [.fz xs.length (xs.flatMap rdC) c1, .fz ys.length (ys.flatMap rdC) c2] (.b (eqL rdE xs ys)) := by
 refine K4 U6 q4o (by simp) fun T => ?_
 unfold q1c
 simp -implicitDefEqProofs -dsimp only [go_sem, seval]
 refine J7 (fun h => ?_) (fun h => ?_)
 ·have hne : xs.length ≠ ys.length := by simp at h; omega
  simp -implicitDefEqProofs -dsimp only [go_sem, seval]
  refine K2 ?_
  rw [qff _ hne]
 ·have heq : xs.length = ys.length := by simp at h; omega
  simp -implicitDefEqProofs -dsimp only [go_sem, seval]
  refine qfz (by repeat' (first | exact O9 _ _ | assumption | apply O8 | apply N9 | apply Z5)) hl heq xs ys 0 rfl rfl (Nat.zero_le _) (fun h => ?_) (fun h => ?_) <;> simp -implicitDefEqProofs -dsimp only [go_sem, seval] <;> refine K2 ?_ <;> rw [h]
theorem qep {R : I2} (hR : ExtR R) {T : Tab} {xs ys : List Wt} {c1 c2 : Option Nat} (hl : Len xs.length) (hlen : xs.length = ys.length) : ∀ (us vs : List Wt) (k : Nat), xs.drop k = us -> ys.drop k = vs -> k <= xs.length ->
  (eqL wtE us vs = false -> R .ret [(4, .b false)] [] T) ->
  (eqL wtE us vs = true -> R (.exit 0) [(0, .fz xs.length (xs.flatMap wtC) c1), (1, .fz ys.length (ys.flatMap wtC) c2), (12, .i .i64 xs.length), (13, .i .i64 xs.length), (14, .b false)] [] T) ->
  AW prog G1 R [(0, .fz xs.length (xs.flatMap wtC) c1), (1, .fz ys.length (ys.flatMap wtC) c2), (12, .i .i64 xs.length), (13, .i .i64 k)] [] T := by
 intro us
 induction us with
 | nil =>
  intro vs k hk hv hle h1 h2
  have hk' := V0 hk hle
  have hvs : vs = [] := by rw [<- hv]; exact List.drop_eq_nil_iff.2 (by omega)
  subst hvs
  refine V7 hR ?_
  unfold Z8
  simp -implicitDefEqProofs -dsimp only [go_sem, seval, hk', Int.lt_irrefl]
  rw [hk'] at h2
  exact h2 rfl
 | cons x us ih =>
  intro vs k hk hv hle h1 h2
  obtain ⟨hlt, hx, hk'⟩ := V8 hk
  obtain ⟨y, vs, rfl⟩ : ∃ y w, vs = y :: w := by
   cases vs with
   | nil => have := List.drop_eq_nil_iff.1 hv; omega
   | cons y w => exact ⟨y, w, rfl⟩
  obtain ⟨hlt2, hy, hv'⟩ := V8 hv
  have cl : ∀ c : Wt, (wtC c).length = 3 := fun _ => rfl
  have ea := I4 cl hx
  have eb := I4 cl hy
  have e5 : k * 3 + 3 <= (xs.flatMap wtC).length := by rw [O1 cl]; omega
  have e6 : k * 3 + 3 <= (ys.flatMap wtC).length := by rw [O1 cl]; omega
  unfold Len at hl
  have hs : IntKind.i64.wrap ((k : Int) + 1) = ((k + 1 : Nat) : Int) := O7 (by omega)
  simp only [eqL] at h1 h2
  refine Q4 (l := G1) rfl hR ?_
  unfold Z8
  simp -implicitDefEqProofs -dsimp only [go_sem, seval, Int.ofNat_lt, hlt, hlt2, Int.natCast_nonneg, Int.toNat_natCast, ea, eb, e5, e6, wtC, List.cons_append, List.nil_append, Y7, N8]
  refine J7 (fun h => ?_) (fun h => ?_)
  ·have he : wtE x y = false := by simp [wtE] at h ⊢; grind
   simp -implicitDefEqProofs -dsimp only [go_sem, seval]
   exact h1 (by rw [he]; rfl)
  ·have he : wtE x y = true := by simp [wtE] at h ⊢; grind
   rw [he, Bool.true_and] at h1 h2
   simp -implicitDefEqProofs -dsimp only [go_sem, seval, hs]
   exact ih vs (k + 1) hk' hv' hlt h1 h2
theorem V9 (xs ys : List Wt) (c1 c2 : Option Nat) (hl : Len xs.length) : PCalls prog V2 [.fz xs.length (xs.flatMap wtC) c1, .fz ys.length (ys.flatMap wtC) c2] (.b (eqL wtE xs ys)) := by
 refine K4 U6 q47 (by simp) fun T => ?_
 unfold q0t
 simp -implicitDefEqProofs -dsimp only [go_sem, seval]
 refine J7 (fun h => ?_) (fun h => ?_)
 ·have hne : xs.length ≠ ys.length := by simp at h; omega
  simp -implicitDefEqProofs -dsimp only [go_sem, seval]
  refine K2 ?_
  rw [qff _ hne]
 ·have heq : xs.length = ys.length := by simp at h; omega
  simp -implicitDefEqProofs -dsimp only [go_sem, seval]
  refine qep (by repeat' (first | exact O9 _ _ | assumption | apply O8 | apply N9 | apply Z5)) hl heq xs ys 0 rfl rfl (Nat.zero_le _) (fun h => ?_) (fun h => ?_) <;> simp -implicitDefEqProofs -dsimp only [go_sem, seval] <;> refine K2 ?_ <;> rw [h]
theorem qqd {R : I2} (hR : ExtR R) {T : Tab} {xs ys : List Int} {c1 c2 : Option Nat} (hl : Len xs.length) (hlen : xs.length = ys.length) : ∀ (us vs : List Int) (k : Nat), xs.drop k = us -> ys.drop k = vs -> k <= xs.length ->
  (eqL qrz us vs = false -> R .ret [(4, .b false)] [] T) ->
  (eqL qrz us vs = true -> R (.exit 0) [(0, .fz xs.length (xs.flatMap qqc) c1), (1, .fz ys.length (ys.flatMap qqc) c2), (12, .i .i64 xs.length), (13, .i .i64 xs.length), (14, .b false)] [] T) ->
  AW prog q30 R [(0, .fz xs.length (xs.flatMap qqc) c1), (1, .fz ys.length (ys.flatMap qqc) c2), (12, .i .i64 xs.length), (13, .i .i64 k)] [] T := by
 intro us
 induction us with
 | nil =>
  intro vs k hk hv hle h1 h2
  have hk' := V0 hk hle
  have hvs : vs = [] := by rw [<- hv]; exact List.drop_eq_nil_iff.2 (by omega)
  subst hvs
  refine V7 hR ?_
  unfold q2i
  simp -implicitDefEqProofs -dsimp only [go_sem, seval, hk', Int.lt_irrefl]
  rw [hk'] at h2
  exact h2 rfl
 | cons x us ih =>
  intro vs k hk hv hle h1 h2
  obtain ⟨hlt, hx, hk'⟩ := V8 hk
  obtain ⟨y, vs, rfl⟩ : ∃ y w, vs = y :: w := by
   cases vs with
   | nil => have := List.drop_eq_nil_iff.1 hv; omega
   | cons y w => exact ⟨y, w, rfl⟩
  obtain ⟨hlt2, hy, hv'⟩ := V8 hv
  have cl : ∀ c : Int, (qqc c).length = 1 := fun _ => rfl
  have ea := I4 cl hx
  have eb := I4 cl hy
  rw [Nat.mul_one] at ea eb
  have e5 : k * 1 + 1 <= (xs.flatMap qqc).length := by rw [O1 cl]; omega
  have e6 : k * 1 + 1 <= (ys.flatMap qqc).length := by rw [O1 cl]; omega
  unfold Len at hl
  have hs : IntKind.i64.wrap ((k : Int) + 1) = ((k + 1 : Nat) : Int) := O7 (by omega)
  simp only [eqL] at h1 h2
  refine Q4 (l := q30) rfl hR ?_
  unfold q2i
  simp -implicitDefEqProofs -dsimp only [go_sem, seval, Int.ofNat_lt, hlt, hlt2, Int.natCast_nonneg, Int.toNat_natCast, ea, eb, e5, e6, qqc, List.cons_append, List.nil_append, Y7, N8]
  refine J7 (fun h => ?_) (fun h => ?_)
  ·have he : qrz x y = false := by simp [qrz] at h ⊢; grind
   simp -implicitDefEqProofs -dsimp only [go_sem, seval]
   exact h1 (by rw [he]; rfl)
  ·have he : qrz x y = true := by simp [qrz] at h ⊢; grind
   rw [he, Bool.true_and] at h1 h2
   simp -implicitDefEqProofs -dsimp only [go_sem, seval, hs]
   exact ih vs (k + 1) hk' hv' hlt h1 h2
theorem qqe (xs ys : List Int) (c1 c2 : Option Nat) (hl : Len xs.length) : PCalls prog q0d [.fz xs.length (xs.flatMap qqc) c1, .fz ys.length (ys.flatMap qqc) c2] (.b (eqL qrz xs ys)) := by
 refine K4 U6 q9z (by simp) fun T => ?_
 unfold q5v
 simp -implicitDefEqProofs -dsimp only [go_sem, seval]
 refine J7 (fun h => ?_) (fun h => ?_)
 ·have hne : xs.length ≠ ys.length := by simp at h; omega
  simp -implicitDefEqProofs -dsimp only [go_sem, seval]
  refine K2 ?_
  rw [qff _ hne]
 ·have heq : xs.length = ys.length := by simp at h; omega
  simp -implicitDefEqProofs -dsimp only [go_sem, seval]
  refine qqd (by repeat' (first | exact O9 _ _ | assumption | apply O8 | apply N9 | apply Z5)) hl heq xs ys 0 rfl rfl (Nat.zero_le _) (fun h => ?_) (fun h => ?_) <;> simp -implicitDefEqProofs -dsimp only [go_sem, seval] <;> refine K2 ?_ <;> rw [h]
theorem qob {R : I2} (hR : ExtR R) {T : Tab} {xs ys : List Bool} {c1 c2 : Option Nat} (hl : Len xs.length) (hlen : xs.length = ys.length) : ∀ (us vs : List Bool) (k : Nat), xs.drop k = us -> ys.drop k = vs -> k <= xs.length ->
  (eqL qjq us vs = false -> R .ret [(4, .b false)] [] T) ->
  (eqL qjq us vs = true -> R (.exit 0) [(0, .fz xs.length (xs.flatMap qhg) c1), (1, .fz ys.length (ys.flatMap qhg) c2), (12, .i .i64 xs.length), (13, .i .i64 xs.length), (14, .b false)] [] T) ->
  AW prog q1x R [(0, .fz xs.length (xs.flatMap qhg) c1), (1, .fz ys.length (ys.flatMap qhg) c2), (12, .i .i64 xs.length), (13, .i .i64 k)] [] T := by
 intro us
 induction us with
 | nil =>
  intro vs k hk hv hle h1 h2
  have hk' := V0 hk hle
  have hvs : vs = [] := by rw [<- hv]; exact List.drop_eq_nil_iff.2 (by omega)
  subst hvs
  refine V7 hR ?_
  unfold q1i
  simp -implicitDefEqProofs -dsimp only [go_sem, seval, hk', Int.lt_irrefl]
  rw [hk'] at h2
  exact h2 rfl
 | cons x us ih =>
  intro vs k hk hv hle h1 h2
  obtain ⟨hlt, hx, hk'⟩ := V8 hk
  obtain ⟨y, vs, rfl⟩ : ∃ y w, vs = y :: w := by
   cases vs with
   | nil => have := List.drop_eq_nil_iff.1 hv; omega
   | cons y w => exact ⟨y, w, rfl⟩
  obtain ⟨hlt2, hy, hv'⟩ := V8 hv
  have cl : ∀ c : Bool, (qhg c).length = 1 := fun _ => rfl
  have ea := I4 cl hx
  have eb := I4 cl hy
  rw [Nat.mul_one] at ea eb
  have e5 : k * 1 + 1 <= (xs.flatMap qhg).length := by rw [O1 cl]; omega
  have e6 : k * 1 + 1 <= (ys.flatMap qhg).length := by rw [O1 cl]; omega
  unfold Len at hl
  have hs : IntKind.i64.wrap ((k : Int) + 1) = ((k + 1 : Nat) : Int) := O7 (by omega)
  simp only [eqL] at h1 h2
  refine Q4 (l := q1x) rfl hR ?_
  unfold q1i
  simp -implicitDefEqProofs -dsimp only [go_sem, seval, Int.ofNat_lt, hlt, hlt2, Int.natCast_nonneg, Int.toNat_natCast, ea, eb, e5, e6, qhg, List.cons_append, List.nil_append, Y7, N8]
  refine J7 (fun h => ?_) (fun h => ?_)
  ·have he : qjq x y = false := by simp [qjq] at h ⊢; grind
   simp -implicitDefEqProofs -dsimp only [go_sem, seval]
   exact h1 (by rw [he]; rfl)
  ·have he : qjq x y = true := by simp [qjq] at h ⊢; grind
   rw [he, Bool.true_and] at h1 h2
   simp -implicitDefEqProofs -dsimp only [go_sem, seval, hs]
   exact ih vs (k + 1) hk' hv' hlt h1 h2
theorem qoc (xs ys : List Bool) (c1 c2 : Option Nat) (hl : Len xs.length) : PCalls prog I7 [.fz xs.length (xs.flatMap qhg) c1, .fz ys.length (ys.flatMap qhg) c2] (.b (eqL qjq xs ys)) := by
 refine K4 U6 q8k (by simp) fun T => ?_
 unfold q58
 simp -implicitDefEqProofs -dsimp only [go_sem, seval]
 refine J7 (fun h => ?_) (fun h => ?_)
 ·have hne : xs.length ≠ ys.length := by simp at h; omega
  simp -implicitDefEqProofs -dsimp only [go_sem, seval]
  refine K2 ?_
  rw [qff _ hne]
 ·have heq : xs.length = ys.length := by simp at h; omega
  simp -implicitDefEqProofs -dsimp only [go_sem, seval]
  refine qob (by repeat' (first | exact O9 _ _ | assumption | apply O8 | apply N9 | apply Z5)) hl heq xs ys 0 rfl rfl (Nat.zero_le _) (fun h => ?_) (fun h => ?_) <;> simp -implicitDefEqProofs -dsimp only [go_sem, seval] <;> refine K2 ?_ <;> rw [h]
end Go.Aw
