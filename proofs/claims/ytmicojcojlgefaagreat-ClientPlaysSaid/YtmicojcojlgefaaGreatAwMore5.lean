import Derived.Test.YtmicojcojlgefaaGreatZ29M17O
import Derived.Test.YtmicojcojlgefaaGreatZ29RK
import Derived.Test.YtmicojcojlgefaaGreatZ29V28X
import Derived.Test.YtmicojcojlgefaaGreatZ29M17B
namespace Go.Aw
open Go
open Go.Proofs.Tryz (prog)
set_option linter.all false
set_option maxHeartbeats 4000000
section
variable {γ : Type} {f : γ -> List AV} (o : Lt γ)
theorem zdw : (o.cells f)[21]? = some (.i .i64 o.cl) := rfl
theorem zdx : (o.cells f)[22]? = some (.i .u64 o.sq) := rfl
attribute [go_sem] zdw zdx
end
theorem qt4 (e : En) (k1 k2 k3 k4 : Option Nat) (hf : e.t.Fine) : PCalls prog q58 [.agg (e.cells k1 k2), .agg (e.cells k3 k4)] (.b true) := by
 refine K5 Q7 qle (by simp) fun T => ?_
 have c := qi5 e.t k1 k2 k3 k4 hf
 simp only [Tx.cells] at c
 unfold qd8
 simp -implicitDefEqProofs -dsimp only [go_sem, seval, En.cells, U2, K6, decide_true, Bool.and_true, ↓N1, U6, true_and, ↓J0 _ _ q67]
 refine cpn c ?_
 simp -implicitDefEqProofs -dsimp only [go_sem, seval]
 exact K1 rfl
end Go.Aw
namespace Go.Aw
open Go
open Go.Proofs.Tryz (prog)
set_option linter.all false
set_option maxHeartbeats 8000000
set_option maxRecDepth 8000
theorem z6n {R : Y5} (hR : ExtR R) {T : Tab} {l : Lt Rf} (hl : l.vs.length <= 1000) (hx : ∀ x ∈ l.vs, VtT x) : ∀ (us : List Vt) (k : Nat), l.vs.drop k = us -> k <= l.vs.length ->
  R (.exit 0) [(2, .lp 2 0), (3, .lp 3 0), (137, .i .i64 l.vs.length), (138, .i .i64 l.vs.length), (139, .b false)] [(2, l.cells rfL), (3, l.cells rfL)] T ->
  AW prog q8g R [(2, .lp 2 0), (3, .lp 3 0), (137, .i .i64 l.vs.length), (138, .i .i64 k)] [(2, l.cells rfL), (3, l.cells rfL)] T := by
 intro us
 induction us with
 | nil =>
  intro k hk hle h2
  have hk' := O9 hk hle
  refine Q2 hR ?_
  unfold q75
  simp -implicitDefEqProofs -dsimp only [go_sem, seval, hk', Int.lt_irrefl]
  rw [hk'] at h2
  exact h2
 | cons y us ih =>
  intro k hk hle h2
  obtain ⟨hlt, hy, hk'⟩ := Q5 hk
  have cl : ∀ c : Vt, (vtC c).length = 4 := fun _ => rfl
  have ea := V0 cl hy
  have e5 : k * 4 + 4 <= (l.vs.flatMap vtC).length := by rw [K8 cl]; omega
  have hs : IntKind.i64.wrap ((k : Int) + 1) = ((k + 1 : Nat) : Int) := K9 (by omega)
  have hok := hx y (List.mem_of_getElem? hy)
  refine O2 (l := q8g) rfl hR ?_
  unfold q75
  simp -implicitDefEqProofs -dsimp only [go_sem, seval, Int.ofNat_lt, hlt, Int.natCast_nonneg, Int.toNat_natCast, ea, e5, vtC, List.cons_append, List.nil_append, q5w, U2, K6, decide_true, Bool.not_true, Bool.and_self]
  simp -implicitDefEqProofs -dsimp only [go_sem, seval, hs, q5w]
  exact ih (k + 1) hk' hlt h2
theorem z6o {R : Y5} (hR : ExtR R) {T : Tab} {l : Lt Rf} (hl : l.cs.length <= 1000) (hx : ∀ x ∈ l.cs, RfL x) : ∀ (us : List Rf) (k : Nat), l.cs.drop k = us -> k <= l.cs.length ->
  R (.exit 2) [(2, .lp 2 0), (3, .lp 3 0), (155, .i .i64 l.cs.length), (156, .i .i64 l.cs.length), (157, .b false)] [(2, l.cells rfL), (3, l.cells rfL)] T ->
  AW prog q8h R [(2, .lp 2 0), (3, .lp 3 0), (155, .i .i64 l.cs.length), (156, .i .i64 k)] [(2, l.cells rfL), (3, l.cells rfL)] T := by
 intro us
 induction us with
 | nil =>
  intro k hk hle h2
  have hk' := O9 hk hle
  refine Q2 hR ?_
  unfold q76
  simp -implicitDefEqProofs -dsimp only [go_sem, seval, hk', Int.lt_irrefl]
  rw [hk'] at h2
  exact h2
 | cons y us ih =>
  intro k hk hle h2
  obtain ⟨hlt, hy, hk'⟩ := Q5 hk
  have cl : ∀ c : Rf, (rfL c).length = 4 := fun _ => rfl
  have ea := V0 cl hy
  have e5 : k * 4 + 4 <= (l.cs.flatMap rfL).length := by rw [K8 cl]; omega
  have hs : IntKind.i64.wrap ((k : Int) + 1) = ((k + 1 : Nat) : Int) := K9 (by omega)
  have hok := hx y (List.mem_of_getElem? hy)
  refine O2 (l := q8h) rfl hR ?_
  unfold q76
  have pc := z68 y none none hok
  simp only [Rf.cells] at pc
  simp -implicitDefEqProofs -dsimp only [go_sem, seval, Int.ofNat_lt, hlt, Int.natCast_nonneg, Int.toNat_natCast, ea, e5, rfL, Rf.cells, List.cons_append, List.nil_append, q5w, ↓J0 _ _ qlc]
  refine cpn pc ?_
  simp -implicitDefEqProofs -dsimp only [go_sem, seval, hs, q5w]
  exact ih (k + 1) hk' hlt h2
theorem z6p {R : Y5} (hR : ExtR R) {T : Tab} {l : Lt Rf} (hl : l.es.length <= 1000) (hx : ∀ x ∈ l.es, EnP x) : ∀ (us : List En) (k : Nat), l.es.drop k = us -> k <= l.es.length ->
  R (.exit 4) [(2, .lp 2 0), (3, .lp 3 0), (174, .i .i64 l.es.length), (175, .i .i64 l.es.length), (176, .b false)] [(2, l.cells rfL), (3, l.cells rfL)] T ->
  AW prog q8i R [(2, .lp 2 0), (3, .lp 3 0), (174, .i .i64 l.es.length), (175, .i .i64 k)] [(2, l.cells rfL), (3, l.cells rfL)] T := by
 intro us
 induction us with
 | nil =>
  intro k hk hle h2
  have hk' := O9 hk hle
  refine Q2 hR ?_
  unfold q77
  simp -implicitDefEqProofs -dsimp only [go_sem, seval, hk', Int.lt_irrefl]
  rw [hk'] at h2
  exact h2
 | cons y us ih =>
  intro k hk hle h2
  obtain ⟨hlt, hy, hk'⟩ := Q5 hk
  have cl : ∀ c : En, (enC c).length = 10 := fun _ => rfl
  have ea := V0 cl hy
  have e5 : k * 10 + 10 <= (l.es.flatMap enC).length := by rw [K8 cl]; omega
  have hs : IntKind.i64.wrap ((k : Int) + 1) = ((k + 1 : Nat) : Int) := K9 (by omega)
  have hok := hx y (List.mem_of_getElem? hy)
  refine O2 (l := q8i) rfl hR ?_
  unfold q77
  have pc := qt4 y none none none none hok.1
  simp only [En.cells] at pc
  simp -implicitDefEqProofs -dsimp only [go_sem, seval, Int.ofNat_lt, hlt, Int.natCast_nonneg, Int.toNat_natCast, ea, e5, enC, En.cells, List.cons_append, List.nil_append, q5w, ↓J0 _ _ qlf]
  refine cpn pc ?_
  simp -implicitDefEqProofs -dsimp only [go_sem, seval, hs, q5w]
  exact ih (k + 1) hk' hlt h2
theorem z1h (l : Lt Rf) (h : l.Ref) (h1 : l.vs.length <= 1000) (h2 : l.cs.length <= 1000) (h3 : l.es.length <= 1000) : PCalls prog q37 [.agg (l.cells rfL), .agg (l.cells rfL)] (.b true) := by
 refine K5 Q7 qkz (by simp) fun T => ?_
 have pc := qi5 l.t none none none none h.t
 have hbb : ∀ b : Bool, (b == b) = true := fun b => by cases b <;> rfl
 unfold qcx
 simp -implicitDefEqProofs -dsimp only [go_sem, seval, q5w, U2, K6, hbb, decide_true, Bool.not_true, Bool.and_self, ↓N1, U6, true_and, ↓J0 _ _ q67]
 refine cpn pc ?_
 simp -implicitDefEqProofs -dsimp only [go_sem, seval, q5w, decide_true, Bool.not_true, ↓N1, U6, true_and]
 refine z6n (T := T) (l := l) (by repeat' (first | exact N5 _ _ | assumption | apply N4 | apply K7 | apply U1)) h1 (fun _ _ => trivial) l.vs 0 rfl (Nat.zero_le _) ?_
 simp -implicitDefEqProofs -dsimp only [go_sem, seval, q5w]
 refine z6o (T := T) (l := l) (by repeat' (first | exact N5 _ _ | assumption | apply N4 | apply K7 | apply U1)) h2 h.c l.cs 0 rfl (Nat.zero_le _) ?_
 simp -implicitDefEqProofs -dsimp only [go_sem, seval, q5w]
 refine z6p (T := T) (l := l) (by repeat' (first | exact N5 _ _ | assumption | apply N4 | apply K7 | apply U1)) h3 h.e l.es 0 rfl (Nat.zero_le _) ?_
 simp -implicitDefEqProofs -dsimp only [go_sem, seval, q5w]
 exact K1 rfl
end Go.Aw
namespace Go.Aw
open Go
variable [Glob]
set_option linter.all false
end Go.Aw
