import Derived.Test.YtmicojcojlgefaaGreatZ29F
import Derived.Test.YtmicojcojlgefaaGreatZ29C29X
namespace Go.Aw
open Go
open Go.Proofs.Tryz (prog)
set_option linter.all false
set_option maxHeartbeats 8000000
set_option maxRecDepth 8000
theorem SlV.form {T : Tab} {v : AV} {n : Nat} {xs : List AV} (h : SlV T v n xs) : v.plain = true /\ v.isOne = true /\ v.sto = true /\ v.cells = [v] /\ v.isLp = false /\ ∀ k, v.offLp k = v := by
 rcases h with ⟨cap, rfl⟩ | ⟨i, rfl, _⟩ <;> exact ⟨rfl, rfl, rfl, rfl, rfl, fun _ => rfl⟩
theorem z23 {R : Y5} (hR : ExtR R) {T : Tab} {id r l w x did rL : Nat} {c : Cl} {N : Nat} {ev : List AV} {i : Nat} (hP : Ct T id r l w x c) (hs : ∀ y ∈ c.l, q6r y) {m : List (Cf × AV)} (h2 : T rL = .row 4 (m.flatMap rvC)) (h3 : ∀ x ∈ m, SlV T x.2 x.1.ch.length (mem x.1.plain.l)) (hm : m.map (·.1) = c.l) (hlen : m.length <= 4) : ∀ (us : List (Cf × AV)) (k : Nat), m.drop k = us -> k <= m.length ->
  R (.exit 2) [(9, .ptr id 0), (10, .ptr did 0), (54, .fz N ev none), (55, .i .i64 N), (56, .i .i64 i), (137, .sl rL 0 m.length none), (138, .i .i64 m.length), (139, .i .i64 m.length), (140, .b false)] [] T ->
  AW prog q38 R [(9, .ptr id 0), (10, .ptr did 0), (54, .fz N ev none), (55, .i .i64 N), (56, .i .i64 i), (137, .sl rL 0 m.length none), (138, .i .i64 m.length), (139, .i .i64 k)] [] T := by
 intro us
 induction us with
 | nil =>
  intro k hk hle hq
  have hk' := O9 hk hle
  refine Q2 hR ?_
  unfold q2u
  simp -implicitDefEqProofs -dsimp only [go_sem, seval, hk', Int.lt_irrefl]
  rw [hk'] at hq
  exact hq
 | cons u us ih =>
  intro k hk hle hq
  obtain ⟨hlt, hy, hk'⟩ := Q5 hk
  have ea := V0 qi4 hy
  have e5 : k * 4 + 4 <= (m.flatMap rvC).length := by rw [K8 qi4]; omega
  have hwr : IntKind.i64.wrap ((k : Int) + 1) = ((k + 1 : Nat) : Int) := K9 (by omega)
  have hv := h3 u (List.mem_of_getElem? hy)
  obtain ⟨p1, p2, p3, p4, p5, p6⟩ := hv.form
  have hK := z4d hP hs k u.1 (by rw [<- hm, List.getElem?_map, hy]; rfl)
  refine O2 (l := q38) rfl hR ?_
  unfold q2u
  simp -implicitDefEqProofs -dsimp only [go_sem, seval, Int.ofNat_lt, hlt, Int.natCast_nonneg, Int.toNat_natCast, h2, ea, e5, rvC, List.cons_append, List.nil_append, p1, p2, p3, p4, p5, p6, ↓J0 _ _ qhe]
  refine can hK ?_
  simp -implicitDefEqProofs -dsimp only [go_sem, seval, decide_true, Bool.not_true, hwr]
  exact ih (k + 1) hk' hlt hq
def qqo (c : Cl) : List AV := match c.w with
 | none => [.i .i64 0, .i .u64 0]
 | some _ => [.i .i64 c.me, .i .u64 c.sq]
theorem z4f (c : Cl) : qx9 c = .tup [.agg (qqo c), .b c.w.isSome] := by unfold qx9 qqo; cases c.w <;> rfl
def quy (y : Cr) : List AV := [.i .i64 y.cl, .i .u64 y.sq, .i .i64 y.n, .i .i64 y.co, .s y.v, .i .u64 y.q]
theorem z71 (c : Cl) : z1p c = .tup [.agg (quy (c.la.getD cr0)), .b c.la.isSome] := by unfold z1p quy; cases c.la <;> rfl
theorem z4g {R : Y5} (hR : ExtR R) {T0 : Tab} {id r l did rt : Nat} {me ma : Int} {evs : List Ev} (hl : Len evs.length) (hx : ∀ e ∈ evs, e.Arg) : ∀ (us : List Ev) (k : Nat), evs.drop k = us -> k <= evs.length -> k <= 30 -> ∀ (w x : Nat) (c : Cl) (T : Tab) (ids : List Nat), Bo T id r l w x did rt c -> c.At me ma k -> Bs0 T0 T ids -> id ∈ ids -> l ∈ ids -> w ∈ ids -> did ∈ ids -> rt ∈ ids ->
  (∀ T E L, (∀ j, SlotLe (T0 j) (T j)) -> (∃ (b : AV), E = [(9, .ptr id 0), (10, .ptr did 0), (54, .fz evs.length (evs.flatMap evC) none), (55, .i .i64 evs.length), (56, .i .i64 evs.length), (57, b)] /\ L = []) \/ (∃ (q : Int) (cs : List AV), E = [(9, .ptr id 0), (10, .ptr did 0), (12, .lp 12 0), (54, .fz evs.length (evs.flatMap evC) none), (55, .i .i64 evs.length), (56, .i .i64 q), (62, .b true)] /\ L = [(12, cs)]) -> R (.exit 0) E L T) ->
  AW prog q39 R [(9, .ptr id 0), (10, .ptr did 0), (54, .fz evs.length (evs.flatMap evC) none), (55, .i .i64 evs.length), (56, .i .i64 k)] [] T := by
 intro us
 induction us with
 | nil =>
  intro k hk hle hk30 w x c T ids hB hat hb i1 i2 i3 i4 i5 h2
  have hk' := O9 hk hle
  refine Q2 hR ?_
  unfold q2v
  simp -implicitDefEqProofs -dsimp only [go_sem, seval, hk', Int.lt_irrefl]
  rw [hk'] at h2
  exact h2 T _ _ hb.le (.inl ⟨_, rfl, rfl⟩)
 | cons y us ih =>
  intro k hk hle hk30 w x c T ids hB hat hb i1 i2 i3 i4 i5 h2
  obtain ⟨hlt, hy, hk'⟩ := Q5 hk
  have hlen32 : ∀ c : Ev, (evC c).length = 32 := fun _ => rfl
  have ea := V0 hlen32 hy
  have e5 : k * 32 + 32 <= (evs.flatMap evC).length := by rw [K8 hlen32]; omega
  have et : (evC y ++ (evs.drop (k + 1)).flatMap evC).take 32 = evC y := List.take_left' rfl
  have e6 : (32 <= (evC y ++ (evs.drop (k + 1)).flatMap evC).length) = True := eq_true (by rw [List.length_append, hlen32]; omega)
  have d3 : (evC y).length = 32 := rfl
  have d4 : (evC y).take 32 = evC y := rfl
  have d5 : (evC y).drop 32 = [] := rfl
  unfold Len at hl
  have hs : IntKind.i64.wrap ((k : Int) + 1) = ((k + 1 : Nat) : Int) := K9 (by omega)
  have hya := hx y (List.mem_of_getElem? hy)
  refine O2 (l := q39) rfl hR ?_
  unfold q2v
  by_cases hk4 : 30 <= k
  ·have dk : decide ((30 : Int) <= (k : Int)) = true := decide_eq_true (by omega)
   generalize evC y = E at *
   simp -implicitDefEqProofs -dsimp only [go_sem, seval, Int.ofNat_lt, hlt, Int.natCast_nonneg, Int.toNat_natCast, ea, e5, e6, et, d3, d4, d5, dk]
   exact h2 T _ _ hb.le (.inr ⟨k, _, rfl, rfl⟩)
  have dk : decide ((30 : Int) <= (k : Int)) = false := decide_eq_false (by omega)
  have hSt := z70 hB hat (by omega) y hya
  generalize evC y = E at *
  simp -implicitDefEqProofs -dsimp only [go_sem, seval, Int.ofNat_lt, hlt, Int.natCast_nonneg, Int.toNat_natCast, ea, e5, e6, et, d3, d4, d5, dk, ↓J0 _ _ qkl]
  refine CallK.of hSt fun v T2 hv => J1 ?_
  obtain ⟨rfl, w2, x2, c2, hB2, hat2, hF2⟩ := hv
  have hb2 := hb.step hF2 (by intro j hj; simp only [List.mem_cons, List.not_mem_nil, or_false] at hj; rcases hj with rfl | rfl | rfl | rfl | rfl <;> assumption)
  have hW := z3z hB2.p
  have hL := z1q hB2.p
  rw [z4f] at hW
  rw [z71] at hL
  have hIH := ih (k + 1) hk' hlt (by omega) w2 x2 c2 T2 ([w2] ++ ids) hB2 hat2 hb2 (by simp [i1]) (by simp [i2]) (by simp) (by simp [i4]) (by simp [i5]) h2
  have hP2 := hB2.p
  obtain ⟨⟨rc, hT, e1, e2, e3, e4, e5', e6', e7, e8⟩, m, ⟨rL, hr1, hr2, hr3⟩, hm⟩ := hB2.d
  have hI := qxh hT
  rw [e1, e4] at hI
  rw [Rc.rowE, e1, e3, e4, e5', e7, e8] at hT
  have hn := hat2.ok.l.n
  have hml0 : m.length = c2.l.length := by rw [<- hm, List.length_map]
  have hml : m.length <= 4 := by omega
  have hbb : ∀ b : Bool, (b == b) = true := fun b => by cases b <;> rfl
  have one := fun (K : Y5) (hK : ExtR K) h => z23 (R := K) hK (did := did) (N := evs.length) (ev := evs.flatMap evC) (i := k) hP2 hat2.ok.l.small hr2 hr3 hm hml m 0 rfl (Nat.zero_le _) h
  have wl : (qqo c2).length = 2 := by unfold qqo; cases c2.w <;> rfl
  have wd : (qqo c2).drop 2 = [] := List.drop_of_length_le (by omega)
  have wt : (qqo c2).take 2 = qqo c2 := List.take_of_length_le (by omega)
  generalize hla : c2.la.getD cr0 = la at *
  have ll : (quy la).length = 6 := rfl
  have ld : (quy la).drop 6 = [] := rfl
  have lt : (quy la).take 6 = quy la := rfl
  simp -implicitDefEqProofs -dsimp only [go_sem, seval, Bool.not_true, ↓J0 _ _ qhb]
  refine can hW ?_
  simp -implicitDefEqProofs -dsimp only [go_sem, seval, wl, wd, wt, ↓J0 _ _ qbc]
  refine can hL ?_
  rcases hw : c2.w with _ | o
  ·have ew : qqo c2 = [.i .i64 0, .i .u64 0] := by unfold qqo; rw [hw]
   rw [hw] at hT
   rw [ew] at wt wl wd ⊢
   simp -implicitDefEqProofs -dsimp only [go_sem, seval, ll, ld, lt, hT, q9d, K6, hbb, Option.isSome_none, Bool.not_true, ↓N1, U6, true_and, quy, U2, decide_true, Bool.and_self, Bool.and_true, hr1]
   refine one _ (by repeat' (first | exact N5 _ _ | assumption | apply N4 | apply K7 | apply U1)) ?_
   simp -implicitDefEqProofs -dsimp only [go_sem, seval, hs]
   exact hIH
  ·have ew : qqo c2 = [.i .i64 c2.me, .i .u64 c2.sq] := by unfold qqo; rw [hw]
   rw [hw] at hT
   rw [ew] at wt wl wd ⊢
   simp -implicitDefEqProofs -dsimp only [go_sem, seval, ll, ld, lt, hT, q9d, K6, hbb, Option.isSome_some, Bool.not_true, ↓N1, U6, true_and, ↓J0 _ _ q07]
   refine can hI ?_
   simp -implicitDefEqProofs -dsimp only [go_sem, seval, ll, ld, lt, hT, q9d, K6, hbb, Option.isSome_some, Bool.not_true, ↓N1, U6, true_and, quy, U2, decide_true, Bool.and_self, Bool.and_true, hr1]
   refine one _ (by repeat' (first | exact N5 _ _ | assumption | apply N4 | apply K7 | apply U1)) ?_
   simp -implicitDefEqProofs -dsimp only [go_sem, seval, hs]
   exact hIH
end Go.Aw
namespace Go.Aw
open Go
open Go.Proofs.Tryz (prog)
set_option linter.all false
set_option maxHeartbeats 8000000
set_option maxRecDepth 8000
theorem qrc (me ma s l0 v : Int) (evs : List Ev) (hl : Len evs.length) (hx : ∀ e ∈ evs, e.Arg) : PCalls prog q81 [.i .i64 me, .i .i64 ma, .agg (stC s l0 v), .fz evs.length (evs.flatMap evC) none] (.b true) := by
 refine K5 Q7 qdn (by simp) fun T => ?_
 have cS := z31 s l0 v
 have cA := qyl
 have cR := qvw s l0 v
 simp only [stC] at cS cR
 unfold q82
 rcases hk : cOk me ma s l0 v with _ | _
 ·have cN := z3x hk
  simp only [stC] at cN
  have fin : ∀ T, qnz (.b true) (fun v T' => v = .b true /\ T' = T) T := fun T => V1 _ (fun _ => .inr (.inl rfl)) ⟨rfl, rfl⟩
  rcases h1 : decide (me < 0) with _ | _
  case true =>
   simp -implicitDefEqProofs -dsimp only [go_sem, seval, stC, ↓J0 _ _ q1e]
   refine cpn cS ?_
   simp -implicitDefEqProofs -dsimp only [go_sem, seval, ↓J0 _ _ q6v]
   refine cpn cN ?_
   simp -implicitDefEqProofs -dsimp only [go_sem, seval, h1, q9d, ↓N1, U6, true_and, ↓J0 _ _ q1f]
   refine cpn cA ?_
   simp -implicitDefEqProofs -dsimp only [go_sem, seval]
   exact fin T
  rcases h2 : decide (5 < me) with _ | _
  case true =>
   simp -implicitDefEqProofs -dsimp only [go_sem, seval, stC, ↓J0 _ _ q1e]
   refine cpn cS ?_
   simp -implicitDefEqProofs -dsimp only [go_sem, seval, ↓J0 _ _ q6v]
   refine cpn cN ?_
   simp -implicitDefEqProofs -dsimp only [go_sem, seval, h1, h2, q9d, ↓N1, U6, true_and, ↓J0 _ _ q1f]
   refine cpn cA ?_
   simp -implicitDefEqProofs -dsimp only [go_sem, seval]
   exact fin T
  rcases h3 : decide (ma < 1) with _ | _
  case true =>
   simp -implicitDefEqProofs -dsimp only [go_sem, seval, stC, ↓J0 _ _ q1e]
   refine cpn cS ?_
   simp -implicitDefEqProofs -dsimp only [go_sem, seval, ↓J0 _ _ q6v]
   refine cpn cN ?_
   simp -implicitDefEqProofs -dsimp only [go_sem, seval, h1, h2, h3, q9d, ↓N1, U6, true_and, ↓J0 _ _ q1f]
   refine cpn cA ?_
   simp -implicitDefEqProofs -dsimp only [go_sem, seval]
   exact fin T
  rcases h4 : decide (5 < ma) with _ | _
  case true =>
   simp -implicitDefEqProofs -dsimp only [go_sem, seval, stC, ↓J0 _ _ q1e]
   refine cpn cS ?_
   simp -implicitDefEqProofs -dsimp only [go_sem, seval, ↓J0 _ _ q6v]
   refine cpn cN ?_
   simp -implicitDefEqProofs -dsimp only [go_sem, seval, h1, h2, h3, h4, q9d, ↓N1, U6, true_and, ↓J0 _ _ q1f]
   refine cpn cA ?_
   simp -implicitDefEqProofs -dsimp only [go_sem, seval]
   exact fin T
  have e : sok s l0 v = false := by
   have h1 := of_decide_eq_false h1
   have h2 := of_decide_eq_false h2
   have h3 := of_decide_eq_false h3
   have h4 := of_decide_eq_false h4
   simpa [cOk, show 0 <= me by omega, show me < 6 by omega, show 1 <= ma by omega, show ma <= 5 by omega] using hk
  rw [e] at cR
  simp -implicitDefEqProofs -dsimp only [go_sem, seval, stC, ↓J0 _ _ q1e]
  refine cpn cS ?_
  simp -implicitDefEqProofs -dsimp only [go_sem, seval, ↓J0 _ _ q6v]
  refine cpn cN ?_
  simp -implicitDefEqProofs -dsimp only [go_sem, seval, h1, h2, h3, h4, q9d, ↓N1, U6, true_and, ↓J0 _ _ q8v]
  refine cpn cR ?_
  simp -implicitDefEqProofs -dsimp only [go_sem, seval, Bool.not_false, q9d, ↓N1, U6, true_and, ↓J0 _ _ q1f]
  refine cpn cA ?_
  simp -implicitDefEqProofs -dsimp only [go_sem, seval]
  exact fin T
 ·have hke := hk
  simp only [cOk, Bool.and_eq_true, decide_eq_true_eq] at hke
  obtain ⟨⟨⟨⟨m1, m2⟩, m3⟩, m4⟩, hs⟩ := hke
  have h1 : decide (me < 0) = false := decide_eq_false (by omega)
  have h2 : decide (5 < me) = false := decide_eq_false (by omega)
  have h3 : decide (ma < 1) = false := decide_eq_false (by omega)
  have h4 : decide (5 < ma) = false := decide_eq_false (by omega)
  have hss := of_decide_eq_true hs
  obtain ⟨S, rfl⟩ := Int.eq_ofNat_of_zero_le (show 0 <= s by omega)
  obtain ⟨L, rfl⟩ := Int.eq_ofNat_of_zero_le (show 0 <= l0 by omega)
  have cN := z1l (T := T) hk
  have cT : ∀ T1, ACalls prog q3e [.agg (stC S L v)] T1 (rtQ T1 S L) := fun T1 => z3e hs
  have hat := zao hk
  simp only [stC] at cN cT
  rw [hs] at cR
  simp -implicitDefEqProofs -dsimp only [go_sem, seval, stC, ↓J0 _ _ q1e]
  refine cpn cS ?_
  simp -implicitDefEqProofs -dsimp only [go_sem, seval, ↓J0 _ _ q6v]
  refine CallK.of cN fun a T1 hv => J1 ?_
  obtain ⟨id, r, l, rfl, h0, hF⟩ := hv
  simp -implicitDefEqProofs -dsimp only [go_sem, seval, h1, h2, h3, h4, q9d, ↓N1, U6, true_and, ↓J0 _ _ q8v]
  refine cpn cR ?_
  simp -implicitDefEqProofs -dsimp only [go_sem, seval, Bool.not_true, ↓J0 _ _ qm6]
  refine CallK.of (cT T1) fun a T2 hv => J1 ?_
  obtain ⟨rt, m, rfl, hrt, hRt, hm, hle, hkeep⟩ := hv
  simp -implicitDefEqProofs -dsimp only [go_sem, seval]
  intro did hdid
  refine J1 ?_
  have hb1 := Bs0.start hF
  have hu1 : ∀ j, T1 j = .unused -> T j = .unused := fun j hj => by
   rcases hTj : T j with _ | _ <;> first | rfl | (have := hb1.f j (by rw [hTj]; simp); rw [hj, hTj] at this; cases this)
  have hu2 : ∀ j, T2 j = .unused -> T1 j = .unused := fun j hj => hle.unused hj
  have hct2 : Ct T2 id r l id id (cl0 me ma S L) := h0.mono hkeep
  have hput : ∀ s j, T2 j ≠ .unused -> (T2.put did s) j = T2 j := fun s j hj => Tab.put_ne _ _ fun e => by subst e; exact hj hdid
  have hrl : m.length ≠ 0 \/ True := .inr trivial
  have hB : Bo (T2.put did (Rc.row ⟨me, ma, rt, 0, false, ⟨0, [], [], [], []⟩, some 0, some 0, 0, cr0, false⟩)) id r l id id did rt (cl0 me ma S L) := by
   refine ⟨hct2.mono (hput _), fun _ => rfl, ⟨⟨_, Tab.put_same .., ⟨rfl, rfl, rfl, rfl, rfl, fun _ h => (by cases h), rfl, rfl⟩⟩, m, hRt.keepS fun j z xs hj _ => hput _ j (by rw [hj]; simp), hm⟩, fun e => ?_⟩
   have := h0.rt.1
   rw [e, hrt] at this
   cases this
  have hbs : Bs0 T (T2.put did (Rc.row ⟨me, ma, rt, 0, false, ⟨0, [], [], [], []⟩, some 0, some 0, 0, cr0, false⟩)) [id, r, l, did, rt] := by
   refine ⟨fun j hj => ?_, fun j hj => ?_⟩
   ·have a1 := hb1.f j hj
    have a2 := hkeep j (by rw [a1]; exact hj)
    rw [hput _ j (by rw [a2, a1]; exact hj), a2, a1]
   ·simp only [List.mem_cons, List.not_mem_nil, or_false] at hj
    rcases hj with rfl | rfl | rfl | rfl | rfl
    ·exact hb1.u _ (by simp)
    ·exact hb1.u _ (by simp)
    ·exact hb1.u _ (by simp)
    ·exact hu1 _ (hu2 _ hdid)
    ·exact hu1 _ hrt
  simp -implicitDefEqProofs -dsimp only [go_sem, seval]
  refine z4g (T0 := T) (by repeat' (first | exact N5 _ _ | assumption | apply N4 | apply K7 | apply U1)) hl hx evs 0 rfl (Nat.zero_le _) (Nat.zero_le _) id id (cl0 me ma S L) _ [id, r, l, did, rt] hB hat hbs (by simp) (by simp) (by simp) (by simp) (by simp) (fun T3 E L3 hle3 how => ?_)
  rcases how with ⟨b, rfl, rfl⟩ | ⟨q, cs, rfl, rfl⟩
  all_goals
   simp -implicitDefEqProofs -dsimp only [go_sem, seval, ↓J0 _ _ q1f]
   refine cpn cA ?_
   simp -implicitDefEqProofs -dsimp only [go_sem, seval]
   exact V1 T hle3 ⟨rfl, rfl⟩
end Go.Aw
