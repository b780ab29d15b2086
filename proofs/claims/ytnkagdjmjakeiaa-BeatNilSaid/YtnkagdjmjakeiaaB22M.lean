import Derived.Test.YtnkagdjmjakeiaaC22I
import Derived.Test.YtnkagdjmjakeiaaAwD
namespace Go.Aw
open Go
open Go.Proofs.Try (prog)
set_option linter.all false
set_option maxHeartbeats 4000000

theorem flat_set {α : Type} {f : α → List AV} {z : Nat} (hf : ∀ x, (f x).length = z) {l : List α} {k : Nat} {x : α} (h : k < l.length) : stCells (l.flatMap f) (k * z) (f x) = (l.set k x).flatMap f := by
  induction l generalizing k with
  | nil => simp at h
  | cons a l ih =>
    cases k with
    | zero =>
      simp only [stCells, List.flatMap_cons, Nat.zero_mul, List.take_zero, List.nil_append, List.set_cons_zero, Nat.zero_add, hf]
      rw [List.drop_append_of_le_length (by rw [hf]; omega), List.drop_of_length_le (by rw [hf]; omega), List.nil_append]
    | succ k =>
      have := ih (k := k) (by simpa using h)
      simp only [stCells, hf] at this ⊢
      rw [show (k + 1) * z = (f a).length + k * z by rw [hf, Nat.add_mul]; omega, List.flatMap_cons, List.set_cons_succ, List.flatMap_cons, ← this]
      rw [List.take_length_add_append, Nat.add_assoc, List.drop_length_add_append]
      simp only [List.append_assoc]

/-- A beat. -/
structure Be where
  a : Int
  b : Int
  c : Bool
  d : Int
deriving DecidableEq
def Be.cells (x : Be) : List AV := [.i .i64 x.a, .i .u64 x.b, .b x.c, .i .i64 x.d]
def Be.nil : Be := ⟨0, 0, false, 0⟩
/-- What a watch has of a server. -/
structure Wr where
  x : Be
  h : Bool
  g : Int
deriving DecidableEq
def wrC (w : Wr) : List AV := [.i .i64 w.x.a, .i .u64 w.x.b, .b w.x.c, .i .i64 w.x.d, .b w.h, .i .i64 w.g]
theorem wrC_len (w : Wr) : (wrC w).length = 6 := rfl
def waC (lim : Int) (l : List Wr) : List AV := .i .i64 lim :: l.flatMap wrC
theorem waC_len {lim : Int} {l : List Wr} : (waC lim l).length = l.length * 6 + 1 := by simp only [waC, List.length_cons, flat_length wrC_len]
theorem waC_drop {lim : Int} {l : List Wr} {k : Nat} {w : Wr} (h : l[k]? = some w) : (waC lim l).drop (1 + k * 6) = wrC w ++ (l.drop (k + 1)).flatMap wrC := by
  rw [Nat.add_comm, waC, List.drop_succ_cons]; exact flat_at wrC_len h
theorem waC_get {lim : Int} {l : List Wr} {k : Nat} {w : Wr} (h : l[k]? = some w) (j : Nat) (hj : j < 6) : (waC lim l)[1 + k * 6 + j]? = (wrC w)[j]? := by
  have := congrArg (fun l : List AV => l[j]?) (waC_drop (lim := lim) h)
  simp only [List.getElem?_drop] at this
  rw [this, List.getElem?_append_left (by rw [wrC_len]; exact hj)]
theorem waC_set {lim : Int} {l : List Wr} {k : Nat} {w : Wr} (h : k < l.length) : stCells (waC lim l) (1 + k * 6) (wrC w) = waC lim (l.set k w) := by
  have := flat_set wrC_len (x := w) h
  simp only [waC, stCells, wrC_len] at this ⊢
  rw [← this, show 1 + k * 6 = k * 6 + 1 by omega, List.take_succ_cons, show k * 6 + 1 + 6 = k * 6 + 6 + 1 by omega, List.drop_succ_cons]
  rfl
theorem waC_age {lim : Int} {l : List Wr} {k : Nat} {w : Wr} (h : l[k]? = some w) (g : Int) : stCells (waC lim l) (1 + k * 6 + 5) [.i .i64 g] = waC lim (l.set k { w with g := g }) := by
  have hk : k < l.length := (List.getElem?_eq_some_iff.1 h).1
  rw [← waC_set hk]
  have hd := waC_drop (lim := lim) h
  simp only [stCells, List.length_cons, List.length_nil, Nat.zero_add, wrC_len]
  have e1 : (waC lim l).take (1 + k * 6 + 5) = (waC lim l).take (1 + k * 6) ++ (wrC w).take 5 := by
    rw [List.take_add, hd, List.take_append_of_le_length (by rw [wrC_len]; omega)]
  rw [e1, show 1 + k * 6 + 5 + 1 = 1 + k * 6 + 6 by omega]
  simp [wrC]

def srvW (n : Int) : Bool := decide (0 ≤ n) && decide (n < 8)
theorem pc_bserver (n : Int) : PCalls prog f_beat_server [.i .i64 n] (.b (srvW n)) := by
  refine pcalls_of mixed t_beat_server (by simp) fun T => ?_
  unfold s_beat_server
  simp -implicitDefEqProofs -dsimp only [go_sem, Nat.reduceEqDiff, Nat.reduceAdd, Nat.reduceMul, Nat.reduceSub, Nat.reduceLT, Nat.reduceLeDiff, Nat.reduceBEq, reduceIte, reduceCtorEq, Int.reduceLT, Int.reduceLE, Int.reduceEq, Int.reduceNeg, Int.reduceToNat, Int.reduceAdd, Int.reduceSub, decide_true, decide_false]
  (first | (refine br_split (fun h_1 => ?_) (fun h_1 => ?_) <;> simp -implicitDefEqProofs -dsimp only [go_sem, Nat.reduceEqDiff, Nat.reduceAdd, Nat.reduceMul, Nat.reduceSub, Nat.reduceLT, Nat.reduceLeDiff, Nat.reduceBEq, reduceIte, reduceCtorEq, Int.reduceLT, Int.reduceLE, Int.reduceEq, Int.reduceNeg, Int.reduceToNat, Int.reduceAdd, Int.reduceSub, decide_true, decide_false, h_1]) | (have h_1 := trivial)) <;>
    (first | (refine br_split (fun h_2 => ?_) (fun h_2 => ?_) <;> simp -implicitDefEqProofs -dsimp only [go_sem, Nat.reduceEqDiff, Nat.reduceAdd, Nat.reduceMul, Nat.reduceSub, Nat.reduceLT, Nat.reduceLeDiff, Nat.reduceBEq, reduceIte, reduceCtorEq, Int.reduceLT, Int.reduceLE, Int.reduceEq, Int.reduceNeg, Int.reduceToNat, Int.reduceAdd, Int.reduceSub, decide_true, decide_false, h_1, h_2]) | (have h_2 := trivial)) <;>
    (first | (refine br_split (fun h_3 => ?_) (fun h_3 => ?_) <;> simp -implicitDefEqProofs -dsimp only [go_sem, Nat.reduceEqDiff, Nat.reduceAdd, Nat.reduceMul, Nat.reduceSub, Nat.reduceLT, Nat.reduceLeDiff, Nat.reduceBEq, reduceIte, reduceCtorEq, Int.reduceLT, Int.reduceLE, Int.reduceEq, Int.reduceNeg, Int.reduceToNat, Int.reduceAdd, Int.reduceSub, decide_true, decide_false, h_1, h_2, h_3]) | (have h_3 := trivial))
  all_goals
    refine finL_pure ?_
    first | (simp_all [srvW]; done) | (simp_all [srvW]; omega)

def clampW (n : Int) : Int := if 1000 < (if 1 > n then 1 else n) then 1000 else if 1 > n then 1 else n
theorem clampW_le (n : Int) : 1 ≤ clampW n ∧ clampW n ≤ 1000 := by
  unfold clampW; split <;> split <;> omega
structure WOk (lim : Int) (l : List Wr) : Prop where
  n : l.length = 8
  l1 : 1 ≤ lim
  l2 : lim ≤ 1000
  g : ∀ w ∈ l, 0 ≤ w.g ∧ w.g ≤ lim + 1
def Wt (T : Tab) (id : Nat) (lim : Int) (l : List Wr) : Prop := T id = .row 49 (waC lim l)

def wr0 : Wr := ⟨Be.nil, false, 0⟩
def wrs0 : List Wr := List.replicate 8 wr0
theorem wok0 (n : Int) : WOk (clampW n) wrs0 := ⟨rfl, (clampW_le n).1, (clampW_le n).2, fun w hw => by
  have := List.eq_of_mem_replicate hw; subst this
  have := clampW_le n
  simp only [wr0]; omega⟩

theorem ac_bNew {T : Tab} (n : Int) : ACalls prog f_beat_New [.i .i64 n] T (fun r T' => ∃ id, r = .ptr id 0 ∧ T id = .unused ∧ T' = T.put id (.row 49 (waC (clampW n) wrs0))) := by
  refine acalls_of mixed t_beat_New (by simp) ?_
  unfold s_beat_New
  simp -implicitDefEqProofs -dsimp only [go_sem, Nat.reduceEqDiff, Nat.reduceAdd, Nat.reduceMul, Nat.reduceSub, Nat.reduceLT, Nat.reduceLeDiff, Nat.reduceBEq, reduceIte, reduceCtorEq, Int.reduceLT, Int.reduceLE, Int.reduceEq, Int.reduceNeg, Int.reduceToNat, Int.reduceAdd, Int.reduceSub]
  refine fun id hid => aft_nil ?_
  simp -implicitDefEqProofs -dsimp only [go_sem, Nat.reduceEqDiff, Nat.reduceAdd, Nat.reduceMul, Nat.reduceSub, Nat.reduceLT, Nat.reduceLeDiff, Nat.reduceBEq, reduceIte, reduceCtorEq, Int.reduceLT, Int.reduceLE, Int.reduceEq, Int.reduceNeg, Int.reduceToNat, Int.reduceAdd, Int.reduceSub]
  exact finL_of _ (fun _ => .inr (.inl rfl)) ⟨id, rfl, hid, rfl⟩

theorem e8 : ((8 : Nat) : Int) = 8 := rfl
theorem list_set_self {α : Type} {x : α} : ∀ {l : List α} {k : Nat}, l[k]? = some x → l.set k x = l
  | [], k, h => by simp at h
  | a :: l, 0, h => by simp at h; subst h; rfl
  | a :: l, k + 1, h => by rw [List.set_cons_succ, list_set_self (by simpa using h)]
/-! What a watch has of one. -/
def lastW (l : List Wr) (n : Int) : Be × Bool := match (if srvW n then l[n.toNat]? else none) with
  | some w => (w.x, w.h)
  | none => (Be.nil, false)
def beR (r : Be × Bool) : AV := .tup [.agg r.1.cells, .b r.2]
theorem srvW_lt {n : Int} (h : srvW n = true) : 0 ≤ n ∧ n < 8 := by simpa [srvW] using h
theorem ac_bLast {T : Tab} {id : Nat} {lim : Int} {l : List Wr} (hT : Wt T id lim l) (hl : WOk lim l) (n : Int) : ACalls prog f_beat_Watch_Last [.ptr id 0, .i .i64 n] T (fun r T' => r = beR (lastW l n) ∧ T' = T) := by
  unfold Wt at hT
  refine acalls_of mixed t_beat_Watch_Last (by simp) ?_
  unfold s_beat_Watch_Last
  simp -implicitDefEqProofs -dsimp only [go_sem, Nat.reduceEqDiff, Nat.reduceAdd, Nat.reduceMul, Nat.reduceSub, Nat.reduceLT, Nat.reduceLeDiff, Nat.reduceBEq, reduceIte, reduceCtorEq, Int.reduceLT, Int.reduceLE, Int.reduceEq, Int.reduceNeg, Int.reduceToNat, Int.reduceAdd, Int.reduceSub, ↓g_gdc, rcOk, true_and, ↓g_call _ _ c_beat_server]
  refine CallK.pure (pc_bserver n) (aft_nil ?_)
  rcases hs : srvW n with _ | _
  · simp -implicitDefEqProofs -dsimp only [go_sem, Nat.reduceEqDiff, Nat.reduceAdd, Nat.reduceMul, Nat.reduceSub, Nat.reduceLT, Nat.reduceLeDiff, Nat.reduceBEq, reduceIte, reduceCtorEq, Int.reduceLT, Int.reduceLE, Int.reduceEq, Int.reduceNeg, Int.reduceToNat, Int.reduceAdd, Int.reduceSub, Bool.not_false]
    refine finL_pure ?_
    simp [lastW, hs, beR, Be.cells, Be.nil]
  have hn := srvW_lt hs
  obtain ⟨k, rfl⟩ : ∃ k : Nat, n = k := ⟨n.toNat, by omega⟩
  obtain ⟨w, hw⟩ : ∃ w, l[k]? = some w := ⟨_, List.getElem?_eq_getElem (by have := hl.n; omega)⟩
  have hlen : 1 + k * 6 + 4 ≤ (waC lim l).length := by rw [waC_len, hl.n]; omega
  have hd := waC_drop (lim := lim) hw
  have h4 := waC_get (lim := lim) hw 4 (by omega)
  have hn8 : (k : Int) < 8 := hn.2
  simp only [wrC] at hd h4
  simp -implicitDefEqProofs -dsimp only [go_sem, Nat.reduceEqDiff, Nat.reduceAdd, Nat.reduceMul, Nat.reduceSub, Nat.reduceLT, Nat.reduceLeDiff, Nat.reduceBEq, reduceIte, reduceCtorEq, Int.reduceLT, Int.reduceLE, Int.reduceEq, Int.reduceNeg, Int.reduceToNat, Int.reduceAdd, Int.reduceSub, Bool.not_true, hT, Int.natCast_nonneg, e8, hn8, Int.toNat_natCast, hlen, hd, h4, List.cons_append, List.nil_append]
  refine finL_pure ?_
  simp only [lastW, hs, if_true, Int.toNat_natCast, hw, beR, Be.cells]

def heardW (l : List Wr) (n : Int) (b : Be) : List Wr := if srvW n then l.set n.toNat ⟨b, true, 0⟩ else l
theorem ac_bHeard {T : Tab} {id : Nat} {lim : Int} {l : List Wr} (hT : Wt T id lim l) (hl : WOk lim l) (n : Int) (b : Be) : ACalls prog f_beat_Watch_Heard [.ptr id 0, .i .i64 n, .agg b.cells] T
    (fun r T' => r = .i .i64 (if srvW n = true then 0 else 1) ∧ T' = T.put id (.row 49 (waC lim (heardW l n b)))) := by
  unfold Wt at hT
  refine acalls_of mixed t_beat_Watch_Heard (by simp) ?_
  unfold s_beat_Watch_Heard
  simp -implicitDefEqProofs -dsimp only [go_sem, Nat.reduceEqDiff, Nat.reduceAdd, Nat.reduceMul, Nat.reduceSub, Nat.reduceLT, Nat.reduceLeDiff, Nat.reduceBEq, reduceIte, reduceCtorEq, Int.reduceLT, Int.reduceLE, Int.reduceEq, Int.reduceNeg, Int.reduceToNat, Int.reduceAdd, Int.reduceSub, Be.cells, ↓g_call _ _ c_beat_server]
  refine CallK.pure (pc_bserver n) (aft_nil ?_)
  rcases hs : srvW n with _ | _
  · simp -implicitDefEqProofs -dsimp only [go_sem, Nat.reduceEqDiff, Nat.reduceAdd, Nat.reduceMul, Nat.reduceSub, Nat.reduceLT, Nat.reduceLeDiff, Nat.reduceBEq, reduceIte, reduceCtorEq, Int.reduceLT, Int.reduceLE, Int.reduceEq, Int.reduceNeg, Int.reduceToNat, Int.reduceAdd, Int.reduceSub, Bool.not_false]
    refine fin_as (.refl _) ?_
    simp only [heardW, hs, Bool.false_eq_true, if_false]
    exact (Tab.put_self hT).symm
  have hn := srvW_lt hs
  obtain ⟨k, rfl⟩ : ∃ k : Nat, n = k := ⟨n.toNat, by omega⟩
  have hk : k < l.length := by have := hl.n; omega
  have hlen : 1 + k * 6 + 6 ≤ (waC lim l).length := by rw [waC_len, hl.n]; omega
  have hn8 : (k : Int) < 8 := hn.2
  simp -implicitDefEqProofs -dsimp only [go_sem, Nat.reduceEqDiff, Nat.reduceAdd, Nat.reduceMul, Nat.reduceSub, Nat.reduceLT, Nat.reduceLeDiff, Nat.reduceBEq, reduceIte, reduceCtorEq, Int.reduceLT, Int.reduceLE, Int.reduceEq, Int.reduceNeg, Int.reduceToNat, Int.reduceAdd, Int.reduceSub, Bool.not_true, hT, Int.natCast_nonneg, e8, hn8, Int.toNat_natCast]
  refine stS_row hT rfl rfl (by simpa using hlen) ?_
  refine aft_nil ?_
  simp -implicitDefEqProofs -dsimp only [go_sem, Nat.reduceEqDiff, Nat.reduceAdd, Nat.reduceMul, Nat.reduceSub, Nat.reduceLT, Nat.reduceLeDiff, Nat.reduceBEq, reduceIte, reduceCtorEq, Int.reduceLT, Int.reduceLE, Int.reduceEq, Int.reduceNeg, Int.reduceToNat, Int.reduceAdd, Int.reduceSub]
  refine fin_as (.refl _) ?_
  simp only [heardW, hs, if_true, Int.toNat_natCast]
  rw [← waC_set hk]; rfl

def susW (lim : Int) (l : List Wr) (n : Int) : Bool := match (if srvW n then l[n.toNat]? else none) with
  | some w => decide (lim < w.g)
  | none => false
theorem ac_bSuspects {T : Tab} {id : Nat} {lim : Int} {l : List Wr} (hT : Wt T id lim l) (hl : WOk lim l) (n : Int) : ACalls prog f_beat_Watch_Suspects [.ptr id 0, .i .i64 n] T (fun r T' => r = .b (susW lim l n) ∧ T' = T) := by
  unfold Wt at hT
  refine acalls_of mixed t_beat_Watch_Suspects (by simp) ?_
  unfold s_beat_Watch_Suspects
  simp -implicitDefEqProofs -dsimp only [go_sem, Nat.reduceEqDiff, Nat.reduceAdd, Nat.reduceMul, Nat.reduceSub, Nat.reduceLT, Nat.reduceLeDiff, Nat.reduceBEq, reduceIte, reduceCtorEq, Int.reduceLT, Int.reduceLE, Int.reduceEq, Int.reduceNeg, Int.reduceToNat, Int.reduceAdd, Int.reduceSub, ↓g_gdc, rcOk, true_and, Bool.not_false, ↓g_call _ _ c_beat_server]
  refine CallK.pure (pc_bserver n) (aft_nil ?_)
  rcases hs : srvW n with _ | _
  · simp -implicitDefEqProofs -dsimp only [go_sem, Nat.reduceEqDiff, Nat.reduceAdd, Nat.reduceMul, Nat.reduceSub, Nat.reduceLT, Nat.reduceLeDiff, Nat.reduceBEq, reduceIte, reduceCtorEq, Int.reduceLT, Int.reduceLE, Int.reduceEq, Int.reduceNeg, Int.reduceToNat, Int.reduceAdd, Int.reduceSub]
    refine finL_pure ?_
    simp [susW, hs]
  have hn := srvW_lt hs
  obtain ⟨k, rfl⟩ : ∃ k : Nat, n = k := ⟨n.toNat, by omega⟩
  obtain ⟨w, hw⟩ : ∃ w, l[k]? = some w := ⟨_, List.getElem?_eq_getElem (by have := hl.n; omega)⟩
  have h5 := waC_get (lim := lim) hw 5 (by omega)
  have h0 : (waC lim l)[0]? = some (.i .i64 lim) := rfl
  have hn8 : (k : Int) < 8 := hn.2
  simp only [wrC] at h5
  simp -implicitDefEqProofs -dsimp only [go_sem, Nat.reduceEqDiff, Nat.reduceAdd, Nat.reduceMul, Nat.reduceSub, Nat.reduceLT, Nat.reduceLeDiff, Nat.reduceBEq, reduceIte, reduceCtorEq, Int.reduceLT, Int.reduceLE, Int.reduceEq, Int.reduceNeg, Int.reduceToNat, Int.reduceAdd, Int.reduceSub, hT, Int.natCast_nonneg, e8, hn8, Int.toNat_natCast, h5, h0]
  refine finL_pure ?_
  simp only [susW, hs, if_true, Int.toNat_natCast, hw]

def tickR (lim : Int) (w : Wr) : Wr := if w.g ≤ lim then { w with g := w.g + 1 } else w
theorem lp_bTick {R : RPost} (hR : ExtR R) {id : Nat} {lim : Int} {l : List Wr} (hl : WOk lim l) : ∀ (m k : Nat), k + m = 8 → ∀ (T : Tab), T id = .row 49 (waC lim ((l.take k).map (tickR lim) ++ l.drop k)) →
    R (.exit 0) [(0, .ptr id 0), (5, .i .i64 8), (6, .b false)] [] (T.put id (.row 49 (waC lim (l.map (tickR lim))))) →
    AW prog beat_Watch_Tick_l0 R [(0, .ptr id 0), (5, .i .i64 k)] [] T := by
  intro m
  induction m with
  | zero =>
    intro k hk T hT h2
    have : k = 8 := by omega
    subst this
    rw [List.take_of_length_le (by have := hl.n; omega), List.drop_of_length_le (by have := hl.n; omega), List.append_nil] at hT
    rw [Tab.put_self hT] at h2
    refine AW_loop hR ?_
    unfold beat_Watch_Tick_l0b
    simp -implicitDefEqProofs -dsimp only [go_sem, Nat.reduceEqDiff, Nat.reduceAdd, Nat.reduceMul, Nat.reduceSub, Nat.reduceLT, Nat.reduceLeDiff, Nat.reduceBEq, reduceIte, reduceCtorEq, Int.reduceLT, Int.reduceLE, Int.reduceEq, Int.reduceNeg, Int.reduceToNat, Int.reduceAdd, Int.reduceSub, e8]
    exact h2
  | succ m ih =>
    intro k hk T hT h2
    obtain ⟨w, hw⟩ : ∃ w, l[k]? = some w := ⟨_, List.getElem?_eq_getElem (by have := hl.n; omega)⟩
    have hlt : (k : Int) < 8 := by omega
    have hw2 : ((l.take k).map (tickR lim) ++ l.drop k)[k]? = some w := by
      rw [List.getElem?_append_right (by simp [Nat.min_le_left])]
      simp only [List.length_map, List.length_take, List.getElem?_drop]
      rw [show k + (k - min k l.length) = k by have := hl.n; omega, hw]
    have h5 := waC_get (lim := lim) hw2 5 (by omega)
    have h0 : (waC lim ((l.take k).map (tickR lim) ++ l.drop k))[0]? = some (.i .i64 lim) := rfl
    have hg := hl.g w (List.mem_of_getElem? hw)
    have hl2 := hl.l2
    have hws : IntKind.i64.wrap ((k : Int) + 1) = ((k + 1 : Nat) : Int) := wrap_succ (by omega)
    have hwg : IntKind.i64.wrap (w.g + 1) = w.g + 1 := wrap_i64 (by unfold I64; omega)
    have hnext : ((l.take k).map (tickR lim) ++ l.drop k).set k (tickR lim w) = (l.take (k + 1)).map (tickR lim) ++ l.drop (k + 1) := by
      have hk8 : k < l.length := (List.getElem?_eq_some_iff.1 hw).1
      have e : l.drop k = w :: l.drop (k + 1) := by rw [List.drop_eq_getElem_cons hk8]; congr 1; exact (List.getElem?_eq_some_iff.1 hw).2
      rw [e, List.set_append_right _ _ (by simp [Nat.min_le_left]), take_succ_eq hw, List.map_append]
      simp only [List.length_map, List.length_take]
      rw [show k - min k l.length = 0 by omega, List.set_cons_zero]; simp
    simp only [wrC] at h5
    refine AW_loopD (l := beat_Watch_Tick_l0) rfl hR ?_
    unfold beat_Watch_Tick_l0b
    simp -implicitDefEqProofs -dsimp only [go_sem, Nat.reduceEqDiff, Nat.reduceAdd, Nat.reduceMul, Nat.reduceSub, Nat.reduceLT, Nat.reduceLeDiff, Nat.reduceBEq, reduceIte, reduceCtorEq, Int.reduceLT, Int.reduceLE, Int.reduceEq, Int.reduceNeg, Int.reduceToNat, Int.reduceAdd, Int.reduceSub, hlt, hT, Int.natCast_nonneg, e8, Int.toNat_natCast, h5, h0]
    refine br_split (fun h => ?_) (fun h => ?_)
    · have e : tickR lim w = { w with g := w.g + 1 } := by unfold tickR; rw [if_pos (of_decide_eq_true h)]
      have hlen : 1 + k * 6 + 5 + 1 ≤ (waC lim ((l.take k).map (tickR lim) ++ l.drop k)).length := by
        rw [waC_len]; simp only [List.length_append, List.length_map, List.length_take, List.length_drop]; have := hl.n; omega
      simp -implicitDefEqProofs -dsimp only [go_sem, Nat.reduceEqDiff, Nat.reduceAdd, Nat.reduceMul, Nat.reduceSub, Nat.reduceLT, Nat.reduceLeDiff, Nat.reduceBEq, reduceIte, reduceCtorEq, Int.reduceLT, Int.reduceLE, Int.reduceEq, Int.reduceNeg, Int.reduceToNat, Int.reduceAdd, Int.reduceSub, h, hlt, hT, Int.natCast_nonneg, e8, Int.toNat_natCast, h5, h0, hwg]
      refine stS_row hT rfl rfl (by simpa using hlen) ?_
      refine aft_nil ?_
      simp -implicitDefEqProofs -dsimp only [go_sem, Nat.reduceEqDiff, Nat.reduceAdd, Nat.reduceMul, Nat.reduceSub, Nat.reduceLT, Nat.reduceLeDiff, Nat.reduceBEq, reduceIte, reduceCtorEq, Int.reduceLT, Int.reduceLE, Int.reduceEq, Int.reduceNeg, Int.reduceToNat, Int.reduceAdd, Int.reduceSub, hws]
      refine ih (k + 1) (by omega) _ ?_ ?_
      · rw [Tab.put_same]
        have := waC_age (lim := lim) hw2 (w.g + 1)
        rw [← hnext, e, ← this]; rfl
      · rw [Tab.put_put]; exact h2
    · have e : tickR lim w = w := by unfold tickR; rw [if_neg (of_decide_eq_false h)]
      simp -implicitDefEqProofs -dsimp only [go_sem, Nat.reduceEqDiff, Nat.reduceAdd, Nat.reduceMul, Nat.reduceSub, Nat.reduceLT, Nat.reduceLeDiff, Nat.reduceBEq, reduceIte, reduceCtorEq, Int.reduceLT, Int.reduceLE, Int.reduceEq, Int.reduceNeg, Int.reduceToNat, Int.reduceAdd, Int.reduceSub, h, hws]
      refine ih (k + 1) (by omega) _ ?_ h2
      rw [hT, ← hnext, e]
      congr 2
      exact (list_set_self hw2).symm
theorem ac_bTick {T : Tab} {id : Nat} {lim : Int} {l : List Wr} (hT : Wt T id lim l) (hl : WOk lim l) : ACalls prog f_beat_Watch_Tick [.ptr id 0] T (fun r T' => r = .tup [] ∧ T' = T.put id (.row 49 (waC lim (l.map (tickR lim))))) := by
  unfold Wt at hT
  refine acalls_of mixed t_beat_Watch_Tick (by simp) ?_
  unfold s_beat_Watch_Tick
  simp -implicitDefEqProofs -dsimp only [go_sem, Nat.reduceEqDiff, Nat.reduceAdd, Nat.reduceMul, Nat.reduceSub, Nat.reduceLT, Nat.reduceLeDiff, Nat.reduceBEq, reduceIte, reduceCtorEq, Int.reduceLT, Int.reduceLE, Int.reduceEq, Int.reduceNeg, Int.reduceToNat, Int.reduceAdd, Int.reduceSub]
  refine lp_bTick (by repeat' (first | exact finX_ext _ _ | assumption | apply blkR_ext | apply thenR_ext | apply AW_ext)) hl 8 0 rfl T (by simpa using hT) ?_
  simp -implicitDefEqProofs -dsimp only [go_sem, Nat.reduceEqDiff, Nat.reduceAdd, Nat.reduceMul, Nat.reduceSub, Nat.reduceLT, Nat.reduceLeDiff, Nat.reduceBEq, reduceIte, reduceCtorEq, Int.reduceLT, Int.reduceLE, Int.reduceEq, Int.reduceNeg, Int.reduceToNat, Int.reduceAdd, Int.reduceSub]
  exact fin_as (.refl _) rfl
end Go.Aw
