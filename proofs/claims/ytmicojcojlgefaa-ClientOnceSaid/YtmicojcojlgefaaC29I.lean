import Derived.Test.YtmicojcojlgefaaC29H
namespace Go.Aw
open Go
open Go.Proofs.Try (prog)
set_option linter.all false
set_option maxHeartbeats 8000000
set_option maxRecDepth 8000

/-! How a client stands. -/
def waitsR (c : Cl) : AV := match c.w with
  | none => .tup [.agg [.i .i64 0, .i .u64 0], .b false]
  | some _ => .tup [.agg [.i .i64 c.me, .i .u64 c.sq], .b true]
theorem ac_Waits {T : Tab} {id r l w x : Nat} {c : Cl} (h : Ct T id r l w x c) : ACalls prog f_client_Client_Waits [.ptr id 0] T (fun v T' => v = waitsR c ∧ T' = T) := by
  refine acalls_of mixed t_client_Client_Waits (by simp) ?_
  have hT := h.cr
  simp only [clRow] at hT
  unfold s_client_Client_Waits waitsR
  rcases hw : c.w with _ | o
  · simp only [hw, ptO_none] at hT ⊢
    simp -implicitDefEqProofs -dsimp only [go_sem, seval, hT, eqAv, ↓g_gdc, rcOk, true_and]
    exact fin_as (.refl _) rfl
  · simp only [hw, ptO_some] at hT ⊢
    have hW := h.cw _ hw
    simp only [wRow] at hW
    simp -implicitDefEqProofs -dsimp only [go_sem, seval, hT, hW, eqAv, ↓g_gdc, rcOk, true_and]
    exact fin_as (.refl _) rfl
def lastR (c : Cl) : AV := match c.la with
  | none => .tup [.agg [.i .i64 0, .i .u64 0, .i .i64 0, .i .i64 0, .s [], .i .u64 0], .b false]
  | some y => .tup [.agg [.i .i64 y.cl, .i .u64 y.sq, .i .i64 y.n, .i .i64 y.co, .s y.v, .i .u64 y.q], .b true]
theorem ac_Last {T : Tab} {id r l w x : Nat} {c : Cl} (h : Ct T id r l w x c) : ACalls prog f_client_Client_Last [.ptr id 0] T (fun v T' => v = lastR c ∧ T' = T) := by
  refine acalls_of mixed t_client_Client_Last (by simp) ?_
  have hT := h.cr
  simp only [clRow] at hT
  unfold s_client_Client_Last lastR
  rcases hw : c.la with _ | y
  · simp only [hw, ptO_none] at hT ⊢
    simp -implicitDefEqProofs -dsimp only [go_sem, seval, hT, eqAv, ↓g_gdc, rcOk, true_and]
    exact fin_as (.refl _) rfl
  · simp only [hw, ptO_some] at hT ⊢
    have hX := (h.cy _ hw).1
    simp only [rRow] at hX
    simp -implicitDefEqProofs -dsimp only [go_sem, seval, hT, hX, eqAv, ↓g_gdc, rcOk, true_and]
    exact fin_as (.refl _) rfl
/-! A letter comes. -/
def lnL (l : List Cf) (cs : List Cf) : List Cf := cs.foldl lrnd l
def rsOf (m : Lt Cf) : Cr := ⟨m.cl, m.sq, m.n, m.co, m.v, m.q⟩
def mine (c : Cl) (m : Lt Cf) : Bool := lrF m && (decide (m.tk = 3) && decide (m.tn = c.me))
def ansd (c : Cl) (m : Lt Cf) : Bool := (decide (m.k = 21) && decide (m.fk = 2)) && (c.w.isSome && (decide (m.cl = c.me) && decide (m.sq = (c.sq : Int))))
def hearF (c : Cl) (m : Lt Cf) : Cl × Bool :=
  if mine c m = false then (c, false) else if (decide (m.k = 2) && decide (m.fk = 1)) = true then ({ c with l := lnL c.l m.cs }, false) else
  if ansd c m = true then ({ c with w := none, la := some (rsOf m) }, true) else (c, false)
theorem lnL_ok : ∀ (cs : List Cf) {l : List Cf}, RtOk l → (∀ c ∈ cs, 0 ≤ c.ep) → RtOk (lnL l cs)
  | [], _, h, _ => h
  | c :: cs, _, h, h2 => lnL_ok cs (lrnd_ok h (h2 c (List.mem_cons_self ..))) fun d hd => h2 d (List.mem_cons_of_mem _ hd)
theorem Ct.learn {T : Tab} {id r l w x : Nat} {c : Cl} (h : Ct T id r l w x c) (l' : List Cf) (hl : l'.length = c.l.length) : Ct (T.put l (.row 5 (cfsC l'))) id r l w x { c with l := l' } := by
  refine ⟨?_, ⟨?_, ?_⟩, ?_, ?_⟩
  · rw [Tab.put_ne _ _ h.id_l]; exact h.cr
  · rw [Tab.put_ne _ _ h.rt.ne, h.rt.1, hl]
  · exact Tab.put_same ..
  · intro o ho; rw [Tab.put_ne _ _ (Ne.symm (h.l_w ho))]; exact h.cw o ho
  · intro y hy
    obtain ⟨h1, h2⟩ := h.cy y hy
    exact ⟨by rw [Tab.put_ne _ _ (h.x_l hy)]; exact h1, h2⟩
theorem lrnd_len (l : List Cf) (c : Cf) : (lrnd l c).length = l.length := by unfold lrnd; split <;> simp
theorem lp_Hear {R : RPost} (hR : ExtR R) {id r l w x : Nat} {T0 : Tab} {cs : List Cf} (hl : cs.length < 1000000) (hc : ∀ c ∈ cs, Small c ∧ 0 ≤ c.ep) : ∀ (us : List Cf) (k : Nat), cs.drop k = us → k ≤ cs.length → ∀ (c : Cl) (T : Tab), RtOk c.l → Ct T id r l w x c → Fr [l] [] T0 T →
    (∀ T, Ct T id r l w x { c with l := lnL c.l us } → Fr [l] [] T0 T → R (.exit 1) [(0, .ptr id 0), (35, .fz cs.length (cs.flatMap cfC) none), (36, .i .i64 cs.length), (37, .i .i64 cs.length), (38, .b false)] [] T) →
    AW prog client_Client_Hear_l0 R [(0, .ptr id 0), (35, .fz cs.length (cs.flatMap cfC) none), (36, .i .i64 cs.length), (37, .i .i64 k)] [] T := by
  intro us
  induction us with
  | nil =>
    intro k hk hle c T hok h hf h2
    have hk' := drop_nil hk hle
    refine AW_loop hR ?_
    unfold client_Client_Hear_l0b
    simp -implicitDefEqProofs -dsimp only [go_sem, seval, hk', Int.lt_irrefl]
    rw [hk'] at h2
    exact h2 T h hf
  | cons u us ih =>
    intro k hk hle c T hok h hf h2
    obtain ⟨hlt, hy, hk'⟩ := drop_lt hk
    have cl : ∀ c : Cf, (cfC c).length = 5 := fun _ => rfl
    have ea := flat_at cl hy
    have e5 : k * 5 + 5 ≤ (cs.flatMap cfC).length := by rw [flat_length cl]; omega
    have hs : IntKind.i64.wrap ((k : Int) + 1) = ((k + 1 : Nat) : Int) := wrap_succ (by omega)
    have hu := hc u (List.mem_of_getElem? hy)
    have hT := h.cr
    simp only [clRow] at hT
    have hac := ac_Learn h.rt hok.small u none none hu.1 hok.ep
    simp only [Cf.cells] at hac
    have hct := h.learn (lrnd c.l u) (lrnd_len _ _)
    have hf2 : Fr [l] [] T0 (T.put l (.row 5 (cfsC (lrnd c.l u)))) := ⟨fun j h1 h2 => by rw [Tab.put_ne _ _ (fun e => h2 (by simp [e]))]; exact hf.1 j h1 h2, fun _ h => by cases h⟩
    refine AW_loopD (l := client_Client_Hear_l0) rfl hR ?_
    unfold client_Client_Hear_l0b
    simp -implicitDefEqProofs -dsimp only [go_sem, seval, Int.ofNat_lt, hlt, Int.natCast_nonneg, Int.toNat_natCast, ea, e5, cfC, Cf.cells, List.cons_append, List.nil_append, hT, ↓g_call _ _ c_route_Route_Learn]
    refine CallK.of hac fun v T' hv => ?_
    rw [hv.2]
    obtain ⟨rfl, _⟩ := hv
    refine aft_nil ?_
    simp -implicitDefEqProofs -dsimp only [go_sem, seval, hs]
    exact ih (k + 1) hk' hlt { c with l := lrnd c.l u } _ (lrnd_ok hok hu.2) hct hf2 h2
end Go.Aw

