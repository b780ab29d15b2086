import Derived.Test.YtmicojcojlgefaaC29B
namespace Go.Aw
open Go
open Go.Proofs.Try (prog)
set_option linter.all false
set_option maxHeartbeats 8000000
set_option maxRecDepth 8000

/-! What a client sends. -/
def zL : Lt Cf := ⟨0, 0, 0, 0, 0, 0, 0, 0, 0, 0, false, 0, 0, [], [], [], zT, 0, 0, [], 0, 0⟩
def sndL (me kd to : Int) (o : Lt Cf) : Lt Cf := { o with fk := 3, fn := me, tk := kd, tn := to }
theorem ac_send {T : Tab} {id r w x : Nat} {c : Cl} (hT : T id = clRow c r w x) (kd to : Int) (o : Lt Cf) : ACalls prog f_client_Client_send [.ptr id 0, .i .i64 kd, .i .i64 to, .agg o.cc] T (fun v T' => v = .agg (sndL c.me kd to o).cc ∧ T' = T) := by
  refine acalls_of mixed t_client_Client_send (by simp) ?_
  have hT' := hT
  simp only [clRow] at hT'
  unfold s_client_Client_send
  simp -implicitDefEqProofs -dsimp only [go_sem, seval, hT', Lt.cells]
  exact fin_as (.refl _) rfl
end Go.Aw

namespace Go.Aw
open Go
open Go.Proofs.Try (prog)
set_option linter.all false
set_option maxHeartbeats 8000000
set_option maxRecDepth 8000

def rdTo (l : List Cf) (key : Bs) (t : Int) : Int := match l[shardOf key l.length]? with
  | some c => (c.ch[rdx t c.ch.length]?).getD 0
  | none => 0
def wrTo (l : List Cf) (t : Tx) : Int := match (shardsOf t.keys l.length)[0]? with
  | some x => match l[x.toNat]? with
    | some c => c.at 0
    | none => 0
  | none => 0
def gtL (c : Cl) (o : Cp) (t : Int) : Lt Cf := { zL with fk := 3, fn := c.me, tk := 2, tn := rdTo c.l o.key t, k := 19, cl := c.me, sq := c.sq, v := o.key }
def doL (c : Cl) (o : Cp) : Lt Cf := { zL with fk := 3, fn := c.me, tk := 2, tn := wrTo c.l (txn o c.me c.sq), k := 20, t := txn o c.me c.sq }
def knL (c : Cl) (t : Int) : Lt Cf := { zL with fk := 3, fn := c.me, tk := 1, tn := (t.tdiv 3).tmod c.ma, k := 3 }
def fsL (c : Cl) (o : Cp) (t : Int) : Lt Cf := if o.k = 1 then gtL c o t else doL c o
def tryL (c : Cl) (o : Cp) (t : Int) : List (Lt Cf) := fsL c o t :: if t.tmod 3 = 2 then [knL c t] else []
structure Cl.Ok (c : Cl) : Prop where
  me : 0 ≤ c.me ∧ c.me < 6
  ma : 1 ≤ c.ma ∧ c.ma ≤ 5
  sq : c.sq < 18446744073709551616
  l : RtOk c.l
  w : ∀ o, c.w = some o → (o.1.Fine ∧ mayF o.1 = true ∧ 1 ≤ c.sq) ∧ 0 ≤ o.2 ∧ o.2 < 1000000
theorem txOk_id {o : Cp} {cl sq : Int} (h : txOk (txn o 0 1) = true) (h1 : 0 ≤ cl ∧ cl < 6) (h2 : 0 < sq) : txOk (txn o cl sq) = true := by
  have key : ∀ p rs ws, txOk ⟨0, 1, p, rs, ws⟩ = true → txOk ⟨cl, sq, p, rs, ws⟩ = true := fun p rs ws h => by
    simp only [txOk, Bool.and_eq_true] at h ⊢
    have e : idOk cl sq = true := by simp only [idOk, Bool.and_eq_true, decide_eq_true_eq]; omega
    rw [e]
    exact ⟨⟨⟨⟨⟨rfl, h.1.1.1.1.2⟩, h.1.1.1.2⟩, h.1.1.2⟩, h.1.2⟩, h.2⟩
  unfold txn at h ⊢
  split
  · rename_i e; rw [if_pos e] at h; exact key _ _ _ h
  · rename_i e; rw [if_neg e] at h
    split
    · rename_i e; rw [if_pos e] at h; exact key _ _ _ h
    · rename_i e; rw [if_neg e] at h
      split
      · rename_i e; rw [if_pos e] at h; exact key _ _ _ h
      · rename_i e; rw [if_neg e] at h; exact absurd h (by decide)
theorem rd_some {l : List Cf} (h : RtOk l) (key : Bs) (t : Int) : ∃ c x, l[shardOf key l.length]? = some c ∧ c.ch[rdx t c.ch.length]? = some x ∧ rdTo l key t = x := by
  have hn := h.n
  have h1 := shardOf_len (k := key) hn
  obtain ⟨c, hc⟩ : ∃ c, l[shardOf key l.length]? = some c := ⟨_, List.getElem?_eq_getElem h1⟩
  have hr := right_len (h.c _ c hc).1
  have h2 := (rdx_facts (t := t) (n := c.ch.length) (by omega)).2.2.2.2
  obtain ⟨x, hx⟩ : ∃ x, c.ch[rdx t c.ch.length]? = some x := ⟨_, List.getElem?_eq_getElem h2⟩
  refine ⟨c, x, hc, hx, ?_⟩
  unfold rdTo
  rw [hc]
  simp only
  rw [hx]
  rfl
end Go.Aw

namespace Go.Aw
open Go
open Go.Proofs.Try (prog)
set_option linter.all false
set_option maxHeartbeats 8000000
set_option maxRecDepth 8000

theorem idxs_first : ∀ (bs : List Bool) (k j : Nat), bs[j]? = some true → ∃ x : Nat, (idxs k bs)[0]? = some (x : Int) ∧ x ≤ k + j
  | [], k, j, h => by simp at h
  | b :: bs, k, j, h => by
    cases b with
    | true => exact ⟨k, by simp [idxs], by omega⟩
    | false =>
      cases j with
      | zero => simp at h
      | succ j =>
        obtain ⟨x, h1, h2⟩ := idxs_first bs (k + 1) j (by simpa using h)
        exact ⟨x, by simpa [idxs] using h1, by omega⟩
theorem shards_some {ks : List Bs} {n : Nat} (hn : 1 ≤ n ∧ n ≤ 4) (hk : ks ≠ []) : ∃ x : Nat, (shardsOf ks n)[0]? = some (x : Int) ∧ x < n := by
  obtain ⟨k, ks', rfl⟩ := List.exists_cons_of_ne_nil hk
  have h1 := shardOf_len (k := k) hn
  have h2 : (seenL (k :: ks') n)[shardOf k n]? = some true := by
    have h4 : shardOf k n = 0 ∨ shardOf k n = 1 ∨ shardOf k n = 2 ∨ shardOf k n = 3 := by omega
    rcases h4 with h | h | h | h <;> simp [seenL, hasS, h]
  obtain ⟨x, h3, h4⟩ := idxs_first _ 0 _ h2
  exact ⟨x, h3, by omega⟩
theorem wr_some {l : List Cf} (h : RtOk l) {t : Tx} (ht : txOk t = true) : ∃ (x : Nat) (c : Cf), (txOk t = true → (shardsOf t.keys l.length)[0]? = some (x : Int)) ∧ l[x]? = some c ∧ wrTo l t = c.at 0 := by
  have hk : t.keys ≠ [] := by
    simp only [txOk, Bool.and_eq_true, Bool.not_eq_true', decide_eq_false_iff_not] at ht
    have := ht.1.1.2
    intro e
    have hl : t.keys.length = 0 := by rw [e]; rfl
    simp only [Tx.keys, List.length_append, List.length_map] at hl
    omega
  obtain ⟨x, h1, h2⟩ := shards_some h.n hk
  obtain ⟨c, hc⟩ : ∃ c, l[x]? = some c := ⟨_, List.getElem?_eq_getElem h2⟩
  refine ⟨x, c, fun _ => h1, hc, ?_⟩
  unfold wrTo
  rw [h1]
  simp only [Int.toNat_natCast]
  rw [hc]
end Go.Aw

