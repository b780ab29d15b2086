import Derived.Test.YtmicojcojlgefaaC29B
namespace Go.Aw
open Go
open Go.Proofs.Try (prog)
set_option linter.all false
set_option maxHeartbeats 8000000
set_option maxRecDepth 8000
def zL : Lt Cf := ⟨0, 0, 0, 0, 0, 0, 0, 0, 0, 0, false, 0, 0, [], [], [], zT, 0, 0, [], 0, 0⟩
def qyd (me kd to : Int) (o : Lt Cf) : Lt Cf := { o with fk := 3, fn := me, tk := kd, tn := to }
theorem qmm {T : Tab} {id r w x : Nat} {c : Cl} (hT : T id = qd1 c r w x) (kd to : Int) (o : Lt Cf) : ACalls prog q09 [.ptr id 0, .i .i64 kd, .i .i64 to, .agg o.cc] T (fun v T' => v = .agg (qyd c.me kd to o).cc /\ T' = T) := by
 refine I5 U6 qbq (by simp) ?_
 have hT' := hT
 simp only [qd1] at hT'
 unfold q6s
 simp -implicitDefEqProofs -dsimp only [go_sem, seval, hT', Lt.cells]
 exact q51 (.refl _) rfl
end Go.Aw
namespace Go.Aw
open Go
open Go.Proofs.Try (prog)
set_option linter.all false
set_option maxHeartbeats 8000000
set_option maxRecDepth 8000
def qxz (l : List Cf) (key : Bs) (t : Int) : Int := match l[q04 key l.length]? with
 | some c => (c.ch[rdx t c.ch.length]?).getD 0
 | none => 0
def z13 (l : List Cf) (t : Tx) : Int := match (q63 t.keys l.length)[0]? with
 | some x => match l[x.toNat]? with
  | some c => c.at 0
  | none => 0
 | none => 0
def gtL (c : Cl) (o : Cp) (t : Int) : Lt Cf := { zL with fk := 3, fn := c.me, tk := 2, tn := qxz c.l o.key t, k := 19, cl := c.me, sq := c.sq, v := o.key }
def doL (c : Cl) (o : Cp) : Lt Cf := { zL with fk := 3, fn := c.me, tk := 2, tn := z13 c.l (txn o c.me c.sq), k := 20, t := txn o c.me c.sq }
def knL (c : Cl) (t : Int) : Lt Cf := { zL with fk := 3, fn := c.me, tk := 1, tn := (t.tdiv 3).tmod c.ma, k := 3 }
def fsL (c : Cl) (o : Cp) (t : Int) : Lt Cf := if o.k = 1 then gtL c o t else doL c o
def qsc (c : Cl) (o : Cp) (t : Int) : List (Lt Cf) := fsL c o t :: if t.tmod 3 = 2 then [knL c t] else []
structure Cl.Ok (c : Cl) : Prop where
 me : 0 <= c.me /\ c.me < 6
 ma : 1 <= c.ma /\ c.ma <= 5
 sq : c.sq < 18446744073709551616
 l : RtOk c.l
 w : ∀ o, c.w = some o -> (o.1.Fine /\ qqs o.1 = true /\ 1 <= c.sq) /\ 0 <= o.2 /\ o.2 < 1000000
theorem quc {o : Cp} {cl sq : Int} (h : qfe (txn o 0 1) = true) (h1 : 0 <= cl /\ cl < 6) (h2 : 0 < sq) : qfe (txn o cl sq) = true := by
 have key : ∀ p rs ws, qfe ⟨0, 1, p, rs, ws⟩ = true -> qfe ⟨cl, sq, p, rs, ws⟩ = true := fun p rs ws h => by
  simp only [qfe, Bool.and_eq_true] at h ⊢
  have e : qo6 cl sq = true := by simp only [qo6, Bool.and_eq_true, decide_eq_true_eq]; omega
  rw [e]
  exact ⟨⟨⟨⟨⟨rfl, h.1.1.1.1.2⟩, h.1.1.1.2⟩, h.1.1.2⟩, h.1.2⟩, h.2⟩
 unfold txn at h ⊢
 split
 ·rename_i e; rw [if_pos e] at h; exact key _ _ _ h
 ·rename_i e; rw [if_neg e] at h
  split
  ·rename_i e; rw [if_pos e] at h; exact key _ _ _ h
  ·rename_i e; rw [if_neg e] at h
   split
   ·rename_i e; rw [if_pos e] at h; exact key _ _ _ h
   ·rename_i e; rw [if_neg e] at h; exact absurd h (by decide)
theorem qud {l : List Cf} (h : RtOk l) (key : Bs) (t : Int) : ∃ c x, l[q04 key l.length]? = some c /\ c.ch[rdx t c.ch.length]? = some x /\ qxz l key t = x := by
 have hn := h.n
 have h1 := qd0 (k := key) hn
 obtain ⟨c, hc⟩ : ∃ c, l[q04 key l.length]? = some c := ⟨_, List.getElem?_eq_getElem h1⟩
 have hr := qea (h.c _ c hc).1
 have h2 := (qla (t := t) (n := c.ch.length) (by omega)).2.2.2.2
 obtain ⟨x, hx⟩ : ∃ x, c.ch[rdx t c.ch.length]? = some x := ⟨_, List.getElem?_eq_getElem h2⟩
 refine ⟨c, x, hc, hx, ?_⟩
 unfold qxz
 rw [hc]
 simp only
 rw [hx]
 rfl
end Go.Aw
