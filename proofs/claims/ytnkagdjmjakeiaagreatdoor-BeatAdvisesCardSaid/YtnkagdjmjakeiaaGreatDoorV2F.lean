import Derived.Test.YtnkagdjmjakeiaaGreatDoorV2E
namespace Go.Aw
open Go
open Go.Proofs.Tryz (prog)
set_option linter.all false
set_option maxHeartbeats 8000000
set_option maxRecDepth 8000
def q27 (l : List Wr) : List Wr := q70 (q70 (l.map (q3r 2)) 0 Be.nil) 2 Be.nil
theorem qk3 {R : U6} (hR : ExtR R) {T : Tab} {wid oid : Nat} {l : List Wr} (k : Nat) (hk : k < 3) (hT : Wt T wid 2 l) (hl : WOk 2 l)
  (h2 : AW prog Z5 R [(1, .ptr oid 0), (2, .ptr wid 0), (3, .i .i64 ((k + 1 : Nat) : Int))] [] (T.put wid (.row 49 (waC 2 (q27 l))))) :
  AW prog Z5 R [(1, .ptr oid 0), (2, .ptr wid 0), (3, .i .i64 k)] [] T := by
 have hk3 : (k : Int) < 3 := by omega
 have hws : IntKind.i64.wrap ((k : Int) + 1) = ((k + 1 : Nat) : Int) := O0 (by omega)
 have c1 := qnp hT hl
 have hT1 : Wt (T.put wid (.row 49 (waC 2 (l.map (q3r 2))))) wid 2 (l.map (q3r 2)) := Tab.put_same ..
 have c2 := qh4 hT1 hl.tick 0 Be.nil
 have hT2 : Wt ((T.put wid (.row 49 (waC 2 (l.map (q3r 2))))).put wid (.row 49 (waC 2 (q70 (l.map (q3r 2)) 0 Be.nil)))) wid 2 (q70 (l.map (q3r 2)) 0 Be.nil) := Tab.put_same ..
 have c3 := qh4 hT2 (hl.tick.heard _ _) 2 Be.nil
 rw [Tab.put_put, Tab.put_put] at c3
 simp only [Be.cells, Be.nil] at c2 c3
 refine O4 (l := Z5) rfl hR ?_
 unfold q1h
 simp -implicitDefEqProofs -dsimp only [go_sem, seval, hk3, ↓J0 _ _ q7o]
 refine can c1 ?_
 simp -implicitDefEqProofs -dsimp only [go_sem, seval, ↓J0 _ _ q41]
 refine can c2 ?_
 simp -implicitDefEqProofs -dsimp only [go_sem, seval, ↓J0 _ _ q41]
 rw [Tab.put_put]
 refine can c3 ?_
 simp -implicitDefEqProofs -dsimp only [go_sem, seval, hws]
 exact h2
theorem z0p : qsa (os0 1 3 4) 2 (q27 (q27 (q27 qk5))) (cf0 3 0) = (1, 1) := by decide +kernel
theorem z0q : qcy (os0 1 3 4) 2 (q27 (q27 (q27 qk5))) (os0 1 3 4).cs = ([.i .i64 1, .i .i64 0, .i .u64 1, .i .i64 1], true) := by
 show (if ¬ (qsa (os0 1 3 4) 2 (q27 (q27 (q27 qk5))) (cf0 3 0)).1 = 0 then (adC (qsa (os0 1 3 4) 2 (q27 (q27 (q27 qk5))) (cf0 3 0)) (cf0 3 0), true) else _) = _
 rw [z0p]; rfl
theorem qio : Q4 prog G5 [] (.b true) := by
 refine K8 O1 qan (by simp) fun T => ?_
 have hs : sok ((1 : Nat) : Int) ((3 : Nat) : Int) 4 = true := by decide
 have hN := qrp (T0 := T) hs
 have hg := z0k hs
 simp only [stC] at hN
 unfold q4z
 simp -implicitDefEqProofs -dsimp only [go_sem, seval, ↓J0 _ _ qbs]
 refine CallK.of hN (fun r T1 ⟨oid, idC, e1, h1, h2, h3, h4⟩ => J3 ?_)
 subst e1
 simp -implicitDefEqProofs -dsimp only [go_sem, seval, ↓J0 _ _ qig]
 refine CallK.of (qr7 2) (fun r T2 ⟨wid, e2, hwid, e3⟩ => J3 ?_)
 subst e2; subst e3
 have hc2 : K7 2 = 2 := by decide
 rw [hc2]
 have hwok0 : WOk 2 qk5 := by have := z2s 2; rwa [hc2] at this
 have hok : ∀ l, WOk 2 l -> WOk 2 (q27 l) := fun l h => (h.tick.heard _ _).heard _ _
 have st1 : St T1 oid idC (os0 1 3 4) := by rw [h4]; exact qtz h3
 have n1 : wid ≠ oid := fun e => by rw [e, st1.1] at hwid; simp [Os.row] at hwid
 have n2 : wid ≠ idC := fun e => by rw [e, st1.2] at hwid; simp at hwid
 have hwT : T wid = .unused := by rw [h4, oT, Tab.put_ne _ _ n2, Tab.put_ne _ _ n1] at hwid; exact hwid
 have st2 : St (T1.put wid (.row 49 (waC 2 (q27 (q27 (q27 qk5)))))) oid idC (os0 1 3 4) := ⟨by rw [Tab.put_ne _ _ (Ne.symm n1)]; exact st1.1, by rw [Tab.put_ne _ _ (Ne.symm n2)]; exact st1.2⟩
 have hA := qsb (wid := wid) (Tab.put_same ..) (hok _ (hok _ (hok _ hwok0))) st2 hg
 rw [z0q] at hA
 simp -implicitDefEqProofs -dsimp only [go_sem, seval]
 refine qk3 (l := qk5) (k := 0) (by repeat' (first | exact N8 _ _ | assumption | apply N7 | apply N0 | apply V0)) (by omega) (Tab.put_same ..) hwok0 ?_
 rw [Tab.put_put]
 refine qk3 (l := q27 qk5) (k := 1) (by repeat' (first | exact N8 _ _ | assumption | apply N7 | apply N0 | apply V0)) (by omega) (Tab.put_same ..) (hok _ hwok0) ?_
 rw [Tab.put_put]
 refine qk3 (l := q27 (q27 qk5)) (k := 2) (by repeat' (first | exact N8 _ _ | assumption | apply N7 | apply N0 | apply V0)) (by omega) (Tab.put_same ..) (hok _ (hok _ hwok0)) ?_
 rw [Tab.put_put]
 refine O4 (l := Z5) rfl (by repeat' (first | exact N8 _ _ | assumption | apply N7 | apply N0 | apply V0)) ?_
 unfold q1h
 simp -implicitDefEqProofs -dsimp only [go_sem, seval, show ((2 + 1 : Nat) : Int) = 3 from rfl, ↓J0 _ _ qdi]
 refine can hA ?_
 simp -implicitDefEqProofs -dsimp only [go_sem, seval, q3t, q5c, decide_true, Bool.and_true, Bool.true_and]
 have hle : TabLe T (T1.put wid (.row 49 (waC 2 (q27 (q27 (q27 qk5)))))) := by
  rw [h4, oT]
  exact (((TabLe.refl T).put h1).put h2).put hwT
 exact hle.fin
end Go.Aw
