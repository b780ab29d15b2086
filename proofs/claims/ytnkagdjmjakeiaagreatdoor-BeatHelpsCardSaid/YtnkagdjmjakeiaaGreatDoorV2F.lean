import Derived.Test.YtnkagdjmjakeiaaGreatDoorV2E
namespace Go.Aw
open Go
open Go.Proofs.Tryz (prog)
set_option linter.all false
set_option maxHeartbeats 8000000
set_option maxRecDepth 8000
def q16 (l : List Wr) : List Wr := q4s (q4s (l.map (q2f 2)) 0 Be.nil) 2 Be.nil
theorem qgb {R : Y5} (hR : ExtR R) {T : Tab} {wid oid : Nat} {l : List Wr} (k : Nat) (hk : k < 3) (hT : Wt T wid 2 l) (hl : WOk 2 l)
  (h2 : AW prog Y4 R [(1, .ptr oid 0), (2, .ptr wid 0), (3, .i .i64 ((k + 1 : Nat) : Int))] [] (T.put wid (.row 49 (waC 2 (q16 l))))) :
  AW prog Y4 R [(1, .ptr oid 0), (2, .ptr wid 0), (3, .i .i64 k)] [] T := by
 have hk3 : (k : Int) < 3 := by omega
 have hws : IntKind.i64.wrap ((k : Int) + 1) = ((k + 1 : Nat) : Int) := Q0 (by omega)
 have c1 := qjo hT hl
 have hT1 : Wt (T.put wid (.row 49 (waC 2 (l.map (q2f 2))))) wid 2 (l.map (q2f 2)) := Tab.put_same ..
 have c2 := qdi hT1 hl.tick 0 Be.nil
 have hT2 : Wt ((T.put wid (.row 49 (waC 2 (l.map (q2f 2))))).put wid (.row 49 (waC 2 (q4s (l.map (q2f 2)) 0 Be.nil)))) wid 2 (q4s (l.map (q2f 2)) 0 Be.nil) := Tab.put_same ..
 have c3 := qdi hT2 (hl.tick.heard _ _) 2 Be.nil
 rw [Tab.put_put, Tab.put_put] at c3
 simp only [Be.cells, Be.nil] at c2 c3
 refine Q7 (l := Y4) rfl hR ?_
 unfold q0o
 simp -implicitDefEqProofs -dsimp only [go_sem, seval, hk3, ↓J1 _ _ q5d]
 refine can c1 ?_
 simp -implicitDefEqProofs -dsimp only [go_sem, seval, ↓J1 _ _ q2q]
 refine can c2 ?_
 simp -implicitDefEqProofs -dsimp only [go_sem, seval, ↓J1 _ _ q2q]
 rw [Tab.put_put]
 refine can c3 ?_
 simp -implicitDefEqProofs -dsimp only [go_sem, seval, hws]
 exact h2
theorem qvx : qhp (os0 1 3 4) 2 (q16 (q16 (q16 qhn))) (cf0 3 0) = (1, 1) := by decide +kernel
theorem qvy : qby (os0 1 3 4) 2 (q16 (q16 (q16 qhn))) (os0 1 3 4).cs = ([.i .i64 1, .i .i64 0, .i .u64 1, .i .i64 1], true) := by
 show (if ¬ (qhp (os0 1 3 4) 2 (q16 (q16 (q16 qhn))) (cf0 3 0)).1 = 0 then (adC (qhp (os0 1 3 4) 2 (q16 (q16 (q16 qhn))) (cf0 3 0)) (cf0 3 0), true) else _) = _
 rw [qvx]; rfl
theorem q7r : U4 prog U8 [] (.b true) := by
 refine K9 O2 q7v (by simp) fun T => ?_
 have hs : sok ((1 : Nat) : Int) ((3 : Nat) : Int) 4 = true := by decide
 have hN := qnj (T0 := T) hs
 have hg := qvt hs
 simp only [stC] at hN
 unfold q3l
 simp -implicitDefEqProofs -dsimp only [go_sem, seval, ↓J1 _ _ q41]
 refine CallK.of hN (fun r T1 ⟨oid, idC, e1, h1, h2, h3, h4⟩ => J5 ?_)
 subst e1
 simp -implicitDefEqProofs -dsimp only [go_sem, seval, ↓J1 _ _ qet]
 refine CallK.of (qn4 2) (fun r T2 ⟨wid, e2, hwid, e3⟩ => J5 ?_)
 subst e2; subst e3
 have hc2 : G2 2 = 2 := by decide
 rw [hc2]
 have hwok0 : WOk 2 qhn := by have := qy5 2; rwa [hc2] at this
 have hok : ∀ l, WOk 2 l -> WOk 2 (q16 l) := fun l h => (h.tick.heard _ _).heard _ _
 have st1 : St T1 oid idC (os0 1 3 4) := by rw [h4]; exact qky h3
 have n1 : wid ≠ oid := fun e => by rw [e, st1.1] at hwid; simp [Os.row] at hwid
 have n2 : wid ≠ idC := fun e => by rw [e, st1.2] at hwid; simp at hwid
 have hwT : T wid = .unused := by rw [h4, oT, Tab.put_ne _ _ n2, Tab.put_ne _ _ n1] at hwid; exact hwid
 have st2 : St (T1.put wid (.row 49 (waC 2 (q16 (q16 (q16 qhn)))))) oid idC (os0 1 3 4) := ⟨by rw [Tab.put_ne _ _ (Ne.symm n1)]; exact st1.1, by rw [Tab.put_ne _ _ (Ne.symm n2)]; exact st1.2⟩
 have hA := qnu (wid := wid) (Tab.put_same ..) (hok _ (hok _ (hok _ hwok0))) st2 hg
 rw [qvy] at hA
 simp -implicitDefEqProofs -dsimp only [go_sem, seval]
 refine qgb (l := qhn) (k := 0) (by repeat' (first | exact O6 _ _ | assumption | apply O5 | apply N2 | apply Z8)) (by omega) (Tab.put_same ..) hwok0 ?_
 rw [Tab.put_put]
 refine qgb (l := q16 qhn) (k := 1) (by repeat' (first | exact O6 _ _ | assumption | apply O5 | apply N2 | apply Z8)) (by omega) (Tab.put_same ..) (hok _ hwok0) ?_
 rw [Tab.put_put]
 refine qgb (l := q16 (q16 qhn)) (k := 2) (by repeat' (first | exact O6 _ _ | assumption | apply O5 | apply N2 | apply Z8)) (by omega) (Tab.put_same ..) (hok _ (hok _ hwok0)) ?_
 rw [Tab.put_put]
 refine Q7 (l := Y4) rfl (by repeat' (first | exact O6 _ _ | assumption | apply O5 | apply N2 | apply Z8)) ?_
 unfold q0o
 simp -implicitDefEqProofs -dsimp only [go_sem, seval, show ((2 + 1 : Nat) : Int) = 3 from rfl, ↓J1 _ _ q3u]
 refine can hA ?_
 simp -implicitDefEqProofs -dsimp only [go_sem, seval, q2h, q3s, decide_true, Bool.and_true, Bool.true_and]
 have hle : TabLe T (T1.put wid (.row 49 (waC 2 (q16 (q16 (q16 qhn)))))) := by
  rw [h4, oT]
  exact (((TabLe.refl T).put h1).put h2).put hwT
 exact hle.fin
end Go.Aw
