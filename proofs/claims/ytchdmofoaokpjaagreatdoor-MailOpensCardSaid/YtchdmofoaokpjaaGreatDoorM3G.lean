import Derived.Test.YtchdmofoaokpjaaGreatDoorM3B
import Derived.Test.YtchdmofoaokpjaaGreatDoorM3E
namespace Go.Aw
open Go
open Go.Proofs.Tryz (prog)
set_option linter.all false
set_option maxHeartbeats 8000000
set_option maxRecDepth 8000
theorem z6x {b : Bs} (h : opE b ≠ none) : ∃ e, loE b = some e /\ ¬ e.code = 0 := by
 unfold loE
 rcases hb : opE b with _ | e
 ·exact absurd hb h
 ·exact ⟨_, rfl, show ¬ e.code = 0 from z0c hb⟩
end Go.Aw
namespace Go.Aw
open Go
open Go.Proofs.Tryz (prog)
set_option linter.all false
set_option maxHeartbeats 8000000
set_option maxRecDepth 8000
theorem ACalls.borrowQ [Glob] {P : Program} {f : FuncId} {avs : List AV} {T : Tab} {S : List Nat} {r : AV} {Q : AV -> Prop} (hn : S.Nodup) (hS : ∀ id ∈ S, T id ≠ .unused) (h : PCalls P f (avs.map (q99 T S)) r)
  (hr : ∀ X w v, vr X w r v -> ∃ r', Q r' /\ ∀ X' w', vr X' w' r' v) : ACalls P f avs T (fun v T' => Q v /\ T' = T) := by
 intro X lam w cargs hrel hv
 have h0 : SR X T w X lam [] [] T { tmps := #[], defers := [] } w := ⟨hrel, .refl X T w, fun l c hc => by simp [q10] at hc, fun s x hs => by simp [q10] at hs, rfl⟩
 have h1 := h0.freezes S hn hS
 have h2 := h1.sub (T' := Tab.nil) (fun id => .inl rfl)
 have hv' : vrs (X.addFzs S) w (avs.map (q99 T S)) cargs := hv.map fun x v hx => qa1 hrel hx
 have hc := h Tab.nil (X.addFzs S) lam w cargs h2.rel hv'
 refine hc.mono fun e w' ⟨v, x, T', X', lam', he, ⟨hx, hT⟩, hvr, hrel', hst⟩ => ?_
 subst hx; subst hT
 have hk : ∀ b, b < w.heap.size -> w'.heap[b]? = w.heap[b]? := fun b hb => hst.kept b hb fun ⟨id, hid, _⟩ => hid rfl
 have hfz : q5e X w w' := fun b hb => hk b (hrel.fzlt b hb)
 have hlt : ∀ id, T id ≠ .unused -> (X.β id).blk < w.heap.size := fun id hid => hrel.live_lt ⟨id, hid, rfl⟩
 obtain ⟨r', hq, hr'⟩ := hr _ _ _ hvr
 refine ⟨v, r', T, X, lam, he, ⟨hq, rfl⟩, hr' _ _, ⟨hrel.fresh, fun b hb => Nat.lt_of_lt_of_le (hrel.fzlt b hb) hst.size, fun id esz cells hT => ?_, fun id es hT => ?_, hrel.live_fz, hrel.live_inj, fun l c hc => by simp [q10] at hc, fun l c hc => by simp [q10] at hc, fun l l' c c' hc => by simp [q10] at hc, fun l c hc => by simp [q10] at hc, q19 (.refl X) hfz hrel.glob⟩,
  ⟨.refl X, hst.os, hst.tape, hst.output, hst.size, fun b hb _ => hk b hb, fun _ _ hf => .inl hf, fun _ _ hl => hl, fun _ _ hT => hT⟩⟩
 ·exact (hrel.row id esz cells hT).mono (.refl X) hfz (hrel.id_lt (by simp [hT])) (hk _ (hlt id (by simp [hT])))
 ·exact (hrel.map id es hT).mono (.refl X) hfz (hrel.id_lt (by simp [hT])) (hk _ (hlt id (by simp [hT])))
theorem z0l {X : Cx} {w : World} : ∀ {us : List Value}, (∀ u ∈ us, u.oneCell' = true) -> vrs X w (us.map AV.raw) us
 | [], _ => by simp [vrs]
 | u :: us, h => by
  simp only [List.map_cons, vrs]
  exact ⟨u, us, rfl, by simp only [vr]; exact ⟨trivial, h u (List.mem_cons_self ..)⟩, z0l fun x hx => h x (List.mem_cons_of_mem _ hx)⟩
theorem z0m {T : Tab} {i : Nat} {b : Bs} (hi : T i = .row 1 (K8 b)) (h0 : 0 < b.length) (hn : b.length <= 100000) :
  ACalls prog q2g [.sl i 0 b.length none] T (fun v T' => (∃ us : List Value, (us.map AV.raw).length = 26 /\ v = .tup [.agg (us.map AV.raw), .i .i64 (q57 (loE b))]) /\ T' = T) := by
 have hf : [AV.sl i 0 b.length none].map (q99 T [i]) = [bts b none] := by
  simp only [List.map_cons, List.map_nil, q99, qc6, List.mem_singleton, if_true, hi, Nat.zero_add, List.drop_zero, bts]
  rw [if_pos (by rw [Y2]; omega), List.take_of_length_le (by rw [Y2]; omega)]
 have hp := qjp b none (by omega)
 have hcl : (loA b).cc.length = 26 := rfl
 generalize (loA b).cc = cc at *
 rw [<- hf] at hp
 refine ACalls.borrowQ (by simp) (by simp [hi]) hp fun X w v hv => ?_
 simp only [vr, vrs] at hv
 obtain ⟨us, ⟨u1, r1, rfl, ⟨vs, hvs, hone, rfl⟩, u2, r2, rfl, rfl, rfl⟩, rfl⟩ := hv
 refine ⟨_, ⟨vs, by rw [List.length_map, <- hcl]; exact hvs.length, rfl⟩, fun X' w' => ?_⟩
 simp only [vr, vrs]
 exact ⟨_, ⟨_, _, rfl, ⟨vs, z0l hone, hone, rfl⟩, _, _, rfl, rfl, rfl⟩, rfl⟩
end Go.Aw
namespace Go.Aw
open Go
open Go.Proofs.Tryz (prog)
set_option linter.all false
set_option maxHeartbeats 8000000
set_option maxRecDepth 8000
theorem z0n {R : G9} (hR : ExtR R) {T : Tab} {id : Nat} {l : List UInt8} {m : W} {p : Nat} (hl : l.length <= 100000) (hp : p + 31 < 8 * l.length)
  (h2 : R (.exit 0) [(3, wv m), (11, .sl id 0 l.length none), (14, .i .i64 p), (47, .i .i64 32), (48, .b false)] [] (T.put id (.row 1 (K8 (q0m l p m 32))))) : ∀ (d j : Nat), j + d = 32 ->
  AW prog q62 R [(3, wv m), (11, .sl id 0 l.length none), (14, .i .i64 p), (47, .i .i64 j)] [] (T.put id (.row 1 (K8 (q0m l p m j)))) := by
 intro d
 induction d with
 | zero =>
  intro j hj
  have : j = 32 := by omega
  subst this
  refine V1 hR ?_
  unfold q5b
  simp -implicitDefEqProofs -dsimp only [go_sem, seval, show ((32 : Nat) : Int) = 32 from rfl]
  exact h2
 | succ d ih =>
  intro j hj
  have hlt : (j : Int) < 32 := by omega
  have hws : IntKind.i64.wrap ((j : Int) + 1) = ((j + 1 : Nat) : Int) := O8 (by omega)
  have hju : IntKind.u64.wrap (j : Int) = (j : Int) := IntWalk.u64_in _ (by omega)
  have hbit := zeh m j (by omega)
  have hj0 : ((j : Int) < 0) = False := eq_false (by omega)
  refine Q1 (l := q62) rfl hR ?_
  unfold q5b
  rcases hb : m.getLsbD j with _ | _
  ·rw [hb] at hbit
   have e : q0m l p m (j + 1) = q0m l p m j := by simp only [q0m]; rw [if_neg (by rw [hb]; simp)]
   simp -implicitDefEqProofs -dsimp only [go_sem, seval, hlt, hju, Int.natCast_nonneg, Int.toNat_natCast, hj0, hbit, hws]
   have := ih (j + 1) (by omega)
   rw [e] at this
   exact this
  ·rw [hb] at hbit
   have e : q0m l p m (j + 1) = qwq (q0m l p m j) (p + j) := by simp only [q0m]; rw [if_pos hb]
   have wpj : IntKind.i64.wrap ((p : Int) + j) = ((p + j : Nat) : Int) := (q0c (by unfold I64; omega)).trans (by omega)
   have wq : IntKind.i64.wrap (((p + j : Nat) : Int).tdiv 8) = (((p + j) / 8 : Nat) : Int) := by
    rw [Int.tdiv_eq_ediv_of_nonneg (by omega)]; exact (q0c (by unfold I64; omega)).trans (by omega)
   have wr : ((p + j : Nat) : Int).tmod 8 = (((p + j) % 8 : Nat) : Int) := by
    rw [Int.tmod_eq_emod_of_nonneg (by omega)]; omega
   have wru : IntKind.u64.wrap ((((p + j) % 8 : Nat) : Int)) = (((p + j) % 8 : Nat) : Int) := IntWalk.u64_in _ (by omega)
   have hr0 : ((((p + j) % 8 : Nat) : Int) < 0) = False := eq_false (by omega)
   have hlt2 : (p + j) / 8 < l.length := by omega
   obtain ⟨a, ha⟩ : ∃ a, (q0m l p m j)[(p + j) / 8]? = some a := ⟨_, List.getElem?_eq_getElem (by rw [q1z]; exact hlt2)⟩
   have hget : (K8 (q0m l p m j))[(p + j) / 8]? = some (.i .u8 (a.toNat : Int)) := by simp [K8, ha]
   have ht : (T.put id (.row 1 (K8 (q0m l p m j)))) id = .row 1 (K8 (q0m l p m j)) := Tab.put_same ..
   simp -implicitDefEqProofs -dsimp only [go_sem, seval, hlt, hju, Int.natCast_nonneg, Int.toNat_natCast, hj0, hbit, hws, wpj, wq, wr, wru, hr0, Int.ofNat_lt, hlt2, ht, hget, zfr a _ (Nat.mod_lt (p + j) (by decide))]
   have hlen : (p + j) / 8 + 1 <= (K8 (q0m l p m j)).length := by rw [Y2, q1z]; omega
   refine q11 ht rfl rfl (by simpa using hlen) ?_
   refine J1 ?_
   rw [Tab.put_put]
   simp -implicitDefEqProofs -dsimp only [go_sem, seval, hws]
   have e5 : K8 (q0m l p m (j + 1)) = q07 (K8 (q0m l p m j)) ((p + j) / 8) [.i .u8 ((qt3 a ((p + j) % 8)).toNat : Int)] := by
    rw [e, qwq, ha]
    have hk : (p + j) / 8 < (q0m l p m j).length := by rw [q1z]; exact hlt2
    simp only [K8, List.map_set, q07, List.length_cons, List.length_nil, Nat.zero_add]
    rw [List.set_eq_take_append_cons_drop, if_pos (by simpa using hk)]; simp
   have := ih (j + 1) (by omega)
   rw [e5] at this
   exact this
theorem z6y {l : List Sn} {i : Nat} {s s' : Sn} (hs : l[i]? = some s) (h : s'.cells = s.cells) : snC (l.set i s') = snC l := by
 have hlt := (List.getElem?_eq_some_iff.1 hs).1
 have e1 := qlz hs
 have e2 := qlz (l := l.set i s') (i := i) (s := s') (by rw [List.getElem?_set_self hlt])
 have e3 : (l.set i s').take i = l.take i := by rw [List.take_set_of_le (Nat.le_refl _)]
 have e4 : (l.set i s').drop (i + 1) = l.drop (i + 1) := by rw [List.drop_set_of_lt (by omega)]
 rw [e2, e3, e4, h, <- e1]
def grb (l : List Sn) (i : Nat) (s : Sn) (a : Nat) (m : W) : List Sn := if q57 (loE s.b) = 0 then l.set i { s with b := q0m s.b (a % (8 * s.b.length - 31)) m 32 } else l
theorem qwn {B T : Tab} {id : Nat} {most : Int} {l : List Sn} {v : AV} (h : MS B T id most l v) (k : Int) {s : Sn} (hs : l[(k % l.length).toNat]? = some s) (h8 : 8 <= s.b.length) (a : Nat) (ha : a < 65536) (m : W) :
  ACalls prog q4f [.ptr id 0, .i .i64 k, .i .u16 a, wv m] T (fun r T' => r = .b (decide (q57 (loE s.b) = 0)) /\ MS B T' id most (grb l (k % l.length).toNat s a m) v) := by
 have hP := qly h k
 have t1 := h.row
 have hlt := (List.getElem?_eq_some_iff.1 hs).1
 obtain ⟨i, hi⟩ : ∃ i : Nat, k % (l.length : Int) = i := ⟨(k % (l.length : Int)).toNat, by have := Int.emod_nonneg k (show (l.length : Int) ≠ 0 by omega); omega⟩
 rw [hi, Int.toNat_natCast] at hs hlt ⊢
 rw [plR, if_neg (by omega), hi] at hP
 obtain ⟨b1, b2, b3, b4, b5⟩ := h.byt s (List.mem_of_getElem? hs)
 have cO := z0m b1 b4 (by omega)
 rcases h.sl with ⟨rfl, rfl⟩ | ⟨idC, junk, j, rfl, q2, q3, q4, q5, q6⟩
 ·simp at hs
 have hlen : i * 3 + 3 <= (snC l ++ junk).length := by rw [List.length_append, q1t]; omega
 have hg := (z0h (junk := junk) hs).1
 refine U7 U1 qg3 (by simp) ?_
 unfold q9f grb
 simp -implicitDefEqProofs -dsimp only [go_sem, seval, ↓J0 _ _ q7b]
 refine can hP ?_
 simp -implicitDefEqProofs -dsimp only [go_sem, seval, Bool.not_true, t1, q2, Int.ofNat_lt, hlt, Int.natCast_nonneg, Int.toNat_natCast, hlen, hg, ↓J0 _ _ q4y]
 refine CallK.of cO (fun r T1 ⟨⟨us, hul, e1⟩, e2⟩ => J1 ?_)
 subst e1
 have e2 := e2.symm
 subst e2
 have hut : (us.map AV.raw).take 26 = us.map AV.raw := List.take_of_length_le (by omega)
 generalize us.map AV.raw = U at *
 by_cases hc : q57 (loE s.b) = 0
 case neg =>
  have dc : decide (q57 (loE s.b) = 0) = false := decide_eq_false hc
  rw [if_neg hc]
  simp -implicitDefEqProofs -dsimp only [go_sem, seval, hul, hut, dc, Bool.not_false]
  exact Y3 _ (fun _ => .inr (.inl rfl)) ⟨rfl, h⟩
 have dc : decide (q57 (loE s.b) = 0) = true := decide_eq_true hc
 rw [if_pos hc]
 have wa : IntKind.i64.wrap (a : Int) = a := q0c (by unfold I64; omega)
 have w8 : IntKind.i64.wrap (8 * (s.b.length : Int)) = ((8 * s.b.length : Nat) : Int) := (q0c (by unfold I64; omega)).trans (by omega)
 have w32 : IntKind.i64.wrap (((8 * s.b.length : Nat) : Int) - 32) = ((8 * s.b.length - 32 : Nat) : Int) := (q0c (by unfold I64; omega)).trans (by omega)
 have w31 : IntKind.i64.wrap (((8 * s.b.length - 32 : Nat) : Int) + 1) = ((8 * s.b.length - 31 : Nat) : Int) := (q0c (by unfold I64; omega)).trans (by omega)
 have wt : ((a : Int)).tmod ((8 * s.b.length - 31 : Nat) : Int) = ((a % (8 * s.b.length - 31) : Nat) : Int) := by rw [Int.tmod_eq_emod_of_nonneg (by omega)]; norm_cast
 have z31 : (((8 * s.b.length - 31 : Nat) : Int) = 0) = False := eq_false (by omega)
 have hp : a % (8 * s.b.length - 31) + 31 < 8 * s.b.length := by have := Nat.mod_lt a (show 0 < 8 * s.b.length - 31 by omega); omega
 simp -implicitDefEqProofs -dsimp only [go_sem, seval, hul, hut, dc, Bool.not_true, wa, w8, w32, w31, wt, z31]
 have hst : T.put s.id (.row 1 (K8 (q0m s.b (a % (8 * s.b.length - 31)) m 0))) = T := Tab.put_self b1
 have key := fun (R : G9) (hR : ExtR R) h => z0n (R := R) hR (T := T) (id := s.id) (l := s.b) (m := m) (p := a % (8 * s.b.length - 31)) (by omega) hp h 32 0 rfl
 rw [hst] at key
 refine key _ (by repeat' (first | exact O6 _ _ | assumption | apply O5 | apply N4 | apply V8)) ?_
 simp -implicitDefEqProofs -dsimp only [go_sem, seval]
 have hsub : ∀ x ∈ l.set i { s with b := q0m s.b (a % (8 * s.b.length - 31)) m 32 }, x = { s with b := q0m s.b (a % (8 * s.b.length - 31)) m 32 } \/ (x ∈ l /\ x.id ≠ s.id) := fun x hx => by
  obtain ⟨jj, hjj⟩ := List.mem_iff_getElem?.1 hx
  rw [List.getElem?_set] at hjj
  split at hjj
  ·injection hjj with hjj; exact .inl hjj.symm
  ·rename_i hne
   refine .inr ⟨List.mem_of_getElem? hjj, fun e => hne ?_⟩
   have hn := h.nd
   have l1 := (List.getElem?_eq_some_iff.1 hjj).1
   have g1 : (l.map Sn.id)[jj]? = some s.id := by rw [List.getElem?_map, hjj, <- e]; rfl
   have g2 : (l.map Sn.id)[i]? = some s.id := by rw [List.getElem?_map, hs]; rfl
   exact (List.getElem?_inj (by rw [List.length_map]; exact hlt) hn).1 (by rw [g1, g2])
 refine Y3 _ (fun _ => .inr (.inl rfl)) ⟨rfl, ⟨by rw [Tab.put_ne _ _ (Ne.symm b3)]; exact t1, .inr ⟨idC, junk, j, by rw [List.length_set], ?_, q3, q4, q5, fun x hx => ?_⟩, h.bid, fun x hx => ?_, ?_, h.le.put b2, by rw [List.length_set]; exact h.len, h.mo⟩⟩
 ·rw [Tab.put_ne _ _ (Ne.symm (q6 s (List.mem_of_getElem? hs))), z6y hs (by simp only [Sn.cells, q1z])]; exact q2
 ·rcases hsub x hx with rfl | ⟨hx, _⟩
  ·exact q6 s (List.mem_of_getElem? hs)
  ·exact q6 x hx
 ·rcases hsub x hx with rfl | ⟨hx, hne⟩
  ·exact ⟨Tab.put_same .., b2, b3, by simp only [q1z]; exact b4, by simp only [q1z]; exact b5⟩
  ·obtain ⟨z1, z2, z3, z4⟩ := h.byt x hx
   exact ⟨by rw [Tab.put_ne _ _ hne]; exact z1, z2, z3, z4⟩
 ·rw [List.map_set]
  have : (l.map Sn.id).set i s.id = l.map Sn.id := by
   have g2 : (l.map Sn.id)[i]? = some s.id := by rw [List.getElem?_map, hs]; rfl
   apply List.ext_getElem?
   intro q
   rw [List.getElem?_set]
   split
   ·rename_i e; subst e; rw [g2, if_pos (by rw [List.length_map]; exact hlt)]
   ·rfl
  show ((l.map Sn.id).set i s.id).Nodup
  rw [this]; exact h.nd
end Go.Aw
