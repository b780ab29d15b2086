import Derived.Test.YteiamcnjlpbihaaGreatDoorN17Cs
import Derived.Test.YteiamcnjlpbihaaGreatDoorN17E12B
namespace Go.Aw
open Go
open Go.Proofs.Tryz (prog)
open Go.Proofs
set_option linter.all false
set_option maxHeartbeats 4000000
abbrev zi3 : TypeId := 36
abbrev zi4 : TypeId := 169
abbrev zda : TypeId := 148
def q8f (w : List UInt8) (e : AV) : AV := .ifc zi4 (.fptr [.s w, e])
def qsx (e : Int) : AV := .ifc zi3 (.i .i64 e)
inductive Er where
 | num (n : Int)
 | flt (w : List UInt8) (e : Er)
def Er.av : Er -> AV
 | .num n => qsx n
 | .flt w e => q8f w e.av
def Er.code : Er -> Int
 | .num n => n
 | .flt _ e => e.code
theorem Er.chain {X : Cx} {w : World} : ∀ (e : Er) (v : Value), vr X w e.av v -> ∃ k, Chain w v e.code k
 | .num n, v, h => by
  simp only [Er.av, qsx, vr] at h
  obtain ⟨u, rfl, rfl⟩ := h
  exact ⟨0, .num n⟩
 | .flt t e, v, h => by
  simp only [Er.av, q8f, vr, vrs] at h
  obtain ⟨u, ⟨us, a, ⟨u1, us1, rfl, h1, u2, us2, rfl, h2, rfl⟩, rfl, hs, hf⟩, rfl⟩ := h
  obtain ⟨k, hc⟩ := Er.chain e u2 h2
  refine ⟨k + 1, .flt a u2 _ k ?_ hc⟩
  rcases hf with hf | ⟨_, _, hf⟩
  ·cases hf
  ·exact hf 1 u2 rfl
theorem z0y {T : Tab} {id : Nat} {old : Int} (e : Er) (hT : T id = .row 1 [.i .i64 old]) : ACalls prog ql8 [e.av, .ifc zda (.ptr id 0)] T (fun v T' => v = .b true /\ T' = T.put id (.row 1 [.i .i64 e.code])) := by
 intro X lam w cargs hr hv
 simp only [vrs] at hv
 obtain ⟨v1, us1, rfl, h1, v2, us2, rfl, h2, rfl⟩ := hv
 simp only [vr] at h2
 obtain ⟨u, ⟨hid, rfl⟩, rfl⟩ := h2
 obtain ⟨k, hc⟩ := e.chain v1 h1
 obtain ⟨cur, ee, us, g1, g2, g3, g4, g5, g6, g7⟩ := hr.row id 1 _ hT
 simp only [vrs] at g2
 obtain ⟨u0, us0, rfl, g2, rfl⟩ := g2
 simp only [vr] at g2
 subst g2
 have hcur := g4 0 _ rfl
 simp only [Nat.add_zero] at hcur ⊢
 have ht : w.cell? ⟨(X.β id).blk, (X.β id).base, none⟩ = some (.int .i64 old) := by
  simp [World.cell?, g1, hcur]
 have hf : w.frozen? ⟨(X.β id).blk, (X.β id).base, none⟩ = false := by
  simp [World.frozen?, g1]
 have hg := (hr.glob _ (List.mem_singleton.2 rfl)).2
 refine (z9y _ _ e.code k v1 w hc ht hf hg).mono ?_
 rintro ev w' ⟨rfl, rfl⟩
 have hb : (X.β id).blk < w.heap.size := World.block_lt_of_cell? _ _ ht
 have h0 : SR X T w X lam [] [] T { tmps := #[], defers := [] } w := ⟨hr, .refl X T w, fun l c hc => by simp [q2a] at hc, fun s x hs => by simp [q2a] at hs, rfl⟩
 have h4 := (((h0.grow (World.grownBy_alloc w (.cells #[.pointer (some ⟨(X.β id).blk, (X.β id).base, none⟩)] 148) none)).grow (World.grownBy_alloc _ (.cells #[.pointer (some ⟨1, 148, none⟩), .pointer (some ⟨w.heap.size, 0, none⟩), .int .u64 150] 184) none)).grow
  (World.grownBy_alloc _ (.cells #[.pointer (some ⟨1, 148, none⟩), .pointer (some ⟨w.heap.size, 0, none⟩), .int .u64 150] 184) none)).grow (World.grownBy_alloc _ (.cells #[.int .i64 e.code] 36) none)
 obtain ⟨w', hw, hs⟩ := h4.storeRow (P := prog) (o := 0) (xs := [.i .i64 e.code]) (vs := [.int .i64 e.code]) hT (by simp) (by simp [vrs, vr]) (by simp [Value.oneCell'])
 have hcell : ((qqw ⟨w.heap.size, 0, none⟩ (asW ⟨(X.β id).blk, (X.β id).base, none⟩ w)).alloc (.cells #[.int .i64 e.code] 36)).cell? ⟨(X.β id).blk, (X.β id).base, none⟩ = some (.int .i64 old) := by
  rw [World.cell?_alloc_lt _ _ _ (by simp; omega), World.cell?_alloc_lt _ _ _ (by simp; omega), World.cell?_alloc_lt _ _ _ (by simp; omega), World.cell?_alloc_lt _ _ _ hb]; exact ht
 have hfro : ((qqw ⟨w.heap.size, 0, none⟩ (asW ⟨(X.β id).blk, (X.β id).base, none⟩ w)).alloc (.cells #[.int .i64 e.code] 36)).frozen? ⟨(X.β id).blk, (X.β id).base, none⟩ = false := by
  rw [World.frozen?_alloc_old _ _ _ (by simp; omega), World.frozen?_alloc_old _ _ _ (by simp; omega), World.frozen?_alloc_old _ _ _ (by simp; omega), World.frozen?_alloc_old _ _ _ (Nat.ne_of_lt hb)]; exact hf
 have hw2 : (storeCells ⟨(X.β id).blk, (X.β id).base + 0, none⟩ [.int .i64 e.code]).run prog ((qqw ⟨w.heap.size, 0, none⟩ (asW ⟨(X.β id).blk, (X.β id).base, none⟩ w)).alloc (.cells #[.int .i64 e.code] 36))
   = .ok () (((qqw ⟨w.heap.size, 0, none⟩ (asW ⟨(X.β id).blk, (X.β id).base, none⟩ w)).alloc (.cells #[.int .i64 e.code] 36)).setCell ⟨(X.β id).blk, (X.β id).base, none⟩ (.int .i64 e.code)) := by
  simp only [Nat.add_zero, storeCells, Sem.run_bind, Addr.add]
  simp only [if_true]
  rw [run_store prog _ _ _ _ (by rfl)]
  simp only [hcell, hfro]
  rfl
 have hww : w' = (((qqw ⟨w.heap.size, 0, none⟩ (asW ⟨(X.β id).blk, (X.β id).base, none⟩ w)).alloc (.cells #[.int .i64 e.code] 36)).setCell ⟨(X.β id).blk, (X.β id).base, none⟩ (.int .i64 e.code)) := by
  have := hw.symm.trans hw2
  injection this
 subst hww
 exact ⟨_, .b true, _, X, lam, rfl, ⟨rfl, rfl⟩, by simp [vr], hs.rel, hs.step⟩
end Go.Aw
namespace Go.Aw
open Go
open Go.Proofs.Tryz (prog)
set_option linter.all false
set_option maxHeartbeats 4000000
theorem qpd (w : List UInt8) (e : Int) : PCalls prog q13 [.s w, .i .i64 e] (if e = 0 then .nilifc else q8f w (qsx e)) := by
 refine K7 U4 qzz (by simp) fun T => ?_
 unfold qrx
 by_cases h : e = 0
 ·subst h
  simp -implicitDefEqProofs -dsimp only [go_sem, seval, decide_true]
  exact J9 rfl
 ·have d : decide (e = 0) = false := decide_eq_false h
  simp -implicitDefEqProofs -dsimp only [go_sem, seval, d, h]
  intro id hid
  refine J1 ?_
  simp -implicitDefEqProofs -dsimp only [go_sem, seval]
  refine ⟨[id], T, _, by simp, by simp [Tab.put_same], fun j => ?_, ?_, rfl, rfl⟩
  ·simp only [qor]
   rw [Tab.put_put, Tab.put_self hid]; exact .inr (.inl rfl)
  ·simp only [qoq, qfy, qiy, List.mem_singleton, if_true, Tab.put_same, List.drop_zero]
   exact .refl _
theorem z74 (b : Bool) : PCalls prog qbc [.b b] (.i .u64 (if b = true then (1 : Nat) else 0 : Nat)) := by
 refine K7 U4 qxs (by simp) fun T => ?_
 unfold qpz
 cases b <;> (simp -implicitDefEqProofs -dsimp only [go_sem, seval]; exact J9 rfl)
theorem z43 {R : Y5} (hR : ExtR R) {T : Tab} {xs : List Rd} {cap : Option Nat} {tc : List AV} (hl : xs.length <= 8) (hs : ∀ r ∈ xs, r.k.length <= 32 /\ 0 <= r.n /\ r.n < 18446744073709551616) : ∀ (ys : List Rd) (k : Nat), xs.drop k = ys -> k <= xs.length -> ∀ (b : List UInt8) (c : Option Nat), b.length <= 1001000 + 100 * k ->
  (∀ c, R (.exit 0) [(1, bts (b ++ ys.flatMap qco) c), (2, .lp 2 0), (24, .fz xs.length (xs.flatMap rdC) cap), (25, .i .i64 xs.length), (26, .i .i64 xs.length), (27, .b false)] [(2, tc)] T) ->
  AW prog qal R [(1, bts b c), (2, .lp 2 0), (24, .fz xs.length (xs.flatMap rdC) cap), (25, .i .i64 xs.length), (26, .i .i64 k)] [(2, tc)] T := by
 intro ys
 induction ys with
 | nil =>
  intro k hk hle b c hb h2
  have hk' := Q2 hk hle
  refine Q1 hR ?_
  unfold q9j
  simp -implicitDefEqProofs -dsimp only [go_sem, seval, hk', Int.lt_irrefl]
  rw [hk'] at h2
  simpa only [List.flatMap_nil, List.append_nil] using h2 c
 | cons y ys ih =>
  intro k hk hle b c hb h2
  obtain ⟨hlt, hy, hk'⟩ := U1 hk
  have hc := Y6 q83 hy
  have hc5 : k * 2 + 2 <= (xs.flatMap rdC).length := by rw [N5 q83]; omega
  obtain ⟨q1, q2, q3⟩ := hs y (List.mem_of_getElem? hy)
  obtain ⟨m, hm⟩ := Int.eq_ofNat_of_zero_le q2
  have h1 := K6 (m := y.k.length) (by omega)
  have h3 := K6 (m := m) (by omega)
  refine N8 (l := qal) rfl hR ?_
  unfold q9j
  simp -implicitDefEqProofs -dsimp only [go_sem, seval, Int.ofNat_lt, hlt, Int.natCast_nonneg, Int.toNat_natCast, hc, hc5, rdC, List.cons_append, List.nil_append, ↓J0 _ _ q9x]
  refine cpn (qjc b c y.k (by omega) (by omega)) ?_
  simp -implicitDefEqProofs -dsimp only [go_sem, seval, hm, ↓J0 _ _ U2]
  refine cpn (q0h (b ++ q75 y.k) none m (by simp [q75]; omega) (by omega)) ?_
  simp -implicitDefEqProofs -dsimp only [go_sem, seval]
  rw [N3 (by omega)]
  have e : b ++ q75 y.k ++ enc m = b ++ qco y := by simp [qco, hm]
  rw [e]
  refine ih (k + 1) hk' hlt (b ++ qco y) none (by simp [qco, q75, hm]; omega) fun c => ?_
  simpa only [List.flatMap_cons, List.append_assoc] using h2 c
theorem z44 {R : Y5} (hR : ExtR R) {T : Tab} {xs : List Wt} {cap : Option Nat} (hl : xs.length <= 8) (hs : ∀ w ∈ xs, w.k.length <= 32 /\ w.v.length <= 64) : ∀ (ys : List Wt) (k : Nat), xs.drop k = ys -> k <= xs.length -> ∀ (b : List UInt8) (c : Option Nat), b.length <= 1002000 + 200 * k ->
  (∀ c, R (.exit 2) [(1, bts (b ++ ys.flatMap qdu) c), (45, .fz xs.length (xs.flatMap wtC) cap), (46, .i .i64 xs.length), (47, .i .i64 xs.length), (48, .b false)] [] T) ->
  AW prog qam R [(1, bts b c), (45, .fz xs.length (xs.flatMap wtC) cap), (46, .i .i64 xs.length), (47, .i .i64 k)] [] T := by
 intro ys
 induction ys with
 | nil =>
  intro k hk hle b c hb h2
  have hk' := Q2 hk hle
  refine Q1 hR ?_
  unfold q9k
  simp -implicitDefEqProofs -dsimp only [go_sem, seval, hk', Int.lt_irrefl]
  rw [hk'] at h2
  simpa only [List.flatMap_nil, List.append_nil] using h2 c
 | cons y ys ih =>
  intro k hk hle b c hb h2
  obtain ⟨hlt, hy, hk'⟩ := U1 hk
  have hc := Y6 q67 hy
  have hc5 : k * 3 + 3 <= (xs.flatMap wtC).length := by rw [N5 q67]; omega
  obtain ⟨q1, q2⟩ := hs y (List.mem_of_getElem? hy)
  have h1 := K6 (m := y.k.length) (by omega)
  have h3 := K6 (m := y.v.length) (by omega)
  refine N8 (l := qam) rfl hR ?_
  unfold q9k
  simp -implicitDefEqProofs -dsimp only [go_sem, seval, Int.ofNat_lt, hlt, Int.natCast_nonneg, Int.toNat_natCast, hc, hc5, wtC, List.cons_append, List.nil_append, ↓J0 _ _ q9x]
  refine cpn (qjc b c y.k (by omega) (by omega)) ?_
  simp -implicitDefEqProofs -dsimp only [go_sem, seval, ↓J0 _ _ q9x]
  refine cpn (qjc (b ++ q75 y.k) none y.v (by simp [q75]; omega) (by omega)) ?_
  simp -implicitDefEqProofs -dsimp only [go_sem, seval, ↓J0 _ _ qq0]
  refine cpn (z74 y.g) ?_
  simp -implicitDefEqProofs -dsimp only [go_sem, seval, ↓J0 _ _ U2]
  refine cpn (q0h (b ++ q75 y.k ++ q75 y.v) none _ (by simp [q75]; omega) (by split <;> omega)) ?_
  simp -implicitDefEqProofs -dsimp only [go_sem, seval]
  rw [N3 (by omega), enc_bit']
  have e : b ++ q75 y.k ++ q75 y.v ++ [qji y.g] = b ++ qdu y := by simp [qdu]
  rw [e]
  refine ih (k + 1) hk' hlt (b ++ qdu y) none (by simp [qdu, q75]; omega) fun c => ?_
  simpa only [List.flatMap_cons, List.append_assoc] using h2 c
theorem qsy {r : Rd} (h : r.k.length <= 32 /\ 0 <= r.n /\ r.n < 18446744073709551616) : (qco r).length <= 52 := by
 have h1 := K6 (m := r.k.length) (by omega)
 have h2 := K6 (m := r.n.toNat) (by omega)
 simp only [qco, q75, List.length_append]; omega
theorem qyq {w : Wt} (h : w.k.length <= 32 /\ w.v.length <= 64) : (qdu w).length <= 117 := by
 have h1 := K6 (m := w.k.length) (by omega)
 have h2 := K6 (m := w.v.length) (by omega)
 simp only [qdu, q75, List.length_append, List.length_cons, List.length_nil]; omega
theorem qyr (t : Tx) (k1 k2 : Option Nat) (b : List UInt8) (c : Option Nat) (h : t.Good) (hb : b.length <= 1000000) : PCalls prog q4y [.agg (t.cells k1 k2), bts b c] (bts (b ++ qa4 t) none) := by
 refine K7 U4 qp4 (by simp) fun T => ?_
 obtain ⟨hcl, hsq, hr, hw, hrr, hww⟩ := h
 obtain ⟨cl, hclm⟩ := Int.eq_ofNat_of_zero_le hcl.1
 obtain ⟨sq, hsqm⟩ := Int.eq_ofNat_of_zero_le (show 0 <= t.sq by omega)
 have l1 := K6 (m := cl) (by omega)
 have l2 := K6 (m := sq) (by omega)
 have l3 := K6 (m := t.rs.length) (by omega)
 have l4 := K6 (m := t.ws.length) (by omega)
 have l5 := q2u (g := qco) t.rs fun r hr => qsy (hrr r hr)
 have l6 := q2u (g := qdu) t.ws fun r hr => qyq (hww r hr)
 have c1 := z2b b c cl sq hb (by omega) (by omega)
 unfold qff
 simp -implicitDefEqProofs -dsimp only [go_sem, seval, Tx.cells, hclm, hsqm, ↓J0 _ _ qo3]
 refine cpn c1 ?_
 simp -implicitDefEqProofs -dsimp only [go_sem, seval, ↓J0 _ _ qq0]
 refine cpn (z74 t.pl) ?_
 simp -implicitDefEqProofs -dsimp only [go_sem, seval, ↓J0 _ _ U2]
 refine cpn (q0h (b ++ enc cl ++ enc sq) none _ (by simp; omega) (by split <;> omega)) ?_
 rw [enc_bit']
 simp -implicitDefEqProofs -dsimp only [go_sem, seval, q0r (n := t.rs.length) (by omega), ↓J0 _ _ U2]
 refine cpn (q0h (b ++ enc cl ++ enc sq ++ [qji t.pl]) none t.rs.length (by simp; omega) (by omega)) ?_
 simp -implicitDefEqProofs -dsimp only [go_sem, seval]
 refine z43 (T := T) (by repeat' (first | exact N2 _ _ | assumption | apply N1 | apply K8 | apply Q6)) hr hrr t.rs 0 rfl (by omega) _ none (by simp; omega) (fun c => ?_)
 simp -implicitDefEqProofs -dsimp only [go_sem, seval, q0r (n := t.ws.length) (by omega), ↓J0 _ _ U2]
 refine cpn (q0h (b ++ enc cl ++ enc sq ++ [qji t.pl] ++ enc t.rs.length ++ t.rs.flatMap qco) c t.ws.length (by simp only [List.length_append, List.length_cons, List.length_nil]; omega) (by omega)) ?_
 simp -implicitDefEqProofs -dsimp only [go_sem, seval]
 refine z44 (T := T) (by repeat' (first | exact N2 _ _ | assumption | apply N1 | apply K8 | apply Q6)) hw hww t.ws 0 rfl (by omega) _ none (by simp only [List.length_append, List.length_cons, List.length_nil]; omega) (fun c => ?_)
 simp -implicitDefEqProofs -dsimp only [go_sem, seval]
 refine qf1 ?_ rfl
 have e : b ++ enc cl ++ enc sq ++ [qji t.pl] ++ enc t.rs.length ++ t.rs.flatMap qco ++ enc t.ws.length ++ t.ws.flatMap qdu = b ++ qa4 t := by simp [qa4, hclm, hsqm]
 rw [e]
 exact .fz
end Go.Aw
namespace Go.Aw
open Go
open Go.Proofs.Tryz (prog)
set_option linter.all false
set_option maxHeartbeats 4000000
theorem z75 (b : Bool) : PCalls prog q3v [.b b] (bts [qji b] (some 1)) := by
 refine K7 U4 qnv (by simp) fun T => ?_
 unfold qe9
 cases b <;> (simp -implicitDefEqProofs -dsimp only [go_sem, seval]; exact J9 rfl)
theorem zbb (T : Tab) (cl sq : Nat) (hc : cl < 9223372036854775808) (hs : sq < 18446744073709551616) : ACalls prog q4z [.agg [.i .i64 cl, .i .u64 sq]] T (fun v T' => Own T 1 v (enc cl ++ enc sq).length (K9 (enc cl ++ enc sq)) T') := by
 refine Z3 U4 qp6 (by simp) ?_
 have l1 := K6 (m := cl) (by omega)
 have l2 := K6 (m := sq) (by omega)
 unfold qfj
 simp -implicitDefEqProofs -dsimp only [go_sem, seval, q0r (n := cl) (by omega), ↓J0 _ _ Y0]
 refine CallK.of (qjd cl (by omega) T) (fun v T1 ho => J1 ?_)
 obtain ⟨p1, p2, p3, p4, p5, p6⟩ := ho.form
 simp -implicitDefEqProofs -dsimp only [go_sem, seval, p1, p2, p3, p4, p5, p6, ↓J0 _ _ Y0]
 refine cpn (qmm sq hs) ?_
 simp -implicitDefEqProofs -dsimp only [go_sem, seval, p1, p2, p3, p4, p5, p6, bts]
 refine ho.app (m := (enc sq).length) (news := K9 (enc sq)) (by simp [G4, Y4]) rfl (List.length_pos_iff.2 (z25 _)) (by omega) (by omega) fun v2 T3 ho => J1 ?_
 obtain ⟨p1, p2, p3, p4, p5, p6⟩ := ho.form
 simp -implicitDefEqProofs -dsimp only [go_sem, seval, p1, p2, p3, p4, p5, p6]
 rw [V4, <- List.length_append] at ho
 exact Own.fin ho (fun _ _ h => h)
theorem Own.appB {T T1 : Tab} {v : AV} {b m : List UInt8} {c : Option Nat} {K : AV -> Tab -> Prop} (h : Own T 1 v b.length (K9 b) T1) (hb : b.length + m.length <= 1000000000)
  (hk : ∀ v' T2, Own T 1 v' (b ++ m).length (K9 (b ++ m)) T2 -> K v' T2) : q1o 1 1 T1 v (bts m c) K := by
 refine h.app (m := m.length) (news := K9 m) (by simp [bts, G4, Y4]) rfl (by omega) (by omega) fun v' T2 ho => hk v' T2 ?_
 rw [V4, <- List.length_append] at ho
 exact ho
theorem qip {n : Int} {b : UInt8} (h : n = b.toNat) : (AV.fz 1 [.i .u8 n] (some 1)) = bts [b] (some 1) := by subst h; rfl
theorem z0z {R : Y5} (hR : ExtR R) {T : Tab} {xs : List Rd} {cap : Option Nat} {tc : List AV} (hl : xs.length <= 8) (hs : ∀ r ∈ xs, r.k.length <= 32 /\ 0 <= r.n /\ r.n < 18446744073709551616) : ∀ (ys : List Rd) (k : Nat), xs.drop k = ys -> k <= xs.length -> ∀ (b : List UInt8) (v : AV) (T1 : Tab), b.length <= 1001000 + 100 * k -> Own T 1 v b.length (K9 b) T1 ->
  (∀ v T1, Own T 1 v (b ++ ys.flatMap qco).length (K9 (b ++ ys.flatMap qco)) T1 -> R (.exit 0) [(1, .lp 1 0), (3, v), (23, .fz xs.length (xs.flatMap rdC) cap), (24, .i .i64 xs.length), (25, .i .i64 xs.length), (26, .b false)] [(1, tc)] T1) ->
  AW prog q6w R [(1, .lp 1 0), (3, v), (23, .fz xs.length (xs.flatMap rdC) cap), (24, .i .i64 xs.length), (25, .i .i64 k)] [(1, tc)] T1 := by
 intro ys
 induction ys with
 | nil =>
  intro k hk hle b v T1 hb ho h2
  obtain ⟨p1, p2, p3, p4, p5, p6⟩ := ho.form
  have hk' := Q2 hk hle
  refine Q1 hR ?_
  unfold q5z
  simp -implicitDefEqProofs -dsimp only [go_sem, seval, hk', Int.lt_irrefl, p1, p2, p3, p4, p5, p6]
  rw [hk'] at h2
  simp only [List.flatMap_nil, List.append_nil] at h2
  exact h2 _ _ ho
 | cons y ys ih =>
  intro k hk hle b v T1 hb ho h2
  obtain ⟨p1, p2, p3, p4, p5, p6⟩ := ho.form
  obtain ⟨hlt, hy, hk'⟩ := U1 hk
  have hc := Y6 q83 hy
  have hc5 : k * 2 + 2 <= (xs.flatMap rdC).length := by rw [N5 q83]; omega
  obtain ⟨q1, q2, q3⟩ := hs y (List.mem_of_getElem? hy)
  obtain ⟨m, hm⟩ := Int.eq_ofNat_of_zero_le q2
  have h1 := K6 (m := y.k.length) (by omega)
  have h3 := K6 (m := m) (by omega)
  refine N8 (l := q6w) rfl hR ?_
  unfold q5z
  simp -implicitDefEqProofs -dsimp only [go_sem, seval, Int.ofNat_lt, hlt, Int.natCast_nonneg, Int.toNat_natCast, hc, hc5, rdC, List.cons_append, List.nil_append, p1, p2, p3, p4, p5, p6, ↓J0 _ _ q21]
  refine cpn (qje y.k (by omega)) ?_
  simp -implicitDefEqProofs -dsimp only [go_sem, seval, p1, p2, p3, p4, p5, p6]
  refine ho.appB (by simp [q75]; omega) fun v2 T2 ho => J1 ?_
  obtain ⟨p1, p2, p3, p4, p5, p6⟩ := ho.form
  simp -implicitDefEqProofs -dsimp only [go_sem, seval, p1, p2, p3, p4, p5, p6, hm, ↓J0 _ _ Y0]
  refine cpn (qmm m (by omega)) ?_
  simp -implicitDefEqProofs -dsimp only [go_sem, seval, p1, p2, p3, p4, p5, p6]
  refine ho.appB (by simp [q75]; omega) fun v3 T3 ho => J1 ?_
  obtain ⟨p1, p2, p3, p4, p5, p6⟩ := ho.form
  simp -implicitDefEqProofs -dsimp only [go_sem, seval, p1, p2, p3, p4, p5, p6]
  rw [N3 (by omega)]
  have e : b ++ q75 y.k ++ enc m = b ++ qco y := by simp [qco, hm]
  rw [e] at ho
  refine ih (k + 1) hk' hlt _ _ _ (by simp [qco, q75, hm]; omega) ho fun v T1 ho => h2 v T1 ?_
  simpa only [List.flatMap_cons, List.append_assoc] using ho
theorem z10 {R : Y5} (hR : ExtR R) {T : Tab} {xs : List Wt} {cap : Option Nat} (hl : xs.length <= 8) (hs : ∀ w ∈ xs, w.k.length <= 32 /\ w.v.length <= 64) : ∀ (ys : List Wt) (k : Nat), xs.drop k = ys -> k <= xs.length -> ∀ (b : List UInt8) (v : AV) (T1 : Tab), b.length <= 1002000 + 200 * k -> Own T 1 v b.length (K9 b) T1 ->
  (∀ v T1, Own T 1 v (b ++ ys.flatMap qdu).length (K9 (b ++ ys.flatMap qdu)) T1 -> R (.exit 2) [(3, v), (48, .fz xs.length (xs.flatMap wtC) cap), (49, .i .i64 xs.length), (50, .i .i64 xs.length), (51, .b false)] [] T1) ->
  AW prog q6x R [(3, v), (48, .fz xs.length (xs.flatMap wtC) cap), (49, .i .i64 xs.length), (50, .i .i64 k)] [] T1 := by
 intro ys
 induction ys with
 | nil =>
  intro k hk hle b v T1 hb ho h2
  obtain ⟨p1, p2, p3, p4, p5, p6⟩ := ho.form
  have hk' := Q2 hk hle
  refine Q1 hR ?_
  unfold q60
  simp -implicitDefEqProofs -dsimp only [go_sem, seval, hk', Int.lt_irrefl, p1, p2, p3, p4, p5, p6]
  rw [hk'] at h2
  simp only [List.flatMap_nil, List.append_nil] at h2
  exact h2 _ _ ho
 | cons y ys ih =>
  intro k hk hle b v T1 hb ho h2
  obtain ⟨p1, p2, p3, p4, p5, p6⟩ := ho.form
  obtain ⟨hlt, hy, hk'⟩ := U1 hk
  have hc := Y6 q67 hy
  have hc5 : k * 3 + 3 <= (xs.flatMap wtC).length := by rw [N5 q67]; omega
  obtain ⟨q1, q2⟩ := hs y (List.mem_of_getElem? hy)
  have h1 := K6 (m := y.k.length) (by omega)
  have h3 := K6 (m := y.v.length) (by omega)
  refine N8 (l := q6x) rfl hR ?_
  unfold q60
  simp -implicitDefEqProofs -dsimp only [go_sem, seval, Int.ofNat_lt, hlt, Int.natCast_nonneg, Int.toNat_natCast, hc, hc5, wtC, List.cons_append, List.nil_append, p1, p2, p3, p4, p5, p6, ↓J0 _ _ q21]
  refine cpn (qje y.k (by omega)) ?_
  simp -implicitDefEqProofs -dsimp only [go_sem, seval, p1, p2, p3, p4, p5, p6]
  refine ho.appB (by simp [q75]; omega) fun v2 T2 ho => J1 ?_
  obtain ⟨p1, p2, p3, p4, p5, p6⟩ := ho.form
  simp -implicitDefEqProofs -dsimp only [go_sem, seval, p1, p2, p3, p4, p5, p6, ↓J0 _ _ q21]
  refine cpn (qje y.v (by omega)) ?_
  simp -implicitDefEqProofs -dsimp only [go_sem, seval, p1, p2, p3, p4, p5, p6]
  refine ho.appB (by simp [q75]; omega) fun v3 T3 ho => J1 ?_
  obtain ⟨p1, p2, p3, p4, p5, p6⟩ := ho.form
  simp -implicitDefEqProofs -dsimp only [go_sem, seval, p1, p2, p3, p4, p5, p6, ↓J0 _ _ qea]
  refine cpn (z75 y.g) ?_
  simp -implicitDefEqProofs -dsimp only [go_sem, seval, p1, p2, p3, p4, p5, p6]
  refine ho.appB (by simp [q75]; omega) fun v3 T3 ho => J1 ?_
  obtain ⟨p1, p2, p3, p4, p5, p6⟩ := ho.form
  simp -implicitDefEqProofs -dsimp only [go_sem, seval, p1, p2, p3, p4, p5, p6]
  rw [N3 (by omega)]
  have e : b ++ q75 y.k ++ q75 y.v ++ [qji y.g] = b ++ qdu y := by simp [qdu]
  rw [e] at ho
  refine ih (k + 1) hk' hlt _ _ _ (by simp [qdu, q75]; omega) ho fun v T1 ho => h2 v T1 ?_
  simpa only [List.flatMap_cons, List.append_assoc] using ho
theorem qh2 {n : Nat} (h : n < 128) : IntKind.u8.wrap (n : Int) = ((UInt8.ofNat n).toNat : Int) := by
 rw [qcx, UInt8.toNat_ofNat_of_lt' (by show n < 256; omega)]; omega
theorem qut (t : Tx) (k1 k2 : Option Nat) (h : t.Good) (T : Tab) : ACalls prog q2e [.agg (t.cells k1 k2)] T (fun v T' => Own T 1 v (qa4 t).length (K9 (qa4 t)) T') := by
 refine Z3 U4 qi5 (by simp) ?_
 obtain ⟨hcl, hsq, hr, hw, hrr, hww⟩ := h
 obtain ⟨cl, hclm⟩ := Int.eq_ofNat_of_zero_le hcl.1
 obtain ⟨sq, hsqm⟩ := Int.eq_ofNat_of_zero_le (show 0 <= t.sq by omega)
 have l1 := K6 (m := cl) (by omega)
 have l2 := K6 (m := sq) (by omega)
 have l5 := q2u (g := qco) t.rs fun r hr => qsy (hrr r hr)
 unfold qbl
 simp -implicitDefEqProofs -dsimp only [go_sem, seval, Tx.cells, hclm, hsqm, ↓J0 _ _ qfk]
 refine CallK.of (zbb T cl sq (by omega) (by omega)) (fun v T1 ho => J1 ?_)
 obtain ⟨p1, p2, p3, p4, p5, p6⟩ := ho.form
 simp -implicitDefEqProofs -dsimp only [go_sem, seval, p1, p2, p3, p4, p5, p6, ↓J0 _ _ qea]
 refine cpn (z75 t.pl) ?_
 simp -implicitDefEqProofs -dsimp only [go_sem, seval, p1, p2, p3, p4, p5, p6]
 refine ho.appB (by simp; omega) fun v2 T2 ho => J1 ?_
 obtain ⟨p1, p2, p3, p4, p5, p6⟩ := ho.form
 simp -implicitDefEqProofs -dsimp only [go_sem, seval, p1, p2, p3, p4, p5, p6, qh2 (n := t.rs.length) (by omega), qip (rfl : ((UInt8.ofNat t.rs.length).toNat : Int) = _)]
 refine ho.appB (by simp; omega) fun v2 T2 ho => J1 ?_
 obtain ⟨p1, p2, p3, p4, p5, p6⟩ := ho.form
 simp -implicitDefEqProofs -dsimp only [go_sem, seval, p1, p2, p3, p4, p5, p6]
 refine z0z (T := T) (by repeat' (first | exact N2 _ _ | assumption | apply N1 | apply K8 | apply Q6)) hr hrr t.rs 0 rfl (by omega) _ _ _ (by simp; omega) ho (fun v T1 ho => ?_)
 obtain ⟨p1, p2, p3, p4, p5, p6⟩ := ho.form
 simp -implicitDefEqProofs -dsimp only [go_sem, seval, p1, p2, p3, p4, p5, p6, qh2 (n := t.ws.length) (by omega), qip (rfl : ((UInt8.ofNat t.ws.length).toNat : Int) = _)]
 refine ho.appB (by simp only [List.length_append, List.length_cons, List.length_nil]; omega) fun v2 T2 ho => J1 ?_
 obtain ⟨p1, p2, p3, p4, p5, p6⟩ := ho.form
 simp -implicitDefEqProofs -dsimp only [go_sem, seval, p1, p2, p3, p4, p5, p6]
 refine z10 (T := T) (by repeat' (first | exact N2 _ _ | assumption | apply N1 | apply K8 | apply Q6)) hw hww t.ws 0 rfl (by omega) _ _ _ (by simp only [List.length_append, List.length_cons, List.length_nil]; omega) ho (fun v T1 ho => ?_)
 obtain ⟨p1, p2, p3, p4, p5, p6⟩ := ho.form
 simp -implicitDefEqProofs -dsimp only [go_sem, seval, p1, p2, p3, p4, p5, p6]
 have e : enc cl ++ enc sq ++ [qji t.pl] ++ [UInt8.ofNat t.rs.length] ++ t.rs.flatMap qco ++ [UInt8.ofNat t.ws.length] ++ t.ws.flatMap qdu = qa4 t := by
  rw [<- q05 (n := t.rs.length) (by omega), <- q05 (n := t.ws.length) (by omega)]
  simp [qa4, hclm, hsqm]
 rw [e] at ho
 exact Own.fin ho (fun _ _ h => h)
end Go.Aw
