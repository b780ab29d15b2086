import Derived.Test.YtnkagdjmjakeiaaGreatDoorV22Cs
import Derived.Test.YtnkagdjmjakeiaaGreatDoorAwD
namespace Go.Aw
open Go
open Go.Proofs.Tryz (prog)
open Go.Proofs
set_option linter.all false
set_option maxHeartbeats 4000000
abbrev qvq : TypeId := 38
abbrev qvr : TypeId := 148
abbrev qrq : TypeId := 139
def qkv (w : List UInt8) (e : AV) : AV := .ifc qvr (.fptr [.s w, e])
def qpi (e : Int) : AV := .ifc qvq (.i .i64 e)
inductive Er where
 | num (n : Int)
 | flt (w : List UInt8) (e : Er)
def Er.av : Er -> AV
 | .num n => qpi n
 | .flt w e => qkv w e.av
def Er.code : Er -> Int
 | .num n => n
 | .flt _ e => e.code
theorem Er.chain {X : Cx} {w : World} : ∀ (e : Er) (v : Value), vr X w e.av v -> ∃ k, Chain w v e.code k
 | .num n, v, h => by
  simp only [Er.av, qpi, vr] at h
  obtain ⟨u, rfl, rfl⟩ := h
  exact ⟨0, .num n⟩
 | .flt t e, v, h => by
  simp only [Er.av, qkv, vr, vrs] at h
  obtain ⟨u, ⟨us, a, ⟨u1, us1, rfl, h1, u2, us2, rfl, h2, rfl⟩, rfl, hs, hf⟩, rfl⟩ := h
  obtain ⟨k, hc⟩ := Er.chain e u2 h2
  refine ⟨k + 1, .flt a u2 _ k ?_ hc⟩
  rcases hf with hf | ⟨_, _, hf⟩
  ·cases hf
  ·exact hf 1 u2 rfl
theorem qix {T : Tab} {id : Nat} {old : Int} (e : Er) (hT : T id = .row 1 [.i .i64 old]) : ACalls prog q8p [e.av, .ifc qrq (.ptr id 0)] T (fun v T' => v = .b true /\ T' = T.put id (.row 1 [.i .i64 e.code])) := by
 intro X lam w cargs hr hv
 simp only [vrs] at hv
 obtain ⟨v1, us1, rfl, h1, v2, us2, rfl, h2, rfl⟩ := hv
 simp only [vr] at h2
 obtain ⟨u, ⟨hid, rfl⟩, rfl⟩ := h2
 obtain ⟨k, hc⟩ := e.chain v1 h1
 obtain ⟨cur, ee, us, g1, g2, g3, g4, g5, g6, g7⟩ := hr.row id 1 _ hT
 simp only [vrs] at g2
 obtain ⟨u0, us0, rfl, g2, rfl⟩ := g2
 simp only [vr] at g2
 subst g2
 have hcur := g4 0 _ rfl
 simp only [Nat.add_zero] at hcur ⊢
 have ht : w.cell? ⟨(X.β id).blk, (X.β id).base, none⟩ = some (.int .i64 old) := by
  simp [World.cell?, g1, hcur]
 have hf : w.frozen? ⟨(X.β id).blk, (X.β id).base, none⟩ = false := by
  simp [World.frozen?, g1]
 have hg := (hr.glob _ (List.mem_singleton.2 rfl)).2
 refine (qph _ _ e.code k v1 w hc ht hf hg).mono ?_
 rintro ev w' ⟨rfl, rfl⟩
 have hb : (X.β id).blk < w.heap.size := World.block_lt_of_cell? _ _ ht
 have h0 : SR X T w X lam [] [] T { tmps := #[], defers := [] } w := ⟨hr, .refl X T w, fun l c hc => by simp [Y6] at hc, fun s x hs => by simp [Y6] at hs, rfl⟩
 have h4 := (((h0.grow (World.grownBy_alloc w (.cells #[.pointer (some ⟨(X.β id).blk, (X.β id).base, none⟩)] 139) none)).grow (World.grownBy_alloc _ (.cells #[.pointer (some ⟨1, 139, none⟩), .pointer (some ⟨w.heap.size, 0, none⟩), .int .u64 150] 154) none)).grow
  (World.grownBy_alloc _ (.cells #[.pointer (some ⟨1, 139, none⟩), .pointer (some ⟨w.heap.size, 0, none⟩), .int .u64 150] 154) none)).grow (World.grownBy_alloc _ (.cells #[.int .i64 e.code] 38) none)
 obtain ⟨w', hw, hs⟩ := h4.storeRow (P := prog) (o := 0) (xs := [.i .i64 e.code]) (vs := [.int .i64 e.code]) hT (by simp) (by simp [vrs, vr]) (by simp [Value.oneCell'])
 have hcell : ((qca ⟨w.heap.size, 0, none⟩ (asW ⟨(X.β id).blk, (X.β id).base, none⟩ w)).alloc (.cells #[.int .i64 e.code] 38)).cell? ⟨(X.β id).blk, (X.β id).base, none⟩ = some (.int .i64 old) := by
  rw [World.cell?_alloc_lt _ _ _ (by simp; omega), World.cell?_alloc_lt _ _ _ (by simp; omega), World.cell?_alloc_lt _ _ _ (by simp; omega), World.cell?_alloc_lt _ _ _ hb]; exact ht
 have hfro : ((qca ⟨w.heap.size, 0, none⟩ (asW ⟨(X.β id).blk, (X.β id).base, none⟩ w)).alloc (.cells #[.int .i64 e.code] 38)).frozen? ⟨(X.β id).blk, (X.β id).base, none⟩ = false := by
  rw [World.frozen?_alloc_old _ _ _ (by simp; omega), World.frozen?_alloc_old _ _ _ (by simp; omega), World.frozen?_alloc_old _ _ _ (by simp; omega), World.frozen?_alloc_old _ _ _ (Nat.ne_of_lt hb)]; exact hf
 have hw2 : (storeCells ⟨(X.β id).blk, (X.β id).base + 0, none⟩ [.int .i64 e.code]).run prog ((qca ⟨w.heap.size, 0, none⟩ (asW ⟨(X.β id).blk, (X.β id).base, none⟩ w)).alloc (.cells #[.int .i64 e.code] 38))
   = .ok () (((qca ⟨w.heap.size, 0, none⟩ (asW ⟨(X.β id).blk, (X.β id).base, none⟩ w)).alloc (.cells #[.int .i64 e.code] 38)).setCell ⟨(X.β id).blk, (X.β id).base, none⟩ (.int .i64 e.code)) := by
  simp only [Nat.add_zero, storeCells, Sem.run_bind, Addr.add]
  simp only [if_true]
  rw [run_store prog _ _ _ _ (by rfl)]
  simp only [hcell, hfro]
  rfl
 have hww : w' = (((qca ⟨w.heap.size, 0, none⟩ (asW ⟨(X.β id).blk, (X.β id).base, none⟩ w)).alloc (.cells #[.int .i64 e.code] 38)).setCell ⟨(X.β id).blk, (X.β id).base, none⟩ (.int .i64 e.code)) := by
  have := hw.symm.trans hw2
  injection this
 subst hww
 exact ⟨_, .b true, _, X, lam, rfl, ⟨rfl, rfl⟩, by simp [vr], hs.rel, hs.step⟩
end Go.Aw
namespace Go.Aw
open Go
open Go.Proofs.Tryz (prog)
set_option linter.all false
set_option maxHeartbeats 4000000
theorem qrr (w : List UInt8) (e : Int) : U4 prog q5w [.s w, .i .i64 e] (if e = 0 then .nilifc else qkv w (qpi e)) := by
 refine K9 O2 qip (by simp) fun T => ?_
 unfold qd8
 by_cases h : e = 0
 ·subst h
  simp -implicitDefEqProofs -dsimp only [go_sem, seval, decide_true]
  exact K0 rfl
 ·have d : decide (e = 0) = false := decide_eq_false h
  simp -implicitDefEqProofs -dsimp only [go_sem, seval, d, h]
  intro id hid
  refine J5 ?_
  simp -implicitDefEqProofs -dsimp only [go_sem, seval]
  refine ⟨[id], T, _, by simp, by simp [Tab.put_same], fun j => ?_, ?_, rfl, rfl⟩
  ·simp only [q9m]
   rw [Tab.put_put, Tab.put_self hid]; exact .inr (.inl rfl)
  ·simp only [ql8, qf0, qau, List.mem_singleton, if_true, Tab.put_same, List.drop_zero]
   exact .refl _
theorem qiy : J7 prog q8p = true := by kernel_rfl
def qo0 : Option Er -> AV
 | none => .nilifc
 | some e => e.av
def qjr : Option Er -> Int
 | none => 0
 | some e => e.code
theorem Er.ifc (e : Er) : ∃ t v, e.av = .ifc t v := by cases e <;> exact ⟨_, _, rfl⟩
theorem qrs (e : Option Er) : U4 prog q4k [qo0 e] (.i .i64 (qjr e)) := by
 refine K9 O2 qh4 (by simp) fun T => ?_
 unfold qbs
 cases e with
 | none =>
  simp -implicitDefEqProofs -dsimp only [go_sem, seval, qo0, qjr, qhq]
  intro id hid
  refine J5 ?_
  simp -implicitDefEqProofs -dsimp only [go_sem, seval, qhq]
  exact ((TabLe.refl T).put hid).fin
 | some e =>
  obtain ⟨t, v, he⟩ := e.ifc
  have ca := fun (T : Tab) id old hT => qix (T := T) (id := id) (old := old) e hT
  simp only [qo0, qjr, he] at ca ⊢
  simp -implicitDefEqProofs -dsimp only [go_sem, seval, qhq]
  intro id hid
  refine J5 ?_
  simp -implicitDefEqProofs -dsimp only [go_sem, seval, qhq, ↓J1 _ _ qiy]
  refine can (ca _ id 0 (Tab.put_same ..)) ?_
  simp -implicitDefEqProofs -dsimp only [go_sem, seval, Tab.put_same]
  rw [Tab.put_put]
  exact ((TabLe.refl T).put hid).fin
end Go.Aw
