import Derived.Test.YtoeaikcebjideaaDoorE03F
namespace Go.Aw
open Go Go.RowKit Go.Extern.Stop Go.Stop Go.Extern
open Go.Proofs.Tryd (prog)
open Go.Proofs
set_option linter.all false
set_option maxHeartbeats 4000000

abbrev tPFault : TypeId := 45
theorem AsNil_calls (t : Value) (w : World) : Calls prog 19 #[.nilIface, t] w fun ev w' => ev = .returned (.bool false) ∧ w' = w := by
  go_enter Tryd.func19, Tryd.ntmps19
  go_wp2
  go_ret
  exact ⟨rfl, rfl⟩
theorem ac_AsNil {T : Tab} {x : AV} : ACalls prog f_errors_As [.nilifc, x] T (fun v T' => v = .b false ∧ T' = T) := by
  intro X lam w cargs hr hv
  simp only [vrs] at hv
  obtain ⟨v1, us1, rfl, h1, v2, us2, rfl, h2, rfl⟩ := hv
  simp only [vr] at h1
  subst h1
  refine (AsNil_calls v2 w).mono ?_
  rintro ev w' ⟨rfl, rfl⟩
  exact ⟨_, .b false, T, X, lam, rfl, ⟨rfl, rfl⟩, by simp [vr], hr, .refl X T w'⟩
theorem ac_AsF {T : Tab} {id : Nat} {old x : AV} {wh : List UInt8} (hT : T id = .row 1 [old]) : ACalls prog f_errors_As [fault wh x, .ifc tPFault (.ptr id 0)] T (fun v T' => v = .b true ∧ T' = T.put id (.row 1 [.fptr [.s wh, x]])) := by
  intro X lam w cargs hr hv
  simp only [vrs, fault] at hv
  obtain ⟨v1, us1, rfl, h1, v2, us2, rfl, h2, rfl⟩ := hv
  simp only [vr] at h2
  obtain ⟨u, ⟨hid, rfl⟩, rfl⟩ := h2
  have h1' := h1
  simp only [vr] at h1'
  obtain ⟨u1, hu1, rfl⟩ := h1'
  have hfp : vr X w (.fptr [.s wh, x]) u1 := by simp only [vr]; exact hu1
  obtain ⟨usx, a, _, rfl, _, _⟩ := hu1
  obtain ⟨cur, ee, us, g1, g2, g3, g4, g5, g6, g7⟩ := hr.row id 1 _ hT
  simp only [vrs] at g2
  obtain ⟨u0, us0, rfl, g2, rfl⟩ := g2
  have hcur := g4 0 _ rfl
  simp only [Nat.add_zero] at hcur ⊢
  have ht : w.cell? ⟨(X.β id).blk, (X.β id).base, none⟩ = some u0 := by
    simp [World.cell?, g1, hcur]
  have hf : w.frozen? ⟨(X.β id).blk, (X.β id).base, none⟩ = false := by
    simp [World.frozen?, g1]
  have hg := (hr.glob _ (List.mem_singleton.2 rfl)).2
  refine (AsF_calls _ a u0 w ht hf hg).mono ?_
  rintro ev w' ⟨rfl, rfl⟩
  have hb : (X.β id).blk < w.heap.size := World.block_lt_of_cell? _ _ ht
  have h0 : SR X T w X lam [] [] T { tmps := #[], defers := [] } w := ⟨hr, .refl X T w, fun l c hc => by simp [aget] at hc, fun s x hs => by simp [aget] at hs, rfl⟩
  have h4 := (((h0.grow (World.grownBy_alloc w (.cells #[.pointer (some ⟨(X.β id).blk, (X.β id).base, none⟩)] 45) none)).grow (World.grownBy_alloc _ (.cells #[.pointer (some ⟨2, 45, none⟩), .pointer (some ⟨w.heap.size, 0, none⟩), .int .u64 150] 51) none)).grow
    (World.grownBy_alloc _ (.cells #[.pointer (some ⟨2, 45, none⟩), .pointer (some ⟨w.heap.size, 0, none⟩), .int .u64 150] 51) none)).grow (World.grownBy_alloc _ (.cells #[.pointer (some a)] 33) none)
  have hk4 : FzKept X w ((asBoxF ⟨w.heap.size, 0, none⟩ (asWF ⟨(X.β id).blk, (X.β id).base, none⟩ w)).alloc (.cells #[.pointer (some a)] 33)) := fun b hbf => h4.step.kept b (hr.fzlt b hbf) (by
    rintro ⟨j, hj, rfl⟩
    exact hr.live_fz j hj hbf)
  have hfp4 := vr.mono (X' := X) (.refl X) hk4 _ _ hfp
  obtain ⟨w', hw, hs⟩ := h4.storeRow (P := prog) (o := 0) (xs := [.fptr [.s wh, x]]) (vs := [.pointer (some a)]) hT (by simp) (by
    simp only [vrs]
    exact ⟨_, _, rfl, hfp4, rfl⟩) (by simp [Value.oneCell'])
  have hcell : ((asBoxF ⟨w.heap.size, 0, none⟩ (asWF ⟨(X.β id).blk, (X.β id).base, none⟩ w)).alloc (.cells #[.pointer (some a)] 33)).cell? ⟨(X.β id).blk, (X.β id).base, none⟩ = some u0 := by
    rw [World.cell?_alloc_lt _ _ _ (by simp; omega), World.cell?_alloc_lt _ _ _ (by simp; omega), World.cell?_alloc_lt _ _ _ (by simp; omega), World.cell?_alloc_lt _ _ _ hb]; exact ht
  have hfro : ((asBoxF ⟨w.heap.size, 0, none⟩ (asWF ⟨(X.β id).blk, (X.β id).base, none⟩ w)).alloc (.cells #[.pointer (some a)] 33)).frozen? ⟨(X.β id).blk, (X.β id).base, none⟩ = false := by
    rw [World.frozen?_alloc_old _ _ _ (by simp; omega), World.frozen?_alloc_old _ _ _ (by simp; omega), World.frozen?_alloc_old _ _ _ (by simp; omega), World.frozen?_alloc_old _ _ _ (Nat.ne_of_lt hb)]; exact hf
  have hw2 : (storeCells ⟨(X.β id).blk, (X.β id).base + 0, none⟩ [.pointer (some a)]).run prog ((asBoxF ⟨w.heap.size, 0, none⟩ (asWF ⟨(X.β id).blk, (X.β id).base, none⟩ w)).alloc (.cells #[.pointer (some a)] 33))
      = .ok () (((asBoxF ⟨w.heap.size, 0, none⟩ (asWF ⟨(X.β id).blk, (X.β id).base, none⟩ w)).alloc (.cells #[.pointer (some a)] 33)).setCell ⟨(X.β id).blk, (X.β id).base, none⟩ (.pointer (some a))) := by
    simp only [Nat.add_zero, storeCells, Sem.run_bind, Addr.add]
    simp only [if_true]
    rw [run_store prog _ _ _ _ (by rfl)]
    simp only [hcell, hfro]
    rfl
  have hww : w' = (((asBoxF ⟨w.heap.size, 0, none⟩ (asWF ⟨(X.β id).blk, (X.β id).base, none⟩ w)).alloc (.cells #[.pointer (some a)] 33)).setCell ⟨(X.β id).blk, (X.β id).base, none⟩ (.pointer (some a))) := by
    have := hw.symm.trans hw2
    injection this
  subst hww
  exact ⟨_, .b true, _, X, lam, rfl, ⟨rfl, rfl⟩, by simp [vr], hs.rel, hs.step⟩
theorem ac_AsFN {T : Tab} {id : Nat} {old : AV} {n : Int} (hT : T id = .row 1 [old]) : ACalls prog f_errors_As [errno n, .ifc tPFault (.ptr id 0)] T (fun v T' => v = .b false ∧ T' = T) := by
  intro X lam w cargs hr hv
  simp only [vrs, errno] at hv
  obtain ⟨v1, us1, rfl, h1, v2, us2, rfl, h2, rfl⟩ := hv
  simp only [vr] at h1 h2
  obtain ⟨u1, rfl, rfl⟩ := h1
  obtain ⟨u, ⟨hid, rfl⟩, rfl⟩ := h2
  obtain ⟨cur, ee, us, g1, g2, g3, g4, g5, g6, g7⟩ := hr.row id 1 _ hT
  simp only [vrs] at g2
  obtain ⟨u0, us0, rfl, g2, rfl⟩ := g2
  have hcur := g4 0 _ rfl
  simp only [Nat.add_zero] at hcur ⊢
  have ht : w.cell? ⟨(X.β id).blk, (X.β id).base, none⟩ = some u0 := by
    simp [World.cell?, g1, hcur]
  have hg := (hr.glob _ (List.mem_singleton.2 rfl)).2
  refine (AsFN_calls _ n u0 w ht hg).mono ?_
  rintro ev w' ⟨rfl, rfl⟩
  have h0 : SR X T w X lam [] [] T { tmps := #[], defers := [] } w := ⟨hr, .refl X T w, fun l c hc => by simp [aget] at hc, fun s x hs => by simp [aget] at hs, rfl⟩
  have h4 := ((h0.grow (World.grownBy_alloc w (.cells #[.pointer (some ⟨(X.β id).blk, (X.β id).base, none⟩)] 45) none)).grow (World.grownBy_alloc _ (.cells #[.pointer (some ⟨2, 45, none⟩), .pointer (some ⟨w.heap.size, 0, none⟩), .int .u64 150] 51) none)).grow
    (World.grownBy_alloc _ (.cells #[.pointer (some ⟨2, 45, none⟩), .pointer (some ⟨w.heap.size, 0, none⟩), .int .u64 150] 51) none)
  exact ⟨_, .b false, _, X, lam, rfl, ⟨rfl, rfl⟩, by simp [vr], h4.rel, h4.step⟩
end Go.Aw
