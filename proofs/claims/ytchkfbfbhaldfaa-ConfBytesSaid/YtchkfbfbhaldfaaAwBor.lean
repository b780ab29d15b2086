/-
  A function that computes may be lent what others own: it leaves all as it was.
-/
import Derived.Test.YtchkfbfbhaldfaaAwMore2
namespace Go.Aw
open Go
set_option linter.all false

/-- A value that says nothing of places. -/
def Indep (r : AV) : Prop := ∀ X X' w w' v, vr X w r v → vr X' w' r v
theorem Indep.b {x : Bool} : Indep (.b x) := fun _ _ _ _ _ h => by simp only [vr] at h ⊢; exact h
theorem Indep.i {k : IntKind} {n : Int} : Indep (.i k n) := fun _ _ _ _ _ h => by simp only [vr] at h ⊢; exact h
theorem Indep.s {l : List UInt8} : Indep (.s l) := fun _ _ _ _ _ h => by simp only [vr] at h ⊢; exact h
theorem Indep.tup {l : List AV} (h : ∀ x ∈ l, Indep x) : Indep (.tup l) := fun X X' w w' v hv => by
  simp only [vr] at hv ⊢
  obtain ⟨us, h1, h2⟩ := hv
  refine ⟨us, ?_, h2⟩
  clear h2
  induction l generalizing us with
  | nil => simpa [vrs] using h1
  | cons x l ih =>
    simp only [vrs] at h1 ⊢
    obtain ⟨u, us', e, k1, k2⟩ := h1
    exact ⟨u, us', e, h x (List.mem_cons_self ..) _ _ _ _ _ k1, ih (fun y hy => h y (List.mem_cons_of_mem _ hy)) us' k2⟩

theorem ACalls.borrow {P : Program} {f : FuncId} {avs : List AV} {T : Tab} {S : List Nat} {r : AV} (hn : S.Nodup) (hS : ∀ id ∈ S, T id ≠ .unused) (h : PCalls P f (avs.map (frzv T S)) r) (hr : Indep r) :
    ACalls P f avs T (fun v T' => v = r ∧ T' = T) := by
  intro X lam w cargs hrel hv
  have h0 : SR X T w X lam [] [] T { tmps := #[], defers := [] } w := ⟨hrel, .refl X T w, fun l c hc => by simp [aget] at hc, fun s x hs => by simp [aget] at hs, rfl⟩
  have h1 := h0.freezes S hn hS
  have h2 := h1.sub (T' := Tab.nil) (fun id => .inl rfl)
  have hv' : vrs (X.addFzs S) w (avs.map (frzv T S)) cargs := hv.map fun x v hx => frzv_sound hrel hx
  have hc := h Tab.nil (X.addFzs S) lam w cargs h2.rel hv'
  refine hc.mono fun e w' ⟨v, x, T', X', lam', he, ⟨hx, hT⟩, hvr, hrel', hst⟩ => ?_
  subst hx; subst hT
  have hk : ∀ b, b < w.heap.size → w'.heap[b]? = w.heap[b]? := fun b hb => hst.kept b hb fun ⟨id, hid, _⟩ => hid rfl
  have hfz : FzKept X w w' := fun b hb => hk b (hrel.fzlt b hb)
  have hlt : ∀ id, T id ≠ .unused → (X.β id).blk < w.heap.size := fun id hid => hrel.live_lt ⟨id, hid, rfl⟩
  refine ⟨v, x, T, X, lam, he, ⟨rfl, rfl⟩, hr _ _ _ _ _ hvr, ⟨hrel.fresh, fun b hb => Nat.lt_of_lt_of_le (hrel.fzlt b hb) hst.size, fun id esz cells hT => ?_, fun id es hT => ?_, hrel.live_fz, hrel.live_inj, fun l c hc => by simp [aget] at hc, fun l c hc => by simp [aget] at hc, fun l l' c c' hc => by simp [aget] at hc, fun l c hc => by simp [aget] at hc⟩,
    ⟨.refl X, hst.os, hst.tape, hst.output, hst.size, fun b hb _ => hk b hb, fun _ _ hf => .inl hf, fun _ _ hl => hl, fun _ _ hT => hT⟩⟩
  · exact (hrel.row id esz cells hT).mono (.refl X) hfz (hrel.id_lt (by simp [hT])) (hk _ (hlt id (by simp [hT])))
  · exact (hrel.map id es hT).mono (.refl X) hfz (hrel.id_lt (by simp [hT])) (hk _ (hlt id (by simp [hT])))

/-- A function that computes is lent what one owns. -/
theorem CallK.borrow {P : Program} {f : FuncId} {avs : List AV} {T T' : Tab} {l : List Ow} {r : AV} {k : AV → Tab → Prop} (h : Owns T l T')
    (hc : ∀ S, (∀ a ∈ l, ∃ cap, frz1 T' S a.v = .fz a.n a.xs cap) → PCalls P f (avs.map (frzv T' S)) r) (hr : Indep r) (hk : k r T') : CallK P f avs T' k := by
  obtain ⟨S, k1, k2, k3, k4⟩ := h.fin
  exact CallK.as (ACalls.borrow k1 (fun id hid => (k2 id hid).1) (hc S k4) hr) hk
end Go.Aw
