/-
  A region whose order is drawn: one order stands for all.
-/
import Derived.Test.YtchkfbfbhaldfaaAwRegion
namespace Go.Aw
set_option linter.all false
open Go

abbrev Ent := Nat × SOp

def edgesOf (ops : Array Oper) (i : Nat) : List Nat :=
  match ops[i]? with
  | some o => (o.after.toList.filter (Region.binds .any)).map (·.on)
  | none => []

/-- What must have been done ahead of each. -/
def ancs (ops : Array Oper) : List Ent → List (Nat × List Nat) → List (Nat × List Nat)
  | [], acc => acc
  | (i, _) :: r, acc =>
    let es := edgesOf ops i
    let add (l : List Nat) (x : Nat) : List Nat := if l.contains x then l else x :: l
    let all := es.foldl (fun l e => ((aget acc e).getD []).foldl add (add l e)) []
    ancs ops r ((i, all) :: acc)

def ancOf (A : List (Nat × List Nat)) (i : Nat) : List Nat := (aget A i).getD []

def ancOk (ops : Array Oper) (A : List (Nat × List Nat)) (C : List Ent) : Bool :=
  C.all fun x => (ancOf A x.1).all fun y => (edgesOf ops x.1).any fun e => e == y || (ancOf A e).contains y

/-- Each may go ahead of those that are listed ahead of it and need not be. -/
def chk (ops : Array Oper) (A : List (Nat × List Nat)) : List Ent → List Ent → Bool
  | _, [] => true
  | l, x :: r => (edgesOf ops x.1).all (fun e => (l.map (·.1)).contains e) && (mvRc x.2 ((l.filter fun y => !(ancOf A x.1).contains y.1).map (·.2)) x.2.rc).isSome && chk ops A (l ++ [x]) r

def nodupB : List Nat → Bool
  | [] => true
  | x :: l => !l.contains x && nodupB l

theorem nodupB_spec : ∀ {l : List Nat}, nodupB l = true → l.Nodup
  | [], _ => List.nodup_nil
  | x :: l, h => by
    simp only [nodupB, Bool.and_eq_true, Bool.not_eq_true'] at h
    exact List.nodup_cons.2 ⟨by simpa using h.1, nodupB_spec h.2⟩

structure DrawOk (P : Program) (H : Hint) (n : Nat) (ops : Array Oper) (A : List (Nat × List Nat)) (C : List Ent) : Prop where
  ok : ∀ x ∈ C, ∃ o, ops[x.1]? = some o ∧ OkOp P H n ops o x.2
  nodup : (C.map (·.1)).Nodup
  all : ∀ i, i < ops.size → ∃ s, (i, s) ∈ C
  anc : ancOk ops A C = true
  chk : chk ops A [] C = true
  rc : ∀ x ∈ C, RcFrom (C.map (·.2)) x.2.rc
  dsts : ∀ y ∈ C.map (·.2), ∀ z ∈ C.map (·.2), z.dst ≠ none → z.dst = y.dst → z.op = y.op ∧ z.gd = y.gd

theorem chk_split {ops : Array Oper} {A : List (Nat × List Nat)} : ∀ (r l : List Ent), chk ops A l r = true → ∀ m x t, r = m ++ x :: t →
    (∀ e ∈ edgesOf ops x.1, e ∈ (l ++ m).map (·.1)) ∧ (mvRc x.2 (((l ++ m).filter fun y => !(ancOf A x.1).contains y.1).map (·.2)) x.2.rc).isSome = true
  | [], _, _, m, x, t, h => by cases m <;> cases h
  | z :: r, l, h, [], x, t, e => by
    simp only [List.nil_append, List.cons.injEq] at e
    obtain ⟨rfl, rfl⟩ := e
    simp only [Aw.chk, Bool.and_eq_true] at h
    rw [List.append_nil]
    refine ⟨fun e he => ?_, h.1.2⟩
    have := List.all_eq_true.1 h.1.1 e he
    simpa using this
  | z :: r, l, h, y :: m, x, t, e => by
    simp only [List.cons_append, List.cons.injEq] at e
    obtain ⟨rfl, rfl⟩ := e
    simp only [Aw.chk, Bool.and_eq_true] at h
    have := chk_split (m ++ x :: t) (l ++ [z]) h.2 m x t rfl
    simpa using this

def unl (listed : Array Bool) (x : Ent) : Bool := !(listed.getD x.1 true)

section
variable {P : Program} {H : Hint} {X0 : Cx} {T0 : Tab} {w0 : World} {ops : Array Oper} {Q : Exit → Act → World → Prop}

theorem getD_listed {listed : Array Bool} {n : Nat} (hs : listed.size = n) {j : Nat} (hj : j < n) : listed.getD j true = listed.getD j false := by
  have : j < listed.size := by omega
  simp [this]

theorem wpAny_canon {n : Nat} {A : List (Nat × List Nat)} {C : List Ent} (hC : DrawOk P H n ops A C) {K : Env → Loc → Tab → Prop} (hK : ExtK K) (hQ : Behind X0 T0 w0 n K Q) :
    ∀ (fuel : Nat) (listed : Array Bool), listed.size = ops.size → (∀ x ∈ C, listed.getD x.1 false = true → ∀ y ∈ ancOf A x.1, listed.getD y false = true) →
      (C.filter (unl listed)).length = fuel → ∀ {a w}, Nx X0 T0 w0 n (opsG P ((C.filter (unl listed)).map (·.2)) K) a w → wpAny P .any ops Q fuel listed a w := by
  have hlt : ∀ x ∈ C, x.1 < ops.size := fun x hx => by
    obtain ⟨o, ho, _⟩ := hC.ok x hx
    exact (Array.getElem?_eq_some_iff.1 ho).1
  -- who is ready has all that it needs
  have hanc : ∀ (listed : Array Bool), (∀ x ∈ C, listed.getD x.1 false = true → ∀ y ∈ ancOf A x.1, listed.getD y false = true) → ∀ x ∈ C, (∀ e ∈ edgesOf ops x.1, listed.getD e false = true) →
      ∀ y ∈ ancOf A x.1, listed.getD y false = true := by
    intro listed hdn x hx hes y hy
    have h1 := List.all_eq_true.1 hC.anc x hx
    have h2 := List.all_eq_true.1 h1 y hy
    obtain ⟨e, he, h3⟩ := List.any_eq_true.1 h2
    have hl := hes e he
    simp only [Bool.or_eq_true, beq_iff_eq] at h3
    rcases h3 with rfl | h3
    · exact hl
    · have helt : e < ops.size := by
        obtain ⟨m, t, rfl⟩ := List.append_of_mem hx
        have := (chk_split _ [] hC.chk m x t rfl).1 e he
        simp only [List.nil_append, List.mem_map] at this
        obtain ⟨z, hz, rfl⟩ := this
        exact hlt z (List.mem_append_left _ hz)
      obtain ⟨s, hs⟩ := hC.all e helt
      exact hdn (e, s) hs hl y (by simpa using h3)
  have hedges : ∀ {i : Nat} {o : Oper} {listed : Array Bool}, ops[i]? = some o → ((∀ e ∈ o.after, Region.binds .any e = true → listed.getD e.on false = true) ↔ ∀ e ∈ edgesOf ops i, listed.getD e false = true) := by
    intro i o listed ho
    simp only [edgesOf, ho, List.mem_map, List.mem_filter]
    constructor
    · rintro h e ⟨e', ⟨h1, h2⟩, rfl⟩
      exact h e' (by simpa using h1) h2
    · intro h e he hb
      exact h e.on ⟨e, ⟨by simpa using he, hb⟩, rfl⟩
  intro fuel
  induction fuel with
  | zero =>
    intro listed hs hdn hlen a w h
    have hnil : C.filter (unl listed) = [] := List.eq_nil_of_length_eq_zero hlen
    have hr : Region.ready .any ops listed = [] := by
      cases hr : Region.ready .any ops listed with
      | nil => rfl
      | cons i r =>
        have hi := (mem_ready (md := .any) (j := i)).1 (by rw [hr]; exact List.mem_cons_self ..)
        obtain ⟨h0, o, ho, _⟩ := hi
        obtain ⟨s, hs'⟩ := hC.all i (Array.getElem?_eq_some_iff.1 ho).1
        have : (i, s) ∈ C.filter (unl listed) := List.mem_filter.2 ⟨hs', by simp only [unl]; rw [h0]; rfl⟩
        rw [hnil] at this
        cases this
    rw [hnil] at h
    exact ⟨hr, hQ a w h⟩
  | succ fuel ih =>
    intro listed hs hdn hlen a w h
    refine ⟨fun hr => ?_, fun i hi => ?_⟩
    · -- the first that is left is ready
      exfalso
      cases hf : C.filter (unl listed) with
      | nil => rw [hf] at hlen; cases hlen
      | cons x C' =>
        obtain ⟨l1, l2, rfl, hl1, hx, _⟩ := List.filter_eq_cons_iff.1 hf
        obtain ⟨o, ho, _⟩ := hC.ok x (List.mem_append_right _ (List.mem_cons_self ..))
        have hes : ∀ e ∈ edgesOf ops x.1, listed.getD e false = true := fun e he => by
          have := (chk_split _ [] hC.chk l1 x l2 rfl).1 e he
          simp only [List.nil_append, List.mem_map] at this
          obtain ⟨z, hz, rfl⟩ := this
          have hz1 := hl1 z hz
          have hzl := hlt z (List.mem_append_left _ hz)
          simp only [unl, Bool.not_eq_true, Bool.not_eq_false'] at hz1
          rw [← getD_listed hs hzl]
          exact hz1
        have hm : x.1 ∈ Region.ready .any ops listed := mem_ready.2 ⟨by simpa [unl] using hx, o, ho, (hedges ho).2 hes⟩
        rw [hr] at hm
        cases hm
    · obtain ⟨h0, o, ho, hall⟩ := mem_ready.1 hi
      have hilt := (Array.getElem?_eq_some_iff.1 ho).1
      obtain ⟨s, hsC⟩ := hC.all i hilt
      have hes := (hedges ho).1 hall
      have hanc' := hanc listed hdn (i, s) hsC hes
      obtain ⟨l1, l2, hsplit⟩ := List.append_of_mem hsC
      have hnd := hC.nodup
      rw [hsplit, List.map_append, List.map_cons] at hnd
      have hnd1 : ∀ y ∈ l1, y.1 ≠ i := fun y hy e => by
        have := (List.nodup_append.1 hnd).2.2 y.1 (List.mem_map_of_mem hy) i (List.mem_cons_self ..)
        exact this e
      have hnd2 : ∀ y ∈ l2, y.1 ≠ i := fun y hy e => by
        have h1 := (List.nodup_cons.1 (List.nodup_append.1 hnd).2.1).1
        have h2 : y.1 ∈ l2.map (·.1) := List.mem_map_of_mem hy
        rw [e] at h2
        exact h1 h2
      have hxu : unl listed (i, s) = true := by simp only [unl]; rw [h0]; rfl
      have hset : ∀ y : Ent, y.1 ≠ i → unl (listed.setIfInBounds i true) y = unl listed y := fun y hy => by
        simp only [unl]; rw [getD_set_ne true (Ne.symm hy)]
      have hseti : unl (listed.setIfInBounds i true) (i, s) = false := by
        have : i < listed.size := by omega
        simp [unl, this]
      have hC1 : C.filter (unl listed) = l1.filter (unl listed) ++ (i, s) :: l2.filter (unl listed) := by
        rw [hsplit, List.filter_append, List.filter_cons_of_pos hxu]
      have hC2 : C.filter (unl (listed.setIfInBounds i true)) = l1.filter (unl listed) ++ l2.filter (unl listed) := by
        rw [hsplit, List.filter_append, List.filter_cons_of_neg (by rw [hseti]; decide)]
        congr 1
        · exact List.filter_congr fun y hy => hset y (hnd1 y hy)
        · exact List.filter_congr fun y hy => hset y (hnd2 y hy)
      -- it may go first
      obtain ⟨hce, hcm⟩ := chk_split _ [] hC.chk l1 (i, s) l2 hsplit
      simp only [List.nil_append] at hcm
      obtain ⟨r, hr⟩ := Option.isSome_iff_exists.1 hcm
      have hsub : ((l1.filter (unl listed)).map (·.2)).Sublist ((l1.filter fun y => !(ancOf A i).contains y.1).map (·.2)) := by
        refine List.Sublist.map _ ?_
        have : l1.filter (unl listed) = (l1.filter fun y => !(ancOf A i).contains y.1).filter (unl listed) := by
          rw [List.filter_filter]
          refine List.filter_congr fun y hy => ?_
          cases hu : unl listed y with
          | false => simp
          | true =>
            have : y.1 ∉ ancOf A i := fun hm => by
              have hl := hanc' y.1 hm
              have hyl := hlt y (by rw [hsplit]; exact List.mem_append_left _ hy)
              simp only [unl, Bool.not_eq_true'] at hu
              rw [getD_listed hs hyl, hl] at hu
              cases hu
            simp [this]
        rw [this]
        exact List.filter_sublist
      obtain ⟨r', hr', _⟩ := mvRc_sublist hsub hr
      obtain ⟨_, hmove⟩ := move_front (P := P) (C := C.map (·.2)) (x := s) hK ((l2.filter (unl listed)).map (·.2)) (hC.rc (i, s) hsC) ((l1.filter (unl listed)).map (·.2))
        (fun y hy => by
          obtain ⟨z, hz, rfl⟩ := List.mem_map.1 hy
          exact List.mem_map_of_mem (by rw [hsplit]; exact List.mem_append_left _ (List.mem_filter.1 hz).1)) hC.dsts hr'
      obtain ⟨X, lam, env, L, T, hk, hsr, hn⟩ := h
      rw [hC1, List.map_append, List.map_cons] at hk
      have hk2 := hmove hk
      obtain ⟨o', ho', hok⟩ := hC.ok (i, s) hsC
      simp only at ho'
      rw [ho] at ho'
      injection ho' with ho'
      subst ho'
      have hok' : OkOp P H n ops o { s with rc := r' } := ⟨hok.op, hok.dst, hok.lt, hok.gd⟩
      refine wpOp_mono (fun a' w' h' => ?_) (gstep_sound ho hok' hsr hn hk2)
      refine ih (listed.setIfInBounds i true) (by simp [hs]) (fun x hx hl y hy => ?_) ?_ (by rw [hC2, List.map_append]; exact h')
      · by_cases e : x.1 = i
        · exact getD_set_true (hanc' y (by rw [← e]; exact hy))
        · rw [getD_set_ne false (Ne.symm e)] at hl
          exact getD_set_true (hdn x hx hl y hy)
      · rw [hC2]
        rw [hC1] at hlen
        simp at hlen ⊢
        omega

/-- A region whose order is drawn. -/
theorem wp_region_drawn {n : Nat} {A : List (Nat × List Nat)} {C : List Ent} (hC : DrawOk P H n ops A C) (hm : P.follows .mixedOrders = true) {K : Env → Loc → Tab → Prop} (hK : ExtK K) (hQ : Behind X0 T0 w0 n K Q) {id : Nat} {a : Act} {w : World}
    (h : Nx X0 T0 w0 n (opsG P (C.map (·.2)) K) a w) : (Code.region id ops true).wp P Q a w := by
  have hall : C.filter (unl (Array.replicate ops.size false)) = C := by
    refine List.filter_eq_self.2 fun x hx => ?_
    obtain ⟨o, ho, _⟩ := hC.ok x hx
    have := (Array.getElem?_eq_some_iff.1 ho).1
    simp [unl, this]
  have hlen : C.length = ops.size := by
    have h1 : (C.map (·.1)).length = ops.size := by
      have hp : (C.map (·.1)).Perm (List.range ops.size) := by
        refine (List.perm_ext_iff_of_nodup hC.nodup List.nodup_range).2 fun i => ?_
        rw [List.mem_range, List.mem_map]
        constructor
        · rintro ⟨x, hx, rfl⟩
          obtain ⟨o, ho, _⟩ := hC.ok x hx
          exact (Array.getElem?_eq_some_iff.1 ho).1
        · intro hi
          obtain ⟨s, hs⟩ := hC.all i hi
          exact ⟨_, hs, rfl⟩
      rw [hp.length_eq, List.length_range]
    simpa using h1
  refine wp_region_any hm ?_
  obtain ⟨X, lam, env, L, T, hk, hsr, hn⟩ := h
  have hsr' : SR X0 T0 w0 X lam env L T a { w with drawn := w.drawn + 1 } := hsr.grow (grownBy_drew w none)
  refine wpAny_canon hC hK hQ ops.size _ (by simp) (fun x hx hl => ?_) (by rw [hall, hlen]) (by rw [hall]; exact ⟨X, lam, env, L, T, hk, hsr', hn⟩)
  exfalso
  by_cases hj : x.1 < ops.size
  · simp [hj] at hl
  · simp [hj] at hl

end
end Go.Aw
