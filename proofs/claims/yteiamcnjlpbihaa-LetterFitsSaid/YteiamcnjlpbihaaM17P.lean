import Derived.Test.YteiamcnjlpbihaaM17O
import Derived.Test.YteiamcnjlpbihaaL17E12F
import Derived.Test.YteiamcnjlpbihaaF04P
import Derived.Test.YteiamcnjlpbihaaL17F04N
namespace Go.Aw
open Go
open Go.Proofs.Try (prog)
set_option linter.all false
set_option maxHeartbeats 8000000
set_option maxRecDepth 8000

/-! A letter's bytes. -/
theorem pc_lflag (b : Bool) : PCalls prog f_letter_flag [.b b] (.i .u64 ((if b = true then (1 : Nat) else 0 : Nat) : Int)) := by
  refine pcalls_of mixed t_letter_flag (by simp) fun T => ?_
  unfold s_letter_flag
  cases b <;> simp -implicitDefEqProofs -dsimp only [go_sem, seval] <;> exact finL_pure rfl
theorem pc_bmaster (n : Int) : PCalls prog f_ballot_master [.i .i64 n] (.b (baOk n)) := by
  refine pcalls_of mixed t_ballot_master (by simp) fun T => ?_
  unfold s_ballot_master
  simp -implicitDefEqProofs -dsimp only [go_sem, seval]
  (first | (apply br_split <;> intro h_1 <;> simp -implicitDefEqProofs -dsimp only [go_sem, seval, h_1]) | (have h_1 := trivial)) <;>
    (first | (apply br_split <;> intro h_2 <;> simp -implicitDefEqProofs -dsimp only [go_sem, seval, h_1, h_2]) | (have h_2 := trivial)) <;>
    (first | (apply br_split <;> intro h_3 <;> simp -implicitDefEqProofs -dsimp only [go_sem, seval, h_1, h_2, h_3]) | (have h_3 := trivial))
  all_goals (refine finL_pure ?_; simp only [baOk, *, Bool.true_and, Bool.false_and])
theorem pc_bPut (b : Bs) (c : Option Nat) (r : Nat) (n : Int) (hb : b.length ≤ 900000) (hr : r < 18446744073709551616) (hn : baOk n = true) : PCalls prog f_ballot_Put [bts b c, .agg [.i .u64 r, .i .i64 n]] (bts (b ++ (enc r ++ enc n.toNat)) none) := by
  refine pcalls_of mixed t_ballot_Put (by simp) fun T => ?_
  have hn' := hn
  simp only [baOk, Bool.and_eq_true, decide_eq_true_eq] at hn'
  obtain ⟨m, rfl⟩ := Int.eq_ofNat_of_zero_le hn'.1
  have l1 := enc_len10 (m := r) hr
  unfold s_ballot_Put
  simp -implicitDefEqProofs -dsimp only [go_sem, seval, ↓g_call _ _ c_ballot_master]
  refine CallK.pure (pc_bmaster _) (aft_nil ?_)
  simp -implicitDefEqProofs -dsimp only [go_sem, seval, hn, wrap_u64n (n := m) (by omega), ↓g_call _ _ c_octet_Put]
  refine CallK.pure (pc_oPut b c r (by omega) hr) (aft_nil ?_)
  simp -implicitDefEqProofs -dsimp only [go_sem, seval, wrap_u64n (n := m) (by omega), ↓g_call _ _ c_octet_Put]
  refine CallK.pure (pc_oPut (b ++ enc r) none m (by simp; omega) (by omega)) (aft_nil ?_)
  simp -implicitDefEqProofs -dsimp only [go_sem, seval]
  exact finL_pure (by rw [List.append_assoc]; rfl)
def encV (v : Vt) : Bs := enc v.sl.toNat ++ (enc v.rd.toNat ++ enc v.nd.toNat) ++ encT v.v
def encC (c : Cf) : Bs := encRf c.plain
def encE (e : En) : Bs := encT (encEn e)
def VtG (v : Vt) : Prop := (0 ≤ v.sl ∧ v.sl ≤ 1048576) ∧ (0 ≤ v.rd ∧ v.rd < 18446744073709551616) ∧ baOk v.nd = true ∧ v.v.length ≤ 64
def CfG (c : Cf) : Prop := c.right = true ∧ (0 ≤ c.ep ∧ c.ep < 18446744073709551616) ∧ Len c.ch.length
def EnG (e : En) : Prop := enOk e = true ∧ e.t.Fine ∧ e.Rng
theorem encRf_len {c : Cf} (h : c.Ok) : (encRf c.plain).length ≤ 130 := by
  obtain ⟨h1, h2, h3, h4, h5, h6⟩ := h
  have l1 := enc_len10 (m := c.plain.ep.toNat) (by show c.ep.toNat < _; omega)
  have l2 := enc_len10 (m := c.plain.sh.toNat) (by show c.sh.toNat < _; omega)
  have l3 := enc_len10 (m := c.plain.l.length) (by rw [c.plain_len]; omega)
  have l4 := enc_len10 (m := lnN c.plain.ln) (by show lnN c.ln < _; unfold lnN; split <;> omega)
  have l5 := flatB_len (g := encM) c.plain.l (m := 11) fun m hm => encM_len (h5 m.1 (by rw [← c.plain_fst]; exact List.mem_map_of_mem hm))
  rw [c.plain_len] at l5
  simp only [encRf, List.length_append]; omega
theorem encEn_len {e : En} (h : e.Good) : (encEn e).length ≤ 2030 := by
  obtain ⟨h1, h2⟩ := h
  have l1 := enc_len10 (m := e.ep.toNat) (by omega)
  rcases h2 with ⟨h3, h4, h5, h6, h7, h8⟩ | ⟨h3, h4, h5, h6, h7⟩
  · have l2 := enc_len10 (m := e.kd.toNat) (by omega)
    have l3 := encTx_len h4
    simp only [encEn, List.length_append, h3, if_true]
    rw [h3] at l2; omega
  · have l2 := enc_len10 (m := e.kd.toNat) (by omega)
    have l3 := enc_len10 (m := e.cl.toNat) (by omega)
    have l4 := enc_len10 (m := e.sq.toNat) (by omega)
    have l5 := enc_len10 (m := e.co.toNat) (by omega)
    have : ¬ e.kd = 1 := by omega
    simp only [encEn, List.length_append, this, if_false]; omega


theorem lp_pl0 {R : RPost} (hR : ExtR R) {T : Tab} {xs : List Vt} (hl : xs.length ≤ 400) (hx : ∀ x ∈ xs, VtG x) : ∀ (us : List Vt) (k : Nat), xs.drop k = us → k ≤ xs.length → ∀ (b : Bs), b.length ≤ 100000 + 120 * k →
    R (.exit 1) [(1, bts (b ++ us.flatMap encV) none), (25, .fz xs.length (xs.flatMap vtC) none), (26, .i .i64 xs.length), (27, .i .i64 xs.length), (28, .b false)] [] T →
    AW prog letter_Letter_putList_l0 R [(1, bts b none), (25, .fz xs.length (xs.flatMap vtC) none), (26, .i .i64 xs.length), (27, .i .i64 k)] [] T := by
  intro us
  induction us with
  | nil =>
    intro k hk hle b hb h2
    have hk' := drop_nil hk hle
    refine AW_loop hR ?_
    unfold letter_Letter_putList_l0b
    simp -implicitDefEqProofs -dsimp only [go_sem, seval, hk', Int.lt_irrefl]
    rw [hk', List.flatMap_nil, List.append_nil] at h2
    exact h2
  | cons y us ih =>
    intro k hk hle b hb h2
    obtain ⟨hlt, hy, hk'⟩ := drop_lt hk
    have cl : ∀ c : Vt, (vtC c).length = 4 := fun _ => rfl
    have ea := flat_at cl hy
    have e5 : k * 4 + 4 ≤ (xs.flatMap vtC).length := by rw [flat_length cl]; omega
    have hs : IntKind.i64.wrap ((k : Int) + 1) = ((k + 1 : Nat) : Int) := wrap_succ (by omega)
    have hok := hx y (List.mem_of_getElem? hy)
    rw [List.flatMap_cons, ← List.append_assoc] at h2
    refine AW_loopD (l := letter_Letter_putList_l0) rfl hR ?_
    unfold letter_Letter_putList_l0b
    obtain ⟨q1, q2, q3, q4⟩ := hok
    obtain ⟨m, hm⟩ := Int.eq_ofNat_of_zero_le q1.1
    obtain ⟨r, hr⟩ := Int.eq_ofNat_of_zero_le q2.1
    have l1 := enc_len10 (m := m) (by omega)
    have l2 := enc_len10 (m := r) (by omega)
    have l3 := enc_len10 (m := y.nd.toNat) (by have := q3; simp only [baOk, Bool.and_eq_true, decide_eq_true_eq] at this; omega)
    have l4 := enc_len10 (m := y.v.length) (by omega)
    have he : encV y = enc m ++ (enc r ++ enc y.nd.toNat) ++ encT y.v := by simp only [encV, hm, hr, Int.toNat_natCast]
    simp -implicitDefEqProofs -dsimp only [go_sem, seval, Int.ofNat_lt, hlt, Int.natCast_nonneg, Int.toNat_natCast, ea, e5, vtC, List.cons_append, List.nil_append, hm, wrap_u64n (n := m) (by omega), ↓g_call _ _ c_octet_Put]
    refine CallK.pure (pc_oPut b none m (by omega) (by omega)) (aft_nil ?_)
    simp -implicitDefEqProofs -dsimp only [go_sem, seval, hr, ↓g_call _ _ c_ballot_Put]
    refine CallK.pure (pc_bPut (b ++ enc m) none r y.nd (by simp; omega) (by omega) q3) (aft_nil ?_)
    simp -implicitDefEqProofs -dsimp only [go_sem, seval, ↓g_call _ _ c_octet_Text]
    refine CallK.pure (pc_oText (b ++ enc m ++ (enc r ++ enc y.nd.toNat)) none y.v (by simp; omega) (by omega)) (aft_nil ?_)
    simp -implicitDefEqProofs -dsimp only [go_sem, seval, hs]
    rw [he] at h2
    refine ih (k + 1) hk' hlt _ ?_ (by simpa only [List.append_assoc] using h2)
    simp only [List.length_append, encT]; omega


theorem lp_pl1 {R : RPost} (hR : ExtR R) {T : Tab} {xs : List Cf} (hl : xs.length ≤ 400) (hx : ∀ x ∈ xs, CfG x) : ∀ (us : List Cf) (k : Nat), xs.drop k = us → k ≤ xs.length → ∀ (b : Bs), b.length ≤ 100000 + 200 * k →
    R (.exit 3) [(1, bts (b ++ us.flatMap encC) none), (52, .fz xs.length (xs.flatMap cfC) none), (53, .i .i64 xs.length), (54, .i .i64 xs.length), (55, .b false)] [] T →
    AW prog letter_Letter_putList_l1 R [(1, bts b none), (52, .fz xs.length (xs.flatMap cfC) none), (53, .i .i64 xs.length), (54, .i .i64 k)] [] T := by
  intro us
  induction us with
  | nil =>
    intro k hk hle b hb h2
    have hk' := drop_nil hk hle
    refine AW_loop hR ?_
    unfold letter_Letter_putList_l1b
    simp -implicitDefEqProofs -dsimp only [go_sem, seval, hk', Int.lt_irrefl]
    rw [hk', List.flatMap_nil, List.append_nil] at h2
    exact h2
  | cons y us ih =>
    intro k hk hle b hb h2
    obtain ⟨hlt, hy, hk'⟩ := drop_lt hk
    have cl : ∀ c : Cf, (cfC c).length = 5 := fun _ => rfl
    have ea := flat_at cl hy
    have e5 : k * 5 + 5 ≤ (xs.flatMap cfC).length := by rw [flat_length cl]; omega
    have hs : IntKind.i64.wrap ((k : Int) + 1) = ((k + 1 : Nat) : Int) := wrap_succ (by omega)
    have hok := hx y (List.mem_of_getElem? hy)
    rw [List.flatMap_cons, ← List.append_assoc] at h2
    refine AW_loopD (l := letter_Letter_putList_l1) rfl hR ?_
    unfold letter_Letter_putList_l1b
    obtain ⟨q1, q2, q3⟩ := hok
    have lc := encRf_len (Cf.ok_of q1 q2)
    have pc := pc_cPut b none y none none (by omega) q3 q2
    rw [if_pos q1] at pc
    simp only [Cf.cells] at pc
    simp -implicitDefEqProofs -dsimp only [go_sem, seval, Int.ofNat_lt, hlt, Int.natCast_nonneg, Int.toNat_natCast, ea, e5, cfC, Cf.cells, List.cons_append, List.nil_append, ↓g_call _ _ c_conf_Put]
    refine CallK.pure pc (aft_nil ?_)
    simp -implicitDefEqProofs -dsimp only [go_sem, seval, hs]
    refine ih (k + 1) hk' hlt _ ?_ h2
    simp only [List.length_append]; omega


theorem lp_pl2 {R : RPost} (hR : ExtR R) {T : Tab} {xs : List En} (hl : xs.length ≤ 400) (hx : ∀ x ∈ xs, EnG x) : ∀ (us : List En) (k : Nat), xs.drop k = us → k ≤ xs.length → ∀ (b : Bs), b.length ≤ 100000 + 2100 * k →
    R (.exit 5) [(1, bts (b ++ us.flatMap encE) none), (71, .fz xs.length (xs.flatMap enC) none), (72, .i .i64 xs.length), (73, .i .i64 xs.length), (74, .b false)] [] T →
    AW prog letter_Letter_putList_l2 R [(1, bts b none), (71, .fz xs.length (xs.flatMap enC) none), (72, .i .i64 xs.length), (73, .i .i64 k)] [] T := by
  intro us
  induction us with
  | nil =>
    intro k hk hle b hb h2
    have hk' := drop_nil hk hle
    refine AW_loop hR ?_
    unfold letter_Letter_putList_l2b
    simp -implicitDefEqProofs -dsimp only [go_sem, seval, hk', Int.lt_irrefl]
    rw [hk', List.flatMap_nil, List.append_nil] at h2
    exact h2
  | cons y us ih =>
    intro k hk hle b hb h2
    obtain ⟨hlt, hy, hk'⟩ := drop_lt hk
    have cl : ∀ c : En, (enC c).length = 10 := fun _ => rfl
    have ea := flat_at cl hy
    have e5 : k * 10 + 10 ≤ (xs.flatMap enC).length := by rw [flat_length cl]; omega
    have hs : IntKind.i64.wrap ((k : Int) + 1) = ((k + 1 : Nat) : Int) := wrap_succ (by omega)
    have hok := hx y (List.mem_of_getElem? hy)
    rw [List.flatMap_cons, ← List.append_assoc] at h2
    refine AW_loopD (l := letter_Letter_putList_l2) rfl hR ?_
    unfold letter_Letter_putList_l2b
    obtain ⟨q1, q2, q3⟩ := hok
    have lc := encEn_len (En.good_of q1 q3)
    have l4 := enc_len10 (m := (encEn y).length) (by omega)
    have pc := pc_ePut y none none q2 q3
    rw [if_pos q1] at pc
    simp only [En.cells] at pc
    simp -implicitDefEqProofs -dsimp only [go_sem, seval, Int.ofNat_lt, hlt, Int.natCast_nonneg, Int.toNat_natCast, ea, e5, enC, En.cells, List.cons_append, List.nil_append, ↓g_call _ _ c_entry_Put]
    refine CallK.pure pc (aft_nil ?_)
    have hbl : (byteCells (encEn y)).length = (encEn y).length := byteCells_length _
    generalize hE : encEn y = E at *
    simp -implicitDefEqProofs -dsimp only [go_sem, seval]
    unfold bts
    simp -implicitDefEqProofs -dsimp only [go_sem, seval, hbl, bytesAv_cells, ↓g_call _ _ c_octet_Text]
    refine CallK.pure (pc_oText b none E (by omega) (by omega)) (aft_nil ?_)
    simp -implicitDefEqProofs -dsimp only [go_sem, seval, hs]
    rw [show encE y = encT E by rw [encE, hE]] at h2
    refine ih (k + 1) hk' hlt _ ?_ h2
    simp only [List.length_append, encT]; omega

def enS (l : Lt Cf) (s : Int) : Bs :=
  if s = 115 then enc l.sh.toNat else
  if s = 101 then enc l.ep.toNat else
  if s = 110 then enc l.n.toNat else
  if s = 109 then enc l.m.toNat else
  if s = 111 then enc l.nd.toNat else
  if s = 102 then enc (if l.fl = true then 1 else 0) else
  if s = 98 then enc l.br.toNat ++ enc l.bn.toNat else
  if s = 118 then enc l.vs.length ++ l.vs.flatMap encV else
  if s = 99 then enc l.cs.length ++ l.cs.flatMap encC else
  if s = 108 then enc l.es.length ++ l.es.flatMap encE else
  if s = 120 then encTx l.t else
  if s = 105 then enc l.cl.toNat ++ enc l.sq.toNat else
  if s = 116 then encT l.v else
  if s = 113 then enc l.q.toNat else
  if s = 114 then enc l.co.toNat else []
structure Lt.Rng (l : Lt Cf) : Prop where
  ep : 0 ≤ l.ep ∧ l.ep < 18446744073709551616
  br : 0 ≤ l.br ∧ l.br < 18446744073709551616
  q : 0 ≤ l.q ∧ l.q < 18446744073709551616
  sq : l.sq < 18446744073709551616
  tsq : l.t.sq < 18446744073709551616
  tr : ∀ r ∈ l.t.rs, 0 ≤ r.n ∧ r.n < 18446744073709551616
  vs : ∀ v ∈ l.vs, 0 ≤ v.rd ∧ v.rd < 18446744073709551616
  cs : ∀ c ∈ l.cs, (0 ≤ c.ep ∧ c.ep < 18446744073709551616) ∧ Len c.ch.length
  es : ∀ e ∈ l.es, e.t.Fine ∧ e.Rng
theorem vts_good {l : Lt Cf} (h : vtsOk l.vs = true) (hr : l.Rng) : l.vs.length ≤ 400 ∧ ∀ v ∈ l.vs, VtG v := by
  simp only [vtsOk, Bool.and_eq_true, decide_eq_true_eq, Bool.not_eq_true'] at h
  refine ⟨by omega, fun v hv => ?_⟩
  have h1 : vtNo v = false := by
    have := List.any_eq_false.1 h.2 v hv
    simpa using this
  simp only [vtNo, Bool.not_eq_false', vtOk, shOk, Bool.and_eq_true, decide_eq_true_eq] at h1
  exact ⟨h1.1, hr.vs v hv, h1.2.1, by omega⟩
theorem cfs_good {l : Lt Cf} (h : cfsOk l.cs = true) (hr : l.Rng) : l.cs.length ≤ 4 ∧ ∀ v ∈ l.cs, CfG v := by
  simp only [cfsOk, Bool.and_eq_true, decide_eq_true_eq, Bool.not_eq_true'] at h
  refine ⟨by omega, fun v hv => ?_⟩
  have h1 : cfNo v = false := by
    have := List.any_eq_false.1 h.2 v hv
    simpa using this
  simp only [cfNo, Bool.not_eq_false'] at h1
  exact ⟨h1, (hr.cs v hv).1, (hr.cs v hv).2⟩
theorem ens_good {l : Lt Cf} (h : ensOk l.es = true) (hr : l.Rng) : l.es.length ≤ 8 ∧ ∀ v ∈ l.es, EnG v := by
  simp only [ensOk, Bool.and_eq_true, decide_eq_true_eq, Bool.not_eq_true'] at h
  refine ⟨by omega, fun v hv => ?_⟩
  have h1 : enNo v = false := by
    have := List.any_eq_false.1 h.2 v hv
    simpa using this
  simp only [enNo, Bool.not_eq_false'] at h1
  exact ⟨h1, (hr.es v hv).1, (hr.es v hv).2⟩
theorem pc_putList (l : Lt Cf) (b : Bs) (c : Option Nat) (s : Int) (hb : b.length ≤ 90000) (hr : l.Rng) (h : (s = 118 ∧ vtsOk l.vs = true) ∨ (s = 99 ∧ cfsOk l.cs = true) ∨ (s = 108 ∧ ensOk l.es = true)) :
    PCalls prog f_letter_Letter_putList [.agg l.cc, bts b c, .i .u8 s] (bts (b ++ enS l s) none) := by
  refine pcalls_of mixed t_letter_Letter_putList (by simp) fun T => ?_
  unfold s_letter_Letter_putList
  rcases h with ⟨rfl, h⟩ | ⟨rfl, h⟩ | ⟨rfl, h⟩
  · obtain ⟨h1, h2⟩ := vts_good h hr
    have le := enc_len10 (m := l.vs.length) (by omega)
    simp -implicitDefEqProofs -dsimp only [go_sem, seval, cc_len, cc_vs, decide_true, decide_false, wrap_u64n (n := l.vs.length) (by omega), ↓g_call _ _ c_octet_Put]
    refine CallK.pure (pc_oPut b c l.vs.length (by omega) (by omega)) (aft_nil ?_)
    simp -implicitDefEqProofs -dsimp only [go_sem, seval, cc_len, cc_vs]
    refine lp_pl0 (T := T) (by repeat' (first | exact finX_ext _ _ | assumption | apply blkR_ext | apply thenR_ext | apply AW_ext)) h1 h2 l.vs 0 rfl (Nat.zero_le _) (b ++ enc l.vs.length) (by simp; omega) ?_
    simp -implicitDefEqProofs -dsimp only [go_sem, seval]
    exact finL_pure (by rw [List.append_assoc]; rfl)
  · obtain ⟨h1, h2⟩ := cfs_good h hr
    have le := enc_len10 (m := l.cs.length) (by omega)
    simp -implicitDefEqProofs -dsimp only [go_sem, seval, cc_len, cc_cs, decide_true, decide_false, wrap_u64n (n := l.cs.length) (by omega), ↓g_call _ _ c_octet_Put]
    refine CallK.pure (pc_oPut b c l.cs.length (by omega) (by omega)) (aft_nil ?_)
    simp -implicitDefEqProofs -dsimp only [go_sem, seval, cc_len, cc_cs]
    refine lp_pl1 (T := T) (by repeat' (first | exact finX_ext _ _ | assumption | apply blkR_ext | apply thenR_ext | apply AW_ext)) (by omega) h2 l.cs 0 rfl (Nat.zero_le _) (b ++ enc l.cs.length) (by simp; omega) ?_
    simp -implicitDefEqProofs -dsimp only [go_sem, seval]
    exact finL_pure (by rw [List.append_assoc]; rfl)
  · obtain ⟨h1, h2⟩ := ens_good h hr
    have le := enc_len10 (m := l.es.length) (by omega)
    simp -implicitDefEqProofs -dsimp only [go_sem, seval, cc_len, cc_es, decide_true, decide_false, wrap_u64n (n := l.es.length) (by omega), ↓g_call _ _ c_octet_Put]
    refine CallK.pure (pc_oPut b c l.es.length (by omega) (by omega)) (aft_nil ?_)
    simp -implicitDefEqProofs -dsimp only [go_sem, seval, cc_len, cc_es]
    refine lp_pl2 (T := T) (by repeat' (first | exact finX_ext _ _ | assumption | apply blkR_ext | apply thenR_ext | apply AW_ext)) (by omega) h2 l.es 0 rfl (Nat.zero_le _) (b ++ enc l.es.length) (by simp; omega) ?_
    simp -implicitDefEqProofs -dsimp only [go_sem, seval]
    exact finL_pure (by rw [List.append_assoc]; rfl)
end Go.Aw
