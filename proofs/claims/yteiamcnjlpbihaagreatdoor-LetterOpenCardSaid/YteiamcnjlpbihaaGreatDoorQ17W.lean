import Derived.Test.YteiamcnjlpbihaaGreatDoorQ17T
namespace Go.Aw
open Go
open Go.Proofs.Tryz (prog)
set_option linter.all false
set_option maxHeartbeats 8000000
set_option maxRecDepth 8000
end Go.Aw
namespace Go.Aw
open Go
open Go.Proofs.Tryz (prog)
set_option linter.all false
set_option maxHeartbeats 8000000
set_option maxRecDepth 8000
theorem zi5 {b : Bs} (h : opE b = none) : b = frm (qkc b) /\ 1 <= (qkc b).length /\ (qkc b).length <= 65535 := by
 unfold opE at h
 rcases hn : nxE b with _ | pr
 ·rw [hn] at h
  simp only at h
  split at h
  ·cases h
  rename_i h7
  unfold nxE at hn
  split at hn
  ·cases hn
  split at hn
  ·cases hn
  rename_i h197
  split at hn
  ·cases hn
  rename_i h3
  split at hn
  ·cases hn
  rename_i h0
  split at hn
  ·cases hn
  rename_i h8
  split at hn
  ·cases hn
  rename_i hw
  have e1 : b.take (qys b + 7) = b := List.take_of_length_le (by omega)
  rw [e1] at hw
  have hw' : qkp (b.drop 1) = true := by simpa using hw
  rw [qkp, Bool.and_eq_true] at hw'
  have hs := of_decide_eq_true hw'.2
  rcases b with _ | ⟨x0, _ | ⟨x1, _ | ⟨x2, r⟩⟩⟩
  ·simp at h3
  ·simp at h3
  ·simp at h3
  have e0 : x0 = 197 := by
   have : bAt (x0 :: x1 :: x2 :: r) 0 = 197 := by simpa using h197
   exact this
  have es : qys (x0 :: x1 :: x2 :: r) = x1.toNat * 256 + x2.toNat := rfl
  have b1 := x1.toNat_lt
  have b2 := x2.toNat_lt
  have er : qkc (x0 :: x1 :: x2 :: r) = r.take (x1.toNat * 256 + x2.toNat) := by
   unfold qkc
   rw [es]
   rfl
  rw [es] at h0 h7 h8
  simp only [List.length_cons] at h7 h8
  have hl : r.length = x1.toNat * 256 + x2.toNat + 4 := by omega
  have hlr : (r.take (x1.toNat * 256 + x2.toNat)).length = x1.toNat * 256 + x2.toNat := by rw [List.length_take]; omega
  rw [er, hlr]
  refine ⟨?_, by omega, by omega⟩
  unfold frm
  rw [hlr]
  have i1 : hiB (x1.toNat * 256 + x2.toNat) = x1 := by
   unfold hiB
   rw [show (x1.toNat * 256 + x2.toNat) / 256 % 256 = x1.toNat by omega]; simp
  have i2 : loB (x1.toNat * 256 + x2.toNat) = x2 := by
   unfold loB
   rw [show (x1.toNat * 256 + x2.toNat) % 256 = x2.toNat by omega]; simp
  rw [i1, i2, e0]
  rw [List.drop_one, List.tail_cons] at hs
  have e5 : (x1 :: x2 :: r).take ((x1 :: x2 :: r).length - 4) = x1 :: x2 :: r.take (x1.toNat * 256 + x2.toNat) := by
   rw [show (x1 :: x2 :: r).length - 4 = x1.toNat * 256 + x2.toNat + 2 by simp only [List.length_cons]; omega]
   rfl
  rw [e5] at hs
  rw [hs]
 ·rw [hn] at h; cases h
theorem zi6 {b : Bs} {e : Er} (h : loE b = some e) : loA b = zL /\ ¬ e.code = 0 := by
 unfold loE at h
 unfold loA
 rcases hb : opE b with _ | x
 ·rw [hb] at h
  simp only at h ⊢
  split at h
  ·cases h
  ·rename_i hn
   rw [if_neg hn]
   cases h
   exact ⟨rfl, by decide⟩
 ·rw [hb] at h
  cases h
  exact ⟨rfl, show ¬ x.code = 0 from z7m hb⟩
theorem zi7 {b : Bs} (h : loE b = none) : lrF (loA b) = true /\ (loA b).Rd /\ frm (qhe (loA b)) = b := by
 unfold loE at h
 unfold loA
 rcases hb : opE b with _ | x
 ·rw [hb] at h
  simp only at h ⊢
  split at h
  ·rename_i hk
   rw [if_pos hk]
   have hi := zi5 hb
   have h2 := zdr hk
   refine ⟨?_, zb4 _, ?_⟩
   ·simp only [lOk, Bool.and_eq_true] at hk; exact hk.2
   ·rw [<- h2]; exact hi.1.symm
  ·cases h
 ·rw [hb] at h; cases h
end Go.Aw
namespace Go.Aw
open Go
open Go.Proofs.Tryz (prog)
set_option linter.all false
set_option maxHeartbeats 8000000
set_option maxRecDepth 8000
theorem qwg (l : Lt Rf) (h : l.Arg) (a : Nat) (ha : a < 65536) (c : UInt8) (raw : Bs) (cap : Option Nat) (hraw : Len raw.length) : PCalls prog q8l [.agg l.rc, .i .u16 a, .i .u8 c.toNat, bts raw cap] (.b true) := by
 refine K7 U3 qe9 (by simp) fun T => ?_
 have hf := h.fine
 have hr := h.rng
 have hs := hf.small
 have c1 := z91 l h.wide
 have c2 := qyg l.ours hf
 have c4 := qyf l.ours.plain h.ref
 rw [qvv _ fun c hc => (hf.cl c hc).2] at c4
 have cA := z3w
 unfold q8p
 refine q6b True [(1, .i .u16 a), (2, .i .u8 c.toNat), (3, bts raw cap), (4, .lp 4 0)] [(4, l.rc)] T (fun K hK => by simp -implicitDefEqProofs -dsimp only [go_sem, seval, qe3, qai, qaj, qak, qal, qam]; exact hK trivial) fun _ => ?_
 refine q6b True [(1, .i .u16 a), (2, .i .u8 c.toNat), (3, bts raw cap), (9, .lp 9 0)] [(9, l.ours.plain.cells rfL)] T (fun K hK => ?_) fun _ => ?_
 ·simp -implicitDefEqProofs -dsimp only [go_sem, seval, qe3, qai, qaj, qak, qal, qam, ↓J0 _ _ ql0]
  refine cpn c1 ?_
  simp -implicitDefEqProofs -dsimp only [go_sem, seval, qe3, qai, qaj, qak, qal, qam, ↓J0 _ _ q8a]
  refine cpn c2 ?_
  generalize l.ours.plain = w at *
  simp -implicitDefEqProofs -dsimp only [go_sem, seval, qe3, qai, qaj, qak, qal, qam]
  exact hK trivial
 refine q6b True [(1, .i .u16 a), (2, .i .u8 c.toNat), (9, .lp 9 0), (10, bts raw cap)] [(9, l.ours.plain.cells rfL)] T (fun K hK => by simp -implicitDefEqProofs -dsimp only [go_sem, seval, qe3, qai, qaj, qak, qal, qam]; exact hK trivial) fun _ => ?_
 refine q7u (by repeat' (first | exact N2 _ _ | assumption | apply N1 | apply K9 | apply Q3)) (fun E L T1 => ∃ (b : Bs) (cap : Option Nat), b.length <= 300 /\ (E = [(1, .i .u16 a), (2, .i .u8 c.toNat), (9, .lp 9 0), (10, bts b cap)] \/ E = [(1, .i .u16 a), (2, .i .u8 c.toNat), (9, .lp 9 0), (10, bts b cap), (20, .b false)]) /\ L = [(9, l.ours.plain.cells rfL)] /\ T1 = T) (fun K hE hK => ?_) fun E L T1 hq => ?_
 ·have d300 : decide ((300 : Int) < (raw.length : Int)) = decide (300 < raw.length) := by congr 1; apply propext; omega
  rcases hd : decide (300 < raw.length) with _ | _
  ·rw [hd] at d300
   simp -implicitDefEqProofs -dsimp only [go_sem, seval, d300, qe3, qai, qaj, qak, qal, qam, qvt]
   exact hK _ _ _ ⟨raw, cap, by have := of_decide_eq_false hd; omega, .inr rfl, rfl, rfl⟩
  ·rw [hd] at d300
   have h300 := of_decide_eq_true hd
   have hle : (300 <= raw.length) = True := eq_true (by omega)
   have hlt : (raw.take 300).length = 300 := by rw [List.length_take]; omega
   have htk : (K8 raw).take 300 = K8 (raw.take 300) := by simp [K8, List.map_take]
   have hbt : ∀ q, AV.fz 300 (K8 (raw.take 300)) q = bts (raw.take 300) q := fun q => zhe hlt
   unfold bts
   simp -implicitDefEqProofs -dsimp only [go_sem, seval, d300, hle, if_true, htk]
   exact hK _ _ _ ⟨raw.take 300, Option.map (fun x => x) cap, by omega, .inl (by rw [<- hbt]), rfl, rfl⟩
 obtain ⟨b0, cap0, hb0, hq, rfl, rfl⟩ := hq
 refine q7u (by repeat' (first | exact N2 _ _ | assumption | apply N1 | apply K9 | apply Q3)) (fun E L T2 => ∃ (b : Bs) (cap : Option Nat), b.length <= 70000 /\ ((E = [(10, bts b cap)] /\ L = []) \/ (E = [(1, .i .u16 a), (2, .i .u8 c.toNat), (9, .lp 9 0), (10, bts b cap), (24, .b false)] /\ L = [(9, l.ours.plain.cells rfL)])) /\ T2 = T1) (fun K hE hK => ?_) fun E L T2 hq => ?_
 ·rcases hk : lrF l.ours with _ | _
  ·rw [hk] at c4
   generalize l.ours.plain = w at *
   rcases hq with rfl | rfl
   all_goals
    simp -implicitDefEqProofs -dsimp only [go_sem, seval, qe3, qai, qaj, qak, qal, qam, ↓J0 _ _ q8b]
    refine cpn c4 ?_
    simp -implicitDefEqProofs -dsimp only [go_sem, seval, qe3, qai, qaj, qak, qal, qam]
    exact hK _ _ _ ⟨b0, cap0, by omega, .inr ⟨rfl, rfl⟩, rfl⟩
  ·rw [hk] at c4
   have c5 := qz0 l.ours.plain (z7q hk hr (fun c hc => (hf.cl c hc).2) h.ref.sq)
   rw [zi4 (qj7 hk).1] at c5
   have hl := qo5 hr hk
   generalize qhe l.ours = p at *
   generalize l.ours.plain = w at *
   have wa : IntKind.i64.wrap (a : Int) = a := q2l (by unfold I64; omega)
   obtain ⟨n, hn⟩ : ∃ n : Nat, n = p.length := ⟨_, rfl⟩
   have wt : ((a : Int)).tmod (n : Int) = ((a % n : Nat) : Int) := by rw [Int.tmod_eq_emod_of_nonneg (by omega)]; norm_cast
   have hm := Nat.mod_lt a (show 0 < n by omega)
   have zn : ((n : Int) = 0) = False := eq_false (by omega)
   have cP := fun cap => z7p (p.set (a % n) c) cap (by rw [List.length_set]; omega) (by rw [List.length_set]; omega)
   have hsl : (p.set (a % n) c).length = n := by rw [List.length_set]; exact hn.symm
   rcases hq with rfl | rfl
   all_goals
    simp -implicitDefEqProofs -dsimp only [go_sem, seval, qe3, qai, qaj, qak, qal, qam, ↓J0 _ _ q8b]
    refine cpn c4 ?_
    simp -implicitDefEqProofs -dsimp only [go_sem, seval, qe3, qai, qaj, qak, qal, qam, ↓J0 _ _ qbt]
    refine cpn c5 ?_
    simp -implicitDefEqProofs -dsimp only [go_sem, seval, qe3, qai, qaj, qak, qal, qam]
    unfold bts
    refine (Own.nil T1 1).app (m := p.length) (q63 _ _) rfl (by omega) (by omega) fun v T3 ho => J1 ?_
    rw [Nat.zero_add, List.nil_append, <- hn] at ho
    obtain ⟨id, rfl, hid, rfl⟩ := ho.ne (by omega)
    have ht : (T1.put id (.row 1 (K8 p))) id = .row 1 (K8 p) := Tab.put_same ..
    have hlen : a % n + 1 <= (K8 p).length := by rw [V4]; omega
    simp -implicitDefEqProofs -dsimp only [go_sem, seval, wa, wt, zn, Int.ofNat_lt, hm, Int.natCast_nonneg, Int.toNat_natCast]
    refine q35 ht rfl rfl (by simpa using hlen) (J1 ?_)
    rw [Tab.put_put]
    have ho2 : Own T1 1 (.sl id 0 n none) n (K8 (p.set (a % n) c)) (T1.put id (.row 1 (q22 (K8 p) (a % n) [.i .u8 (c.toNat : Int)]))) := by
     have hkk : a % n < p.length := by omega
     have e5 : K8 (p.set (a % n) c) = q22 (K8 p) (a % n) [.i .u8 (c.toNat : Int)] := by
      simp only [K8, List.map_set, q22, List.length_cons, List.length_nil, Nat.zero_add]
      rw [List.set_eq_take_append_cons_drop, if_pos (by simpa using hkk)]; simp
     rw [e5]
     refine ⟨?_, .inr ⟨id, rfl, hid, rfl⟩⟩
     rw [qke (by simpa using hlen), V4, <- hn, Nat.mul_one]
    simp only [bts, hsl] at cP
    simp -implicitDefEqProofs -dsimp only [go_sem, seval, ↓J0 _ _ qdo]
    refine CallK.give0 ho2 rfl (fun q => cP q T1) (fun v T' h => ?_)
    obtain ⟨rfl, rfl⟩ := h
    refine J1 ?_
    simp -implicitDefEqProofs -dsimp only [go_sem, seval]
    exact hK _ _ _ ⟨frm (p.set (a % n) c), none, by rw [qse, hsl]; omega, .inl ⟨rfl, rfl⟩, rfl⟩
 clear c1 c2 c4
 obtain ⟨b, cap2, hb, hq2, rfl⟩ := hq
 have cO := zae b cap2 (by omega)
 have hbl : (K8 b).length = b.length := V4 _
 rcases he : loE b with _ | e
 ·rw [he, show qe5 none = 0 from rfl] at cO
  obtain ⟨i1, i2, i3⟩ := zi7 he
  generalize loA b = A at *
  have d2 := qyg A i2.fine
  have d3 := qyf A.plain i2.ref
  rw [qvv _ (fun c hc => (i2.cc c hc).2), i1] at d3
  have d4 := zad A i1 i2.rng (fun c hc => (i2.cc c hc).2) i2.sq
  rw [i3] at d4
  have hbb : ∀ b : Bs, decide (b = b) = true := fun b => decide_eq_true rfl
  generalize A.plain = w at *
  unfold bts at *
  rcases hq2 with ⟨rfl, rfl⟩ | ⟨rfl, rfl⟩
  all_goals
   simp -implicitDefEqProofs -dsimp only [go_sem, seval, ↓J0 _ _ qmo]
   refine cpn cO ?_
   simp -implicitDefEqProofs -dsimp only [go_sem, seval, decide_true, Bool.not_true, ↓J0 _ _ q8a]
   refine cpn d2 ?_
   simp -implicitDefEqProofs -dsimp only [go_sem, seval, ↓J0 _ _ q8b]
   refine cpn d3 ?_
   simp -implicitDefEqProofs -dsimp only [go_sem, seval, hbl, q39, decide_true, ↓Q1, G6, true_and, ↓J0 _ _ q8a]
   refine CallK.pure d2 (zal (fun _ => ?_) ?_)
   ·simp -implicitDefEqProofs -dsimp only [go_sem, seval, G6, qh2, gdd, hbl, q39]
   simp -implicitDefEqProofs -dsimp only [go_sem, seval, hbl, q39, decide_true, ↓Q1, G6, true_and, ↓J0 _ _ qmr]
   refine CallK.pure d4 (zal (fun _ => ?_) ?_)
   ·simp -implicitDefEqProofs -dsimp only [go_sem, seval, G6, qh2, gdd, hbl, q39]
   simp -implicitDefEqProofs -dsimp only [go_sem, seval, hbl, q39, hbb, decide_true, ↓Q1, G6, true_and, ↓J0 _ _ qbr]
   refine cpn cA ?_
   simp -implicitDefEqProofs -dsimp only [go_sem, seval]
   exact J9 rfl
 ·obtain ⟨e1, e2⟩ := zi6 he
  rw [he, e1] at cO
  have hcode : decide (qe5 (some e) = 0) = false := decide_eq_false e2
  generalize qe5 (some e) = C at *
  have zs : zL.Small := qs7 zL
  have d5 := qnz zL zL zs zs
  rw [z92] at d5
  have d6 := PCalls.wk (xs := [.agg zL.cc, .agg [.i .i64 0, .i .i64 0, .i .i64 0, .i .i64 0, .i .i64 0, .i .i64 0, .i .u64 0, .i .i64 0, .i .i64 0, .i .i64 0, .b false, .i .u64 0, .i .i64 0, .fz 0 [] (some 0), .fz 0 [] (some 0), .fz 0 [] (some 0), .i .i64 0, .i .u64 0, .b false, .fz 0 [] (some 0), .fz 0 [] (some 0), .i .i64 0, .i .u64 0, .s [], .i .u64 0, .i .i64 0]]) (Wks.cons (.refl _) (Wks.one (Wk.agg (Wk.lt0 zL)))) d5
  generalize zL = Z0 at *
  unfold bts at *
  rcases hq2 with ⟨rfl, rfl⟩ | ⟨rfl, rfl⟩
  all_goals
   simp -implicitDefEqProofs -dsimp only [go_sem, seval, ↓J0 _ _ qmo]
   refine cpn cO ?_
   simp -implicitDefEqProofs -dsimp only [go_sem, seval, hcode, Bool.not_false, ↓J0 _ _ q29]
   refine cpn d6 ?_
   simp -implicitDefEqProofs -dsimp only [go_sem, seval, decide_true, ↓Q1, G6, true_and, ↓J0 _ _ qbr]
   refine cpn cA ?_
   simp -implicitDefEqProofs -dsimp only [go_sem, seval]
   exact J9 rfl
end Go.Aw
