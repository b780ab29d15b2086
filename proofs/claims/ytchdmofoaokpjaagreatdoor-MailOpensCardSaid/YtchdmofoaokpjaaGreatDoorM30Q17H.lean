import Derived.Test.YtchdmofoaokpjaaGreatDoorM30Q17S
import Derived.Test.YtchdmofoaokpjaaGreatDoorM30Q17D
namespace Go.Aw
open Go
open Go.Proofs.Tryz (prog)
set_option linter.all false
set_option maxHeartbeats 8000000
set_option maxRecDepth 8000
structure Lt.Rd (l : Lt Cf) : Prop where
 rng : l.Rng
 tf : l.t.Fine
 vl : l.vs.length <= 400
 cl : l.cs.length <= 4
 el : l.es.length <= 8
 vv : ∀ v ∈ l.vs, v.v.length <= 64
 cc : ∀ c ∈ l.cs, c.ch.length <= 8 /\ c.fu.length = c.ch.length
 v : l.v.length <= 64
 sq : 0 <= l.sq
 tsq : 0 <= l.t.sq
 es : ∀ e ∈ l.es, 0 <= e.t.sq /\ 0 <= e.sq
theorem z3b (s : RS) : 0 <= ((K3 18446744073709551615 s).1 : Int) /\ ((K3 18446744073709551615 s).1 : Int) < 18446744073709551616 := by
 have := q24 18446744073709551615 s
 omega
theorem quv (s : RS) : 0 <= (qjg s).1.1 /\ (qjg s).1.1 < 18446744073709551616 := by
 unfold qjg
 simp only
 split
 ·exact ⟨by decide, by decide⟩
 ·exact z3b s
def TxR (t : Tx) : Prop := (0 <= t.sq /\ t.sq < 18446744073709551616) /\ ∀ r ∈ t.rs, 0 <= r.n /\ r.n < 18446744073709551616
theorem zef : TxR q5s := ⟨⟨by decide, by decide⟩, fun r hr => (by cases hr)⟩
theorem zeg (s : RS) : TxR (rTx s).1 := by
 refine ⟨z3b _, ?_⟩
 exact q8i (p := fun r : Rd => 0 <= r.n /\ r.n < 18446744073709551616) (fun s => z3b _) _ _
theorem quw (s : RS) : TxR (q27 s).1 := by
 unfold q27
 split
 ·exact zeg s
 ·exact zef
theorem qux : q5s.Fine := ⟨by decide, by decide, fun r hr => (by cases hr), fun r hr => (by cases hr), fun r hr => (by cases hr)⟩
theorem z0b (s : RS) : (q27 s).1.Fine := by
 unfold q27
 split
 ·exact qox s
 ·exact qux
theorem zau (s : RS) : ((0 <= (rCo s).1.ep /\ (rCo s).1.ep < 18446744073709551616) /\ Len (rCo s).1.ch.length) /\ (rCo s).1.ch.length <= 8 /\ (rCo s).1.fu.length = (rCo s).1.ch.length := by
 unfold rCo qlj
 simp only
 split
 ·have hl := qdi (f := qdm) (K3 8 (K3 3 (K3 18446744073709551615 s).2).2).1 (K3 8 (K3 3 (K3 18446744073709551615 s).2).2).2
  have hm := q24 8 (K3 3 (K3 18446744073709551615 s).2).2
  have e1 : (rCf s).1.ch.length <= 8 := by
   show ((Y1 qdm _ _).1.map (·.1)).length <= 8
   rw [List.length_map]; omega
  have e2 : (rCf s).1.fu.length = (rCf s).1.ch.length := by
   show ((Y1 qdm _ _).1.map (·.2)).length = ((Y1 qdm _ _).1.map (·.1)).length
   rw [List.length_map, List.length_map]
  exact ⟨⟨z3b s, by unfold Len; omega⟩, e1, e2⟩
 ·exact ⟨⟨⟨by decide, by decide⟩, (show (0 : Nat) < 9223372036854775808 by decide)⟩, by decide, rfl⟩
theorem zav (s : RS) : ((q6l s).t.Fine /\ (q6l s).Rng) /\ 0 <= (q6l s).t.sq /\ 0 <= (q6l s).sq := by
 unfold q6l
 split
 ·refine ⟨⟨qur s, qzi s⟩, ?_, ?_⟩
  ·unfold rEn
   simp only
   split
   ·exact (quw _).1.1
   ·split <;> exact (by decide : (0 : Int) <= 0)
  ·unfold rEn
   simp only
   split
   ·exact (by decide : (0 : Int) <= 0)
   ·split
    ·exact (z3b _).1
    ·exact (by decide : (0 : Int) <= 0)
 ·exact ⟨⟨qux, ⟨⟨by decide, by decide⟩, by decide, fun r hr => (by cases hr), by decide⟩⟩, by decide, by decide⟩
theorem zaw (s : RS) : (0 <= (rVt s).1.rd /\ (rVt s).1.rd < 18446744073709551616) /\ (rVt s).1.v.length <= 64 := ⟨quv _, qfz 64 _⟩
theorem qty {α : Type} {f : RS -> α × RS} {p : α -> Prop} (h : ∀ s, p (f s).1) (k : Nat) (s : RS) : (rLs k f s).1.length <= k /\ ∀ x ∈ (rLs k f s).1, p x := by
 unfold rLs
 have := q24 k s
 have h2 := qdi (f := f) (K3 k s).1 (K3 k s).2
 exact ⟨by omega, q8i h _ _⟩
theorem zax {o : Lt Cf} {c : Int} (s : RS) (hc : Sg c) (hb : z0v o c) (h : o.Rd) : (rdS o c s).1.Rd := by
 obtain ⟨b1, b2, b3⟩ := hb
 obtain ⟨⟨g1, g2, g3, g4, g5, g6, g7, g8, g9⟩, h2, h3, h4, h5, h6, h7, h8, h9, h10, h11⟩ := h
 rcases hc with rfl | rfl | rfl | rfl | rfl | rfl | rfl | rfl | rfl | rfl | rfl | rfl | rfl | rfl | rfl
 ·rw [qlk]; exact ⟨⟨g1, g2, g3, g4, g5, g6, g7, g8, g9⟩, h2, h3, h4, h5, h6, h7, h8, h9, h10, h11⟩
 ·rw [qll]; exact ⟨⟨z3b s, g2, g3, g4, g5, g6, g7, g8, g9⟩, h2, h3, h4, h5, h6, h7, h8, h9, h10, h11⟩
 ·rw [qlm]; exact ⟨⟨g1, g2, g3, g4, g5, g6, g7, g8, g9⟩, h2, h3, h4, h5, h6, h7, h8, h9, h10, h11⟩
 ·rw [qln]; exact ⟨⟨g1, g2, g3, g4, g5, g6, g7, g8, g9⟩, h2, h3, h4, h5, h6, h7, h8, h9, h10, h11⟩
 ·rw [qlo]; exact ⟨⟨g1, g2, g3, g4, g5, g6, g7, g8, g9⟩, h2, h3, h4, h5, h6, h7, h8, h9, h10, h11⟩
 ·rw [qlp]; exact ⟨⟨g1, g2, g3, g4, g5, g6, g7, g8, g9⟩, h2, h3, h4, h5, h6, h7, h8, h9, h10, h11⟩
 ·rw [qr9]; exact ⟨⟨g1, quv s, g3, g4, g5, g6, g7, g8, g9⟩, h2, h3, h4, h5, h6, h7, h8, h9, h10, h11⟩
 ·have hv := qty (f := rVt) (p := fun v : Vt => (0 <= v.rd /\ v.rd < 18446744073709551616) /\ v.v.length <= 64) zaw 400 s
  rw [qlq]; rw [b1 rfl, List.nil_append]
  exact ⟨⟨g1, g2, g3, g4, g5, g6, fun v hm => (hv.2 v hm).1, g8, g9⟩, h2, hv.1, h4, h5, fun v hm => (hv.2 v hm).2, h7, h8, h9, h10, h11⟩
 ·have hv := qty (f := rCo) (p := fun c : Cf => ((0 <= c.ep /\ c.ep < 18446744073709551616) /\ Len c.ch.length) /\ c.ch.length <= 8 /\ c.fu.length = c.ch.length) zau 4 s
  rw [qra]; rw [b2 rfl, List.nil_append]
  exact ⟨⟨g1, g2, g3, g4, g5, g6, g7, fun v hm => (hv.2 v hm).1, g9⟩, h2, h3, hv.1, h5, h6, fun v hm => (hv.2 v hm).2, h8, h9, h10, h11⟩
 ·have hv := qty (f := rEy) (p := fun e : En => (e.t.Fine /\ e.Rng) /\ 0 <= e.t.sq /\ 0 <= e.sq) (fun s => zav _) 8 s
  rw [qlr]; rw [b3 rfl, List.nil_append]
  exact ⟨⟨g1, g2, g3, g4, g5, g6, g7, g8, fun v hm => (hv.2 v hm).1⟩, h2, h3, h4, hv.1, h6, h7, h8, h9, h10, fun v hm => (hv.2 v hm).2⟩
 ·rw [qls]; exact ⟨⟨g1, g2, g3, g4, (quw s).1.2, (quw s).2, g7, g8, g9⟩, z0b s, h3, h4, h5, h6, h7, h8, h9, (quw s).1.1, h11⟩
 ·rw [qlt]; exact ⟨⟨g1, g2, g3, (z3b _).2, g5, g6, g7, g8, g9⟩, h2, h3, h4, h5, h6, h7, h8, (z3b _).1, h10, h11⟩
 ·rw [qlu]; exact ⟨⟨g1, g2, g3, g4, g5, g6, g7, g8, g9⟩, h2, h3, h4, h5, h6, h7, qfz 64 s, h9, h10, h11⟩
 ·rw [qlv]; exact ⟨⟨g1, g2, z3b s, g4, g5, g6, g7, g8, g9⟩, h2, h3, h4, h5, h6, h7, h8, h9, h10, h11⟩
 ·rw [qlw]; exact ⟨⟨g1, g2, g3, g4, g5, g6, g7, g8, g9⟩, h2, h3, h4, h5, h6, h7, h8, h9, h10, h11⟩
theorem z6t (s : RS) : (rTx s).2.1.length <= s.1.length :=
 Nat.le_trans (q6p qze _ _) (Nat.le_trans (O7 _ _) (Nat.le_trans (q6p qsx _ _) (Nat.le_trans (O7 _ _) (Nat.le_trans (O7 _ _) (qow _)))))
theorem z6u (o : Lt Cf) {c : Int} (hc : Sg c) (s : RS) : (rdS o c s).2.1.length <= s.1.length := by
 rcases hc with rfl | rfl | rfl | rfl | rfl | rfl | rfl | rfl | rfl | rfl | rfl | rfl | rfl | rfl | rfl
 ·rw [qlk]; exact O7 _ _
 ·rw [qll]; exact O7 _ _
 ·rw [qlm]; exact O7 _ _
 ·rw [qln]; exact O7 _ _
 ·rw [qlo]; exact O7 _ _
 ·rw [qlp]; exact O7 _ _
 ·rw [qr9]; exact qp2 _
 ·rw [qlq]; exact Nat.le_trans (q6p z06 _ _) (O7 _ _)
 ·rw [qra]; exact Nat.le_trans (q6p z07 _ _) (O7 _ _)
 ·rw [qlr]; exact Nat.le_trans (q6p z08 _ _) (O7 _ _)
 ·rw [qls]; exact z6t _
 ·rw [qlt]; exact qow _
 ·rw [qlu]; exact q6o _ _
 ·rw [qlv]; exact O7 _ _
 ·rw [qlw]; exact O7 _ _
theorem z46 : ∀ (us : Bs) (p : Lt Cf × RS), us.all sgB = true -> us.Nodup -> (∀ c ∈ us, z0v p.1 c.toNat) -> p.1.Rd -> (rdL us p).1.Rd
 | [], p, _, _, _, h => h
 | c :: us, p, h1, h2, h3, h => by
  simp only [List.all_cons, Bool.and_eq_true] at h1
  obtain ⟨h6, h7⟩ := List.nodup_cons.1 h2
  have hs := z09 h1.1
  obtain ⟨x, hx⟩ := z44 p.1 hs p.2
  exact z46 us (rdS p.1 c.toNat p.2) h1.2 h7 (fun d hd => by rw [hx]; exact qtw hs (z6q fun e => h6 (e ▸ hd)) (h3 d (List.mem_cons_of_mem _ hd))) (zax p.2 hs (h3 c (List.mem_cons_self ..)) h)
theorem zay (s : RS) : (rHd s).1.Rd := by
 refine ⟨⟨?_, ?_, ?_, ?_, ?_, fun _ h => (by cases h), fun _ h => (by cases h), fun _ h => (by cases h), fun _ h => (by cases h)⟩, z6d, ?_, ?_, ?_, fun _ h => (by cases h), fun _ h => (by cases h), ?_, ?_, ?_, fun _ h => (by cases h)⟩
 ·exact (show (0 : Int) <= 0 /\ (0 : Int) < 18446744073709551616 by decide)
 ·exact (show (0 : Int) <= 0 /\ (0 : Int) < 18446744073709551616 by decide)
 ·exact (show (0 : Int) <= 0 /\ (0 : Int) < 18446744073709551616 by decide)
 ·exact (show (0 : Int) < 18446744073709551616 by decide)
 ·exact (show (0 : Int) < 18446744073709551616 by decide)
 ·exact Nat.zero_le _
 ·exact Nat.zero_le _
 ·exact Nat.zero_le _
 ·exact Nat.zero_le _
 ·exact Int.le_refl _
 ·exact Int.le_refl _
theorem zaz (s : RS) : (rLt s).1.Rd := z46 _ _ (qbp _).1 (qlx _) (fun c _ => qtx rfl rfl rfl _) (zay s)
theorem Lt.Rd.fine {l : Lt Cf} (h : l.Rd) : l.Fine := by
 obtain ⟨g, h2, h3, h4, h5, h6, h7, h8, h9, h10, h11⟩ := h
 exact ⟨by omega, by omega, by omega, fun v hv => qmq (h6 v hv), fun c hc => ⟨by have := (h7 c hc).1; omega, (h7 c hc).2⟩, fun e he => (g.es e he).1, h2, qmq h8⟩
theorem Lt.Rd.small {l : Lt Cf} (h : l.Rd) : l.Small := h.fine.small
end Go.Aw
namespace Go.Aw
open Go
open Go.Proofs.Tryz (prog)
set_option linter.all false
set_option maxHeartbeats 8000000
set_option maxRecDepth 8000
theorem Owns.trans {B C : Tab} {m : List Ow} (hb : Owns B m C) : ∀ {l : List Ow} {T : Tab}, Owns C l T -> Owns B (l ++ m) T
 | [], T, h => by cases h; exact hb
 | a :: l, T, ⟨T1, h1, h2⟩ => ⟨T1, Owns.trans hb h1, h2⟩
theorem LtA.own {g : Option Nat} {B : Tab} {lid rid : Nat} {l : Lt Cf} {s : RS} {x y w : AV} {T : Tab} (h : LtA g B lid rid l s x y w T) (h1 : B rid = .unused) (h2 : B lid = .unused) :
  Owns B [⟨4, x, l.vs.length, l.vs.flatMap vtC⟩, ⟨5, y, l.cs.length, l.cs.flatMap cfC⟩, ⟨10, w, l.es.length, l.es.flatMap enC⟩, ⟨26, .sl lid 0 1 none, 1, lq g l x y w⟩, ⟨2, .sl rid 0 1 none, 1, [bts s.1 none, .b s.2]⟩] T := by
 refine Owns.trans (m := [⟨26, .sl lid 0 1 none, 1, lq g l x y w⟩, ⟨2, .sl rid 0 1 none, 1, [bts s.1 none, .b s.2]⟩]) ?_ h.ow
 refine ⟨rT B rid s, ⟨B, rfl, rfl, .inr ⟨rid, rfl, h1, rfl⟩⟩, rfl, .inr ⟨lid, rfl, ?_, rfl⟩⟩
 unfold rT
 rw [Tab.put_ne _ _ h.ne]
 exact h2
theorem z3c {R : G9} (hR : ExtR R) {B : Tab} {lid rid : Nat} {z : List AV} {bs : Bs} (hl : Len bs.length) : ∀ (us : Bs) (k : Nat), bs.drop k = us -> k <= bs.length -> us.all sgB = true -> us.Nodup ->
  ∀ (l : Lt Cf) (s : RS) (g : Option Nat) (x y w : AV) (T1 : Tab), (∀ c ∈ us, z0v l c.toNat) -> Len s.1.length -> LtA g B lid rid l s x y w T1 ->
  (∀ g x y w T1, LtA g B lid rid (rdL us (l, s)).1 (rdL us (l, s)).2 x y w T1 -> R (.exit 0) [(2, .lp 2 0), (6, .ptr rid 0), (7, .ptr lid 0), (8, .s bs), (49, .i .i64 bs.length), (50, .i .i64 bs.length), (51, .b false)] [(2, z)] T1) ->
  AW prog q9q R [(2, .lp 2 0), (6, .ptr rid 0), (7, .ptr lid 0), (8, .s bs), (49, .i .i64 bs.length), (50, .i .i64 k)] [(2, z)] T1 := by
 intro us
 induction us with
 | nil =>
  intro k hk hle _ _ l s g x y w T1 _ _ ho h2
  have hk' := V6 hk hle
  refine V1 hR ?_
  unfold q8t
  simp -implicitDefEqProofs -dsimp only [go_sem, seval, hk', Int.lt_irrefl]
  rw [hk'] at h2
  exact h2 g x y w T1 ho
 | cons c us ih =>
  intro k hk hle ha hn l s g x y w T1 hb hs ho h2
  obtain ⟨hlt, hy, hk'⟩ := Y6 hk
  unfold Len at hl
  have hw : IntKind.i64.wrap ((k : Int) + 1) = ((k + 1 : Nat) : Int) := O8 (by omega)
  simp only [List.all_cons, Bool.and_eq_true] at ha
  obtain ⟨h6, h7⟩ := List.nodup_cons.1 hn
  have hsg := z09 ha.1
  have hac := z3a ho c.toNat hsg hs (hb c (List.mem_cons_self ..))
  obtain ⟨X, hX⟩ := z44 l hsg s
  refine Q1 (l := q9q) rfl hR ?_
  unfold q8t
  simp -implicitDefEqProofs -dsimp only [go_sem, seval, Int.ofNat_lt, hlt, Int.natCast_nonneg, Int.toNat_natCast, hy, ↓J0 _ _ qdu]
  refine CallK.of hac fun v T' hq => J1 ?_
  obtain ⟨rfl, g', x', y', w', ho'⟩ := hq
  simp -implicitDefEqProofs -dsimp only [go_sem, seval, hw]
  refine ih (k + 1) hk' hlt ha.2 h7 (rdS l c.toNat s).1 (rdS l c.toNat s).2 g' x' y' w' T' (fun d hd => ?_) (q14 (z6u l hsg s) hs) ho' h2
  rw [hX]; exact qtw hsg (z6q fun e => h6 (e ▸ hd)) (hb d (List.mem_cons_of_mem _ hd))
end Go.Aw
namespace Go.Aw
open Go
open Go.Proofs.Tryz (prog)
set_option linter.all false
set_option maxHeartbeats 8000000
set_option maxRecDepth 8000
def loE (b : Bs) : Option Er := match opE b with
 | some e => some (.flt [102, 114, 97, 109, 101] (.num e.code))
 | none => if lOk (qh2 b, false) = true then none else some (.flt [108, 101, 116, 116, 101, 114] (.num 3))
def loA (b : Bs) : Lt Cf := match opE b with
 | some _ => zL
 | none => if lOk (qh2 b, false) = true then (rLt (qh2 b, false)).1 else zL
theorem z6v {b w : List UInt8} {e : Int} (h : nxE b = some (w, e)) : e ≠ 0 := by
 unfold nxE at h
 intro e0; subst e0
 split at h; · cases h
 split at h; · cases h
 split at h; · cases h
 split at h; · cases h
 split at h; · cases h
 split at h <;> cases h
theorem z0c {b : List UInt8} {er : Er} (h : opE b = some er) : ¬ er.code = 0 := by
 unfold opE at h
 rcases hn : nxE b with _ | ⟨w, e⟩
 ·rw [hn] at h
  simp only at h
  split at h
  ·injection h with h; subst h; decide
  ·cases h
 ·rw [hn] at h
  injection h with h; subst h
  exact z6v hn
theorem z3d (b : Bs) (cap : Option Nat) (hl : b.length <= 1000000) : PCalls prog q8a [bts b cap] (.tup [.agg (loA b).cc, qp6 (loE b)]) := by
 refine K6 U1 qoc (by simp) fun T => ?_
 have hf := z6h b cap (by omega)
 have hn : (qh2 b).length <= 1000000 := by simp only [qh2, List.length_drop, List.length_take]; omega
 obtain ⟨zc, hz⟩ : ∃ z : List AV, z = [.i .i64 0, .i .i64 0, .i .i64 0, .i .i64 0, .i .i64 0, .i .i64 0, .i .u64 0, .i .i64 0, .i .i64 0, .i .i64 0, .b false, .i .u64 0, .i .i64 0, .fz 0 [] (some 0), .fz 0 [] (some 0), .fz 0 [] (some 0), .i .i64 0, .i .u64 0, .b false, .fz 0 [] (some 0), .fz 0 [] (some 0), .i .i64 0, .i .u64 0, .s [], .i .u64 0, .i .i64 0] := ⟨_, rfl⟩
 have hzl : zc.length = 26 := by rw [hz]; rfl
 have hzt : zc.take 26 = zc := by rw [hz]; rfl
 have hz26 : zc.drop 26 = [] := by rw [hz]; rfl
 have hzw : Wks zc zL.cc := by rw [hz]; exact Wk.lt0 zL
 unfold z6g at hf
 unfold qg5 loA loE
 refine qyw True [(0, bts b cap), (2, .lp 2 0)] [(2, zc)] T (fun K hK => by rw [hz] at hK; simp -implicitDefEqProofs -dsimp only [go_sem, seval]; exact hK trivial) fun _ => ?_
 rcases he : opE b with _ | e
 ·rw [he] at hf
  simp only at hf ⊢
  generalize qh2 b = p at *
  simp -implicitDefEqProofs -dsimp only [go_sem, seval, ↓J0 _ _ qi6]
  refine cpn hf ?_
  simp -implicitDefEqProofs -dsimp only [go_sem, seval, hzl, hzt, hz26, ↓J0 _ _ qkn]
  refine CallK.of (z3u p none (by omega)) fun v T1 hq => J1 ?_
  obtain ⟨rid, rfl, hr, rfl⟩ := hq
  have hp : Len (p, false).1.length := by show Len p.length; unfold Len; omega
  have l1 := q14 (O7 3 (p, false)) hp
  have l2 := q14 (O7 8 _) l1
  have l3 := q14 (O7 3 _) l2
  have l4 := q14 (O7 8 _) l3
  have l5 := q14 (O7 21 _) l4
  simp -implicitDefEqProofs -dsimp only [go_sem, seval, hzl, hzt, hz26, ↓J0 _ _ N2]
  refine can (q45 q4i 3 (by decide) hp) ?_
  rw [qd6]
  simp -implicitDefEqProofs -dsimp only [go_sem, seval, hzl, hzt, hz26]
  intro lid hlid
  refine J1 ?_
  simp -implicitDefEqProofs -dsimp only [go_sem, seval, hzl, hzt, hz26]
  refine q11 (Tab.put_same ..) rfl rfl (by decide) (J1 ?_)
  have hlid2 : lid ≠ rid /\ T lid = .unused := Tab.unused_put hlid
  rw [Tab.put_put]
  have ho1 : LtA (some 0) T lid rid { zL with fk := (K3 3 (p, false)).1 } (K3 3 (p, false)).2 (.fz 0 [] (some 0)) (.fz 0 [] (some 0)) (.fz 0 [] (some 0)) (LtB (some 0) T lid rid { zL with fk := (K3 3 (p, false)).1 } (.fz 0 [] (some 0)) (.fz 0 [] (some 0)) (.fz 0 [] (some 0)) (K3 3 (p, false)).2) := ⟨⟨_, ⟨_, ⟨_, rfl, .nil ..⟩, .nil ..⟩, .nil ..⟩, hlid2.1⟩
  generalize hT1 : Tab.put (rT T rid (K3 3 (p, false)).2) lid _ = T1
  have ho1' : LtA (some 0) T lid rid { zL with fk := (K3 3 (p, false)).1 } (K3 3 (p, false)).2 (.fz 0 [] (some 0)) (.fz 0 [] (some 0)) (.fz 0 [] (some 0)) T1 := by rw [<- hT1]; exact ho1
  clear ho1 hT1
  have hrL : rLt (p, false) = rdL (qc5 (rHd (p, false)).1.k) (rHd (p, false)) := rfl
  have hrH : rHd (p, false) = ({ zL with fk := (K3 3 (p, false)).1, fn := (K3 8 (K3 3 (p, false)).2).1, tk := (K3 3 (K3 8 (K3 3 (p, false)).2).2).1, tn := (K3 8 (K3 3 (K3 8 (K3 3 (p, false)).2).2).2).1, k := (K3 21 (K3 8 (K3 3 (K3 8 (K3 3 (p, false)).2).2).2).2).1 }, (K3 21 (K3 8 (K3 3 (K3 8 (K3 3 (p, false)).2).2).2).2).2) := rfl
  generalize (K3 3 (p, false)).1 = a1 at *
  generalize (K3 3 (p, false)).2 = s1 at *
  have hoa := ho1'.read (K3 8 s1).2
  have hra := hoa.row
  have hob := hoa.set { zL with fk := a1, fn := (K3 8 s1).1 }
  simp -implicitDefEqProofs -dsimp only [go_sem, seval, hzl, hzt, hz26, ↓J0 _ _ N2]
  refine can (q45 ho1'.rd 8 (by decide) l1) ?_
  simp -implicitDefEqProofs -dsimp only [go_sem, seval, hzl, hzt, hz26]
  refine q11 hra rfl rfl (by rw [q5t]; decide) (J1 ?_)
  generalize hT2 : Tab.put (rT T1 rid (K3 8 s1).2) lid _ = T2
  have ho2' : LtA (some 0) T lid rid { zL with fk := a1, fn := (K3 8 s1).1 } (K3 8 s1).2 (.fz 0 [] (some 0)) (.fz 0 [] (some 0)) (.fz 0 [] (some 0)) T2 := by rw [<- hT2]; exact hob
  clear hob hoa hra hT2 ho1'
  generalize (K3 8 s1).1 = a2 at *
  generalize (K3 8 s1).2 = s2 at *
  have hoa := ho2'.read (K3 3 s2).2
  have hra := hoa.row
  have hob := hoa.set { zL with fk := a1, fn := a2, tk := (K3 3 s2).1 }
  simp -implicitDefEqProofs -dsimp only [go_sem, seval, hzl, hzt, hz26, ↓J0 _ _ N2]
  refine can (q45 ho2'.rd 3 (by decide) l2) ?_
  simp -implicitDefEqProofs -dsimp only [go_sem, seval, hzl, hzt, hz26]
  refine q11 hra rfl rfl (by rw [q5t]; decide) (J1 ?_)
  generalize hT3 : Tab.put (rT T2 rid (K3 3 s2).2) lid _ = T3
  have ho3' : LtA (some 0) T lid rid { zL with fk := a1, fn := a2, tk := (K3 3 s2).1 } (K3 3 s2).2 (.fz 0 [] (some 0)) (.fz 0 [] (some 0)) (.fz 0 [] (some 0)) T3 := by rw [<- hT3]; exact hob
  clear hob hoa hra hT3 ho2'
  generalize (K3 3 s2).1 = a3 at *
  generalize (K3 3 s2).2 = s3 at *
  have hoa := ho3'.read (K3 8 s3).2
  have hra := hoa.row
  have hob := hoa.set { zL with fk := a1, fn := a2, tk := a3, tn := (K3 8 s3).1 }
  simp -implicitDefEqProofs -dsimp only [go_sem, seval, hzl, hzt, hz26, ↓J0 _ _ N2]
  refine can (q45 ho3'.rd 8 (by decide) l3) ?_
  simp -implicitDefEqProofs -dsimp only [go_sem, seval, hzl, hzt, hz26]
  refine q11 hra rfl rfl (by rw [q5t]; decide) (J1 ?_)
  generalize hT4 : Tab.put (rT T3 rid (K3 8 s3).2) lid _ = T4
  have ho4' : LtA (some 0) T lid rid { zL with fk := a1, fn := a2, tk := a3, tn := (K3 8 s3).1 } (K3 8 s3).2 (.fz 0 [] (some 0)) (.fz 0 [] (some 0)) (.fz 0 [] (some 0)) T4 := by rw [<- hT4]; exact hob
  clear hob hoa hra hT4 ho3'
  generalize (K3 8 s3).1 = a4 at *
  generalize (K3 8 s3).2 = s4 at *
  have hoa := ho4'.read (K3 21 s4).2
  have hra := hoa.row
  have hob := hoa.set { zL with fk := a1, fn := a2, tk := a3, tn := a4, k := (K3 21 s4).1 }
  simp -implicitDefEqProofs -dsimp only [go_sem, seval, hzl, hzt, hz26, ↓J0 _ _ N2]
  refine can (q45 ho4'.rd 21 (by decide) l4) ?_
  simp -implicitDefEqProofs -dsimp only [go_sem, seval, hzl, hzt, hz26]
  refine q11 hra rfl rfl (by rw [q5t]; decide) (J1 ?_)
  generalize hT5 : Tab.put (rT T4 rid (K3 21 s4).2) lid _ = T5
  have ho5' : LtA (some 0) T lid rid { zL with fk := a1, fn := a2, tk := a3, tn := a4, k := (K3 21 s4).1 } (K3 21 s4).2 (.fz 0 [] (some 0)) (.fz 0 [] (some 0)) (.fz 0 [] (some 0)) T5 := by rw [<- hT5]; exact hob
  clear hob hoa hra hT5 ho4'
  generalize (K3 21 s4).1 = a5 at *
  generalize (K3 21 s4).2 = s5 at *
  have hr5 := ho5'.row
  have hfi := qgr (a5 : Int)
  have hsg := qoq (a5 : Int)
  have hsl : Len (qc5 (a5 : Int)).length := by unfold Len; omega
  have key := fun (R : G9) (hR : ExtR R) h => z3c (R := R) hR (B := T) (lid := lid) (rid := rid) (z := zc) (bs := qc5 a5) hsl (qc5 a5) 0 rfl (Nat.zero_le _) (qbp _).1 (qlx _) { zL with fk := (a1 : Int), fn := (a2 : Int), tk := (a3 : Int), tn := (a4 : Int), k := (a5 : Int) } s5 (some 0) (.fz 0 [] (some 0)) (.fz 0 [] (some 0)) (.fz 0 [] (some 0)) T5 (fun c _ => qtx rfl rfl rfl _) l5 ho5' h
  have hrL' : rdL (qc5 a5) ({ zL with fk := (a1 : Int), fn := (a2 : Int), tk := (a3 : Int), tn := (a4 : Int), k := (a5 : Int) }, s5) = rLt (p, false) := by rw [hrL, hrH]
  rw [hrL'] at key
  have hrd := zaz (p, false)
  clear hrL hrL' hrH
  unfold lOk
  generalize rLt (p, false) = LL at *
  obtain ⟨LL, ss⟩ := LL
  simp only at key hrd ⊢
  simp -implicitDefEqProofs -dsimp only [go_sem, seval, hzl, hzt, hz26, hr5, ↓J0 _ _ q6x]
  refine cpn hfi ?_
  generalize qc5 a5 = bs at *
  simp -implicitDefEqProofs -dsimp only [go_sem, seval, hzl, hzt, hz26]
  refine key _ (by repeat' (first | exact O6 _ _ | assumption | apply O5 | apply N4 | apply V8)) (fun g x y w T6 ho => ?_)
  obtain ⟨p1, p2, p3, p4, p5, p6⟩ := ho.px
  obtain ⟨q1, q2, q3, q4, q5, q6⟩ := ho.py
  obtain ⟨r1, r2, r3, r4, r5, r6⟩ := ho.pw
  have hr6 := ho.row
  have hown := ho.own hr hlid2.2
  simp -implicitDefEqProofs -dsimp only [go_sem, seval, hzl, hzt, hz26, ↓Q2, I2, true_and, ↓J0 _ _ q3q]
  refine can (qos ho.rd) ?_
  have cN := qhn [108, 101, 116, 116, 101, 114] 3
  rw [if_neg (by decide)] at cN
  have errEnd : qn5 (.tup [.agg [.i .i64 0, .i .i64 0, .i .i64 0, .i .i64 0, .i .i64 0, .i .i64 0, .i .u64 0, .i .i64 0, .i .i64 0, .i .i64 0, .b false, .i .u64 0, .i .i64 0, .fz 0 [] (some 0), .fz 0 [] (some 0), .fz 0 [] (some 0), .i .i64 0, .i .u64 0, .b false, .fz 0 [] (some 0), .fz 0 [] (some 0), .i .i64 0, .i .u64 0, .s [], .i .u64 0, .i .i64 0], q56 [108, 101, 116, 116, 101, 114] (qlg 3)]) (fun v T' => v = .tup [.agg zL.cc, qp6 (some (.flt [108, 101, 116, 116, 101, 114] (.num 3)))] /\ T' = T) T6 := by
   refine q33 hown fun S hS => ?_
   simp only [qm5, q99, q56, qlg, List.map_cons, List.map_nil, qbs, qch, quc, qha, qy7, qy6]
   exact Wk.tup ⟨Wk.agg (Wk.lt0 zL), .refl _, trivial⟩
  rcases hd : (!ss.2 && decide (ss.1 = [])) with _ | _
  ·simp -implicitDefEqProofs -dsimp only [go_sem, seval, hzl, hzt, hz26, hd, ↓Q2, I2, true_and, ↓J0 _ _ I3]
   refine cpn cN ?_
   simp -implicitDefEqProofs -dsimp only [go_sem, seval, q56, hzl, hzt, hz26, Bool.false_and, Bool.false_eq_true, if_false]
   exact errEnd
  ·simp -implicitDefEqProofs -dsimp only [go_sem, seval, hzl, hzt, hz26, hd, hr6, ↓Q2, I2, true_and, ↓J0 _ _ q9r]
   refine CallK.borrow (r := .b (lrF LL)) ho.ow (fun S hS => ?_) .b (J1 ?_)
   ·obtain ⟨c1, e1⟩ := hS _ (List.mem_cons_self ..)
    obtain ⟨c2, e2⟩ := hS _ (List.mem_cons_of_mem _ (List.mem_cons_self ..))
    obtain ⟨c3, e3⟩ := hS _ (List.mem_cons_of_mem _ (List.mem_cons_of_mem _ (List.mem_cons_self ..)))
    simp only at e1 e2 e3
    simp only [lq, q99, List.map_cons, List.map_nil, e1, e2, e3, qbs, qch, quc, qha]
    exact PCalls.wk (Wks.one (Wk.agg (m := LL.cc) ⟨.refl _, .refl _, .refl _, .refl _, .refl _, .refl _, .refl _, .refl _, .refl _, .refl _, .refl _, .refl _, .refl _, .fz, .fz, .fz, .refl _, .refl _, .refl _, .fz, .fz, .refl _, .refl _, .refl _, .refl _, .refl _, trivial⟩)) (qle LL hrd.small hrd.tf)
   rcases hk : lrF LL with _ | _
   ·simp -implicitDefEqProofs -dsimp only [go_sem, seval, hzl, hzt, hz26, ↓Q2, I2, true_and, ↓J0 _ _ I3]
    refine cpn cN ?_
    simp -implicitDefEqProofs -dsimp only [go_sem, seval, q56, hzl, hzt, hz26, Bool.and_false, Bool.false_eq_true, if_false]
    exact errEnd
   ·simp -implicitDefEqProofs -dsimp only [go_sem, seval, hzl, hzt, hz26, hr6, Bool.and_self, if_true]
    refine q33 hown fun S hS => ?_
    obtain ⟨c1, e1⟩ := hS _ (List.mem_cons_self ..)
    obtain ⟨c2, e2⟩ := hS _ (List.mem_cons_of_mem _ (List.mem_cons_self ..))
    obtain ⟨c3, e3⟩ := hS _ (List.mem_cons_of_mem _ (List.mem_cons_of_mem _ (List.mem_cons_self ..)))
    simp only at e1 e2 e3
    simp only [lq, qm5, q99, List.map_cons, List.map_nil, e1, e2, e3, qbs, qch, quc, qha, qy5]
    exact Wk.tup ⟨Wk.agg ⟨.refl _, .refl _, .refl _, .refl _, .refl _, .refl _, .refl _, .refl _, .refl _, .refl _, .refl _, .refl _, .refl _, .fz, .fz, .fz, .refl _, .refl _, .refl _, .fz, .fz, .refl _, .refl _, .refl _, .refl _, .refl _, trivial⟩, .refl _, trivial⟩
 ·rw [he] at hf
  simp only at hf ⊢
  have hc := z0c he
  have hnw := qhn [102, 114, 97, 109, 101] e.code
  rw [if_neg hc] at hnw
  have d : decide (e.code = 0) = false := decide_eq_false hc
  simp -implicitDefEqProofs -dsimp only [go_sem, seval, ↓J0 _ _ qi6]
  refine cpn hf ?_
  simp -implicitDefEqProofs -dsimp only [go_sem, seval, hzl, hzt, hz26, d, ↓J0 _ _ I3]
  refine cpn hnw ?_
  simp -implicitDefEqProofs -dsimp only [go_sem, seval, q56, hzl, hzt, hz26]
  exact q82 (Wk.tup ⟨Wk.agg (Wk.lt0 zL), .refl _, trivial⟩) rfl
end Go.Aw
