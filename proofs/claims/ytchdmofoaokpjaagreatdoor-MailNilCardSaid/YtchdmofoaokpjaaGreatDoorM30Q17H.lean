import Derived.Test.YtchdmofoaokpjaaGreatDoorM30Q17S
import Derived.Test.YtchdmofoaokpjaaGreatDoorM30Q17D
import Derived.Test.YtchdmofoaokpjaaGreatDoorM30Q17E
namespace Go.Aw
open Go
open Go.Proofs.Tryz (prog)
set_option linter.all false
set_option maxHeartbeats 8000000
set_option maxRecDepth 8000
structure Lt.Rd (l : Lt Cf) : Prop where
 rng : l.Rng
 tf : l.t.Fine
 vl : l.vs.length <= 400
 cl : l.cs.length <= 4
 el : l.es.length <= 8
 vv : ∀ v ∈ l.vs, v.v.length <= 64
 cc : ∀ c ∈ l.cs, c.ch.length <= 8 /\ c.fu.length = c.ch.length
 v : l.v.length <= 64
 sq : 0 <= l.sq
 tsq : 0 <= l.t.sq
 es : ∀ e ∈ l.es, 0 <= e.t.sq /\ 0 <= e.sq
theorem z2t (s : RS) : 0 <= ((K3 18446744073709551615 s).1 : Int) /\ ((K3 18446744073709551615 s).1 : Int) < 18446744073709551616 := by
 have := q21 18446744073709551615 s
 omega
theorem qus (s : RS) : 0 <= (qje s).1.1 /\ (qje s).1.1 < 18446744073709551616 := by
 unfold qje
 simp only
 split
 ·exact ⟨by decide, by decide⟩
 ·exact z2t s
def TxR (t : Tx) : Prop := (0 <= t.sq /\ t.sq < 18446744073709551616) /\ ∀ r ∈ t.rs, 0 <= r.n /\ r.n < 18446744073709551616
theorem zdw : TxR q5i := ⟨⟨by decide, by decide⟩, fun r hr => (by cases hr)⟩
theorem zdx (s : RS) : TxR (rTx s).1 := by
 refine ⟨z2t _, ?_⟩
 exact q8c (p := fun r : Rd => 0 <= r.n /\ r.n < 18446744073709551616) (fun s => z2t _) _ _
theorem qut (s : RS) : TxR (q23 s).1 := by
 unfold q23
 split
 ·exact zdx s
 ·exact zdw
theorem quu : q5i.Fine := ⟨by decide, by decide, fun r hr => (by cases hr), fun r hr => (by cases hr), fun r hr => (by cases hr)⟩
theorem z03 (s : RS) : (q23 s).1.Fine := by
 unfold q23
 split
 ·exact qov s
 ·exact quu
theorem zab (s : RS) : ((0 <= (rCo s).1.ep /\ (rCo s).1.ep < 18446744073709551616) /\ Len (rCo s).1.ch.length) /\ (rCo s).1.ch.length <= 8 /\ (rCo s).1.fu.length = (rCo s).1.ch.length := by
 unfold rCo qld
 simp only
 split
 ·have hl := qdd (f := qdj) (K3 8 (K3 3 (K3 18446744073709551615 s).2).2).1 (K3 8 (K3 3 (K3 18446744073709551615 s).2).2).2
  have hm := q21 8 (K3 3 (K3 18446744073709551615 s).2).2
  have e1 : (rCf s).1.ch.length <= 8 := by
   show ((V9 qdj _ _).1.map (·.1)).length <= 8
   rw [List.length_map]; omega
  have e2 : (rCf s).1.fu.length = (rCf s).1.ch.length := by
   show ((V9 qdj _ _).1.map (·.2)).length = ((V9 qdj _ _).1.map (·.1)).length
   rw [List.length_map, List.length_map]
  exact ⟨⟨z2t s, by unfold Len; omega⟩, e1, e2⟩
 ·exact ⟨⟨⟨by decide, by decide⟩, (show (0 : Nat) < 9223372036854775808 by decide)⟩, by decide, rfl⟩
theorem zac (s : RS) : ((q69 s).t.Fine /\ (q69 s).Rng) /\ 0 <= (q69 s).t.sq /\ 0 <= (q69 s).sq := by
 unfold q69
 split
 ·refine ⟨⟨qum s, qz9 s⟩, ?_, ?_⟩
  ·unfold rEn
   simp only
   split
   ·exact (qut _).1.1
   ·split <;> exact (by decide : (0 : Int) <= 0)
  ·unfold rEn
   simp only
   split
   ·exact (by decide : (0 : Int) <= 0)
   ·split
    ·exact (z2t _).1
    ·exact (by decide : (0 : Int) <= 0)
 ·exact ⟨⟨quu, ⟨⟨by decide, by decide⟩, by decide, fun r hr => (by cases hr), by decide⟩⟩, by decide, by decide⟩
theorem zad (s : RS) : (0 <= (rVt s).1.rd /\ (rVt s).1.rd < 18446744073709551616) /\ (rVt s).1.v.length <= 64 := ⟨qus _, qfz 64 _⟩
theorem qtu {α : Type} {f : RS -> α × RS} {p : α -> Prop} (h : ∀ s, p (f s).1) (k : Nat) (s : RS) : (rLs k f s).1.length <= k /\ ∀ x ∈ (rLs k f s).1, p x := by
 unfold rLs
 have := q21 k s
 have h2 := qdd (f := f) (K3 k s).1 (K3 k s).2
 exact ⟨by omega, q8c h _ _⟩
theorem zae {o : Lt Cf} {c : Int} (s : RS) (hc : Sg c) (hb : z0h o c) (h : o.Rd) : (rdS o c s).1.Rd := by
 obtain ⟨b1, b2, b3⟩ := hb
 obtain ⟨⟨g1, g2, g3, g4, g5, g6, g7, g8, g9⟩, h2, h3, h4, h5, h6, h7, h8, h9, h10, h11⟩ := h
 rcases hc with rfl | rfl | rfl | rfl | rfl | rfl | rfl | rfl | rfl | rfl | rfl | rfl | rfl | rfl | rfl
 ·rw [qle]; exact ⟨⟨g1, g2, g3, g4, g5, g6, g7, g8, g9⟩, h2, h3, h4, h5, h6, h7, h8, h9, h10, h11⟩
 ·rw [qlf]; exact ⟨⟨z2t s, g2, g3, g4, g5, g6, g7, g8, g9⟩, h2, h3, h4, h5, h6, h7, h8, h9, h10, h11⟩
 ·rw [qlg]; exact ⟨⟨g1, g2, g3, g4, g5, g6, g7, g8, g9⟩, h2, h3, h4, h5, h6, h7, h8, h9, h10, h11⟩
 ·rw [qlh]; exact ⟨⟨g1, g2, g3, g4, g5, g6, g7, g8, g9⟩, h2, h3, h4, h5, h6, h7, h8, h9, h10, h11⟩
 ·rw [qli]; exact ⟨⟨g1, g2, g3, g4, g5, g6, g7, g8, g9⟩, h2, h3, h4, h5, h6, h7, h8, h9, h10, h11⟩
 ·rw [qlj]; exact ⟨⟨g1, g2, g3, g4, g5, g6, g7, g8, g9⟩, h2, h3, h4, h5, h6, h7, h8, h9, h10, h11⟩
 ·rw [qr6]; exact ⟨⟨g1, qus s, g3, g4, g5, g6, g7, g8, g9⟩, h2, h3, h4, h5, h6, h7, h8, h9, h10, h11⟩
 ·have hv := qtu (f := rVt) (p := fun v : Vt => (0 <= v.rd /\ v.rd < 18446744073709551616) /\ v.v.length <= 64) zad 400 s
  rw [qlk]; rw [b1 rfl, List.nil_append]
  exact ⟨⟨g1, g2, g3, g4, g5, g6, fun v hm => (hv.2 v hm).1, g8, g9⟩, h2, hv.1, h4, h5, fun v hm => (hv.2 v hm).2, h7, h8, h9, h10, h11⟩
 ·have hv := qtu (f := rCo) (p := fun c : Cf => ((0 <= c.ep /\ c.ep < 18446744073709551616) /\ Len c.ch.length) /\ c.ch.length <= 8 /\ c.fu.length = c.ch.length) zab 4 s
  rw [qr7]; rw [b2 rfl, List.nil_append]
  exact ⟨⟨g1, g2, g3, g4, g5, g6, g7, fun v hm => (hv.2 v hm).1, g9⟩, h2, h3, hv.1, h5, h6, fun v hm => (hv.2 v hm).2, h8, h9, h10, h11⟩
 ·have hv := qtu (f := rEy) (p := fun e : En => (e.t.Fine /\ e.Rng) /\ 0 <= e.t.sq /\ 0 <= e.sq) (fun s => zac _) 8 s
  rw [qll]; rw [b3 rfl, List.nil_append]
  exact ⟨⟨g1, g2, g3, g4, g5, g6, g7, g8, fun v hm => (hv.2 v hm).1⟩, h2, h3, h4, hv.1, h6, h7, h8, h9, h10, fun v hm => (hv.2 v hm).2⟩
 ·rw [qlm]; exact ⟨⟨g1, g2, g3, g4, (qut s).1.2, (qut s).2, g7, g8, g9⟩, z03 s, h3, h4, h5, h6, h7, h8, h9, (qut s).1.1, h11⟩
 ·rw [qln]; exact ⟨⟨g1, g2, g3, (z2t _).2, g5, g6, g7, g8, g9⟩, h2, h3, h4, h5, h6, h7, h8, (z2t _).1, h10, h11⟩
 ·rw [qlo]; exact ⟨⟨g1, g2, g3, g4, g5, g6, g7, g8, g9⟩, h2, h3, h4, h5, h6, h7, qfz 64 s, h9, h10, h11⟩
 ·rw [qlp]; exact ⟨⟨g1, g2, z2t s, g4, g5, g6, g7, g8, g9⟩, h2, h3, h4, h5, h6, h7, h8, h9, h10, h11⟩
 ·rw [qlq]; exact ⟨⟨g1, g2, g3, g4, g5, g6, g7, g8, g9⟩, h2, h3, h4, h5, h6, h7, h8, h9, h10, h11⟩
theorem z6a (s : RS) : (rTx s).2.1.length <= s.1.length :=
 Nat.le_trans (q6d qz5 _ _) (Nat.le_trans (O5 _ _) (Nat.le_trans (q6d qsu _ _) (Nat.le_trans (O5 _ _) (Nat.le_trans (O5 _ _) (qou _)))))
theorem z6b (o : Lt Cf) {c : Int} (hc : Sg c) (s : RS) : (rdS o c s).2.1.length <= s.1.length := by
 rcases hc with rfl | rfl | rfl | rfl | rfl | rfl | rfl | rfl | rfl | rfl | rfl | rfl | rfl | rfl | rfl
 ·rw [qle]; exact O5 _ _
 ·rw [qlf]; exact O5 _ _
 ·rw [qlg]; exact O5 _ _
 ·rw [qlh]; exact O5 _ _
 ·rw [qli]; exact O5 _ _
 ·rw [qlj]; exact O5 _ _
 ·rw [qr6]; exact qp0 _
 ·rw [qlk]; exact Nat.le_trans (q6d qzy _ _) (O5 _ _)
 ·rw [qr7]; exact Nat.le_trans (q6d qzz _ _) (O5 _ _)
 ·rw [qll]; exact Nat.le_trans (q6d z00 _ _) (O5 _ _)
 ·rw [qlm]; exact z6a _
 ·rw [qln]; exact qou _
 ·rw [qlo]; exact q6c _ _
 ·rw [qlp]; exact O5 _ _
 ·rw [qlq]; exact O5 _ _
theorem z3n : ∀ (us : Bs) (p : Lt Cf × RS), us.all sgB = true -> us.Nodup -> (∀ c ∈ us, z0h p.1 c.toNat) -> p.1.Rd -> (rdL us p).1.Rd
 | [], p, _, _, _, h => h
 | c :: us, p, h1, h2, h3, h => by
  simp only [List.all_cons, Bool.and_eq_true] at h1
  obtain ⟨h6, h7⟩ := List.nodup_cons.1 h2
  have hs := z01 h1.1
  obtain ⟨x, hx⟩ := z3l p.1 hs p.2
  exact z3n us (rdS p.1 c.toNat p.2) h1.2 h7 (fun d hd => by rw [hx]; exact qts hs (z67 fun e => h6 (e ▸ hd)) (h3 d (List.mem_cons_of_mem _ hd))) (zae p.2 hs (h3 c (List.mem_cons_self ..)) h)
theorem zaf (s : RS) : (rHd s).1.Rd := by
 refine ⟨⟨?_, ?_, ?_, ?_, ?_, fun _ h => (by cases h), fun _ h => (by cases h), fun _ h => (by cases h), fun _ h => (by cases h)⟩, z5u, ?_, ?_, ?_, fun _ h => (by cases h), fun _ h => (by cases h), ?_, ?_, ?_, fun _ h => (by cases h)⟩
 ·exact (show (0 : Int) <= 0 /\ (0 : Int) < 18446744073709551616 by decide)
 ·exact (show (0 : Int) <= 0 /\ (0 : Int) < 18446744073709551616 by decide)
 ·exact (show (0 : Int) <= 0 /\ (0 : Int) < 18446744073709551616 by decide)
 ·exact (show (0 : Int) < 18446744073709551616 by decide)
 ·exact (show (0 : Int) < 18446744073709551616 by decide)
 ·exact Nat.zero_le _
 ·exact Nat.zero_le _
 ·exact Nat.zero_le _
 ·exact Nat.zero_le _
 ·exact Int.le_refl _
 ·exact Int.le_refl _
theorem zag (s : RS) : (rLt s).1.Rd := z3n _ _ (qbe _).1 (qlr _) (fun c _ => qtt rfl rfl rfl _) (zaf s)
theorem Lt.Rd.fine {l : Lt Cf} (h : l.Rd) : l.Fine := by
 obtain ⟨g, h2, h3, h4, h5, h6, h7, h8, h9, h10, h11⟩ := h
 exact ⟨by omega, by omega, by omega, fun v hv => qmk (h6 v hv), fun c hc => ⟨by have := (h7 c hc).1; omega, (h7 c hc).2⟩, fun e he => (g.es e he).1, h2, qmk h8⟩
theorem Lt.Rd.small {l : Lt Cf} (h : l.Rd) : l.Small := h.fine.small
end Go.Aw
namespace Go.Aw
open Go
open Go.Proofs.Tryz (prog)
set_option linter.all false
set_option maxHeartbeats 8000000
set_option maxRecDepth 8000
theorem Owns.trans {B C : Tab} {m : List Ow} (hb : Owns B m C) : ∀ {l : List Ow} {T : Tab}, Owns C l T -> Owns B (l ++ m) T
 | [], T, h => by cases h; exact hb
 | a :: l, T, ⟨T1, h1, h2⟩ => ⟨T1, Owns.trans hb h1, h2⟩
theorem LtA.own {g : Option Nat} {B : Tab} {lid rid : Nat} {l : Lt Cf} {s : RS} {x y w : AV} {T : Tab} (h : LtA g B lid rid l s x y w T) (h1 : B rid = .unused) (h2 : B lid = .unused) :
  Owns B [⟨4, x, l.vs.length, l.vs.flatMap vtC⟩, ⟨5, y, l.cs.length, l.cs.flatMap cfC⟩, ⟨10, w, l.es.length, l.es.flatMap enC⟩, ⟨26, .sl lid 0 1 none, 1, lq g l x y w⟩, ⟨2, .sl rid 0 1 none, 1, [bts s.1 none, .b s.2]⟩] T := by
 refine Owns.trans (m := [⟨26, .sl lid 0 1 none, 1, lq g l x y w⟩, ⟨2, .sl rid 0 1 none, 1, [bts s.1 none, .b s.2]⟩]) ?_ h.ow
 refine ⟨rT B rid s, ⟨B, rfl, rfl, .inr ⟨rid, rfl, h1, rfl⟩⟩, rfl, .inr ⟨lid, rfl, ?_, rfl⟩⟩
 unfold rT
 rw [Tab.put_ne _ _ h.ne]
 exact h2
theorem z2u {R : I2} (hR : ExtR R) {B : Tab} {lid rid : Nat} {z : List AV} {bs : Bs} (hl : Len bs.length) : ∀ (us : Bs) (k : Nat), bs.drop k = us -> k <= bs.length -> us.all sgB = true -> us.Nodup ->
  ∀ (l : Lt Cf) (s : RS) (g : Option Nat) (x y w : AV) (T1 : Tab), (∀ c ∈ us, z0h l c.toNat) -> Len s.1.length -> LtA g B lid rid l s x y w T1 ->
  (∀ g x y w T1, LtA g B lid rid (rdL us (l, s)).1 (rdL us (l, s)).2 x y w T1 -> R (.exit 0) [(2, .lp 2 0), (6, .ptr rid 0), (7, .ptr lid 0), (8, .s bs), (49, .i .i64 bs.length), (50, .i .i64 bs.length), (51, .b false)] [(2, z)] T1) ->
  AW prog q9h R [(2, .lp 2 0), (6, .ptr rid 0), (7, .ptr lid 0), (8, .s bs), (49, .i .i64 bs.length), (50, .i .i64 k)] [(2, z)] T1 := by
 intro us
 induction us with
 | nil =>
  intro k hk hle _ _ l s g x y w T1 _ _ ho h2
  have hk' := Y0 hk hle
  refine V1 hR ?_
  unfold q8n
  simp -implicitDefEqProofs -dsimp only [go_sem, seval, hk', Int.lt_irrefl]
  rw [hk'] at h2
  exact h2 g x y w T1 ho
 | cons c us ih =>
  intro k hk hle ha hn l s g x y w T1 hb hs ho h2
  obtain ⟨hlt, hy, hk'⟩ := Y9 hk
  unfold Len at hl
  have hw : IntKind.i64.wrap ((k : Int) + 1) = ((k + 1 : Nat) : Int) := Q0 (by omega)
  simp only [List.all_cons, Bool.and_eq_true] at ha
  obtain ⟨h6, h7⟩ := List.nodup_cons.1 hn
  have hsg := z01 ha.1
  have hac := z2s ho c.toNat hsg hs (hb c (List.mem_cons_self ..))
  obtain ⟨X, hX⟩ := z3l l hsg s
  refine Q3 (l := q9h) rfl hR ?_
  unfold q8n
  simp -implicitDefEqProofs -dsimp only [go_sem, seval, Int.ofNat_lt, hlt, Int.natCast_nonneg, Int.toNat_natCast, hy, ↓J0 _ _ qds]
  refine CallK.of hac fun v T' hq => J1 ?_
  obtain ⟨rfl, g', x', y', w', ho'⟩ := hq
  simp -implicitDefEqProofs -dsimp only [go_sem, seval, hw]
  refine ih (k + 1) hk' hlt ha.2 h7 (rdS l c.toNat s).1 (rdS l c.toNat s).2 g' x' y' w' T' (fun d hd => ?_) (q10 (z6b l hsg s) hs) ho' h2
  rw [hX]; exact qts hsg (z67 fun e => h6 (e ▸ hd)) (hb d (List.mem_cons_of_mem _ hd))
end Go.Aw
namespace Go.Aw
open Go
open Go.Proofs.Tryz (prog)
set_option linter.all false
set_option maxHeartbeats 8000000
set_option maxRecDepth 8000
def loE (b : Bs) : Option Er := match opE b with
 | some e => some (.flt [102, 114, 97, 109, 101] (.num e.code))
 | none => if lOk (qh2 b, false) = true then none else some (.flt [108, 101, 116, 116, 101, 114] (.num 3))
def loA (b : Bs) : Lt Cf := match opE b with
 | some _ => zL
 | none => if lOk (qh2 b, false) = true then (rLt (qh2 b, false)).1 else zL
theorem z6c {b w : List UInt8} {e : Int} (h : nxE b = some (w, e)) : e ≠ 0 := by
 unfold nxE at h
 intro e0; subst e0
 split at h; · cases h
 split at h; · cases h
 split at h; · cases h
 split at h; · cases h
 split at h; · cases h
 split at h <;> cases h
theorem z6d {b : List UInt8} {er : Er} (h : opE b = some er) : ¬ er.code = 0 := by
 unfold opE at h
 rcases hn : nxE b with _ | ⟨w, e⟩
 ·rw [hn] at h
  simp only at h
  split at h
  ·injection h with h; subst h; decide
  ·cases h
 ·rw [hn] at h
  injection h with h; subst h
  exact z6c hn
theorem z2v (b : Bs) (cap : Option Nat) (hl : b.length <= 1000000) : PCalls prog q84 [bts b cap] (.tup [.agg (loA b).cc, qp3 (loE b)]) := by
 refine K5 Q9 qo8 (by simp) fun T => ?_
 have hf := z5y b cap (by omega)
 have hn : (qh2 b).length <= 1000000 := by simp only [qh2, List.length_drop, List.length_take]; omega
 obtain ⟨zc, hz⟩ : ∃ z : List AV, z = [.i .i64 0, .i .i64 0, .i .i64 0, .i .i64 0, .i .i64 0, .i .i64 0, .i .u64 0, .i .i64 0, .i .i64 0, .i .i64 0, .b false, .i .u64 0, .i .i64 0, .fz 0 [] (some 0), .fz 0 [] (some 0), .fz 0 [] (some 0), .i .i64 0, .i .u64 0, .b false, .fz 0 [] (some 0), .fz 0 [] (some 0), .i .i64 0, .i .u64 0, .s [], .i .u64 0, .i .i64 0] := ⟨_, rfl⟩
 have hzl : zc.length = 26 := by rw [hz]; rfl
 have hzt : zc.take 26 = zc := by rw [hz]; rfl
 have hz26 : zc.drop 26 = [] := by rw [hz]; rfl
 have hzw : Wks zc zL.cc := by rw [hz]; exact Wk.lt0 zL
 unfold z5x at hf
 unfold qg6 loA loE
 refine qyo True [(0, bts b cap), (2, .lp 2 0)] [(2, zc)] T (fun K hK => by rw [hz] at hK; simp -implicitDefEqProofs -dsimp only [go_sem, seval]; exact hK trivial) fun _ => ?_
 rcases he : opE b with _ | e
 ·rw [he] at hf
  simp only at hf ⊢
  generalize qh2 b = p at *
  simp -implicitDefEqProofs -dsimp only [go_sem, seval, ↓J0 _ _ qi7]
  refine cpn hf ?_
  simp -implicitDefEqProofs -dsimp only [go_sem, seval, hzl, hzt, hz26, ↓J0 _ _ qki]
  refine CallK.of (z3c p none (by omega)) fun v T1 hq => J1 ?_
  obtain ⟨rid, rfl, hr, rfl⟩ := hq
  have hp : Len (p, false).1.length := by show Len p.length; unfold Len; omega
  have l1 := q10 (O5 3 (p, false)) hp
  have l2 := q10 (O5 8 _) l1
  have l3 := q10 (O5 3 _) l2
  have l4 := q10 (O5 8 _) l3
  have l5 := q10 (O5 21 _) l4
  simp -implicitDefEqProofs -dsimp only [go_sem, seval, hzl, hzt, hz26, ↓J0 _ _ N1]
  refine can (q40 q4c 3 (by decide) hp) ?_
  rw [qcx]
  simp -implicitDefEqProofs -dsimp only [go_sem, seval, hzl, hzt, hz26]
  intro lid hlid
  refine J1 ?_
  simp -implicitDefEqProofs -dsimp only [go_sem, seval, hzl, hzt, hz26]
  refine q16 (Tab.put_same ..) rfl rfl (by decide) (J1 ?_)
  have hlid2 : lid ≠ rid /\ T lid = .unused := Tab.unused_put hlid
  rw [Tab.put_put]
  have ho1 : LtA (some 0) T lid rid { zL with fk := (K3 3 (p, false)).1 } (K3 3 (p, false)).2 (.fz 0 [] (some 0)) (.fz 0 [] (some 0)) (.fz 0 [] (some 0)) (LtB (some 0) T lid rid { zL with fk := (K3 3 (p, false)).1 } (.fz 0 [] (some 0)) (.fz 0 [] (some 0)) (.fz 0 [] (some 0)) (K3 3 (p, false)).2) := ⟨⟨_, ⟨_, ⟨_, rfl, .nil ..⟩, .nil ..⟩, .nil ..⟩, hlid2.1⟩
  generalize hT1 : Tab.put (rT T rid (K3 3 (p, false)).2) lid _ = T1
  have ho1' : LtA (some 0) T lid rid { zL with fk := (K3 3 (p, false)).1 } (K3 3 (p, false)).2 (.fz 0 [] (some 0)) (.fz 0 [] (some 0)) (.fz 0 [] (some 0)) T1 := by rw [<- hT1]; exact ho1
  clear ho1 hT1
  have hrL : rLt (p, false) = rdL (qbx (rHd (p, false)).1.k) (rHd (p, false)) := rfl
  have hrH : rHd (p, false) = ({ zL with fk := (K3 3 (p, false)).1, fn := (K3 8 (K3 3 (p, false)).2).1, tk := (K3 3 (K3 8 (K3 3 (p, false)).2).2).1, tn := (K3 8 (K3 3 (K3 8 (K3 3 (p, false)).2).2).2).1, k := (K3 21 (K3 8 (K3 3 (K3 8 (K3 3 (p, false)).2).2).2).2).1 }, (K3 21 (K3 8 (K3 3 (K3 8 (K3 3 (p, false)).2).2).2).2).2) := rfl
  generalize (K3 3 (p, false)).1 = a1 at *
  generalize (K3 3 (p, false)).2 = s1 at *
  have hoa := ho1'.read (K3 8 s1).2
  have hra := hoa.row
  have hob := hoa.set { zL with fk := a1, fn := (K3 8 s1).1 }
  simp -implicitDefEqProofs -dsimp only [go_sem, seval, hzl, hzt, hz26, ↓J0 _ _ N1]
  refine can (q40 ho1'.rd 8 (by decide) l1) ?_
  simp -implicitDefEqProofs -dsimp only [go_sem, seval, hzl, hzt, hz26]
  refine q16 hra rfl rfl (by rw [q5j]; decide) (J1 ?_)
  generalize hT2 : Tab.put (rT T1 rid (K3 8 s1).2) lid _ = T2
  have ho2' : LtA (some 0) T lid rid { zL with fk := a1, fn := (K3 8 s1).1 } (K3 8 s1).2 (.fz 0 [] (some 0)) (.fz 0 [] (some 0)) (.fz 0 [] (some 0)) T2 := by rw [<- hT2]; exact hob
  clear hob hoa hra hT2 ho1'
  generalize (K3 8 s1).1 = a2 at *
  generalize (K3 8 s1).2 = s2 at *
  have hoa := ho2'.read (K3 3 s2).2
  have hra := hoa.row
  have hob := hoa.set { zL with fk := a1, fn := a2, tk := (K3 3 s2).1 }
  simp -implicitDefEqProofs -dsimp only [go_sem, seval, hzl, hzt, hz26, ↓J0 _ _ N1]
  refine can (q40 ho2'.rd 3 (by decide) l2) ?_
  simp -implicitDefEqProofs -dsimp only [go_sem, seval, hzl, hzt, hz26]
  refine q16 hra rfl rfl (by rw [q5j]; decide) (J1 ?_)
  generalize hT3 : Tab.put (rT T2 rid (K3 3 s2).2) lid _ = T3
  have ho3' : LtA (some 0) T lid rid { zL with fk := a1, fn := a2, tk := (K3 3 s2).1 } (K3 3 s2).2 (.fz 0 [] (some 0)) (.fz 0 [] (some 0)) (.fz 0 [] (some 0)) T3 := by rw [<- hT3]; exact hob
  clear hob hoa hra hT3 ho2'
  generalize (K3 3 s2).1 = a3 at *
  generalize (K3 3 s2).2 = s3 at *
  have hoa := ho3'.read (K3 8 s3).2
  have hra := hoa.row
  have hob := hoa.set { zL with fk := a1, fn := a2, tk := a3, tn := (K3 8 s3).1 }
  simp -implicitDefEqProofs -dsimp only [go_sem, seval, hzl, hzt, hz26, ↓J0 _ _ N1]
  refine can (q40 ho3'.rd 8 (by decide) l3) ?_
  simp -implicitDefEqProofs -dsimp only [go_sem, seval, hzl, hzt, hz26]
  refine q16 hra rfl rfl (by rw [q5j]; decide) (J1 ?_)
  generalize hT4 : Tab.put (rT T3 rid (K3 8 s3).2) lid _ = T4
  have ho4' : LtA (some 0) T lid rid { zL with fk := a1, fn := a2, tk := a3, tn := (K3 8 s3).1 } (K3 8 s3).2 (.fz 0 [] (some 0)) (.fz 0 [] (some 0)) (.fz 0 [] (some 0)) T4 := by rw [<- hT4]; exact hob
  clear hob hoa hra hT4 ho3'
  generalize (K3 8 s3).1 = a4 at *
  generalize (K3 8 s3).2 = s4 at *
  have hoa := ho4'.read (K3 21 s4).2
  have hra := hoa.row
  have hob := hoa.set { zL with fk := a1, fn := a2, tk := a3, tn := a4, k := (K3 21 s4).1 }
  simp -implicitDefEqProofs -dsimp only [go_sem, seval, hzl, hzt, hz26, ↓J0 _ _ N1]
  refine can (q40 ho4'.rd 21 (by decide) l4) ?_
  simp -implicitDefEqProofs -dsimp only [go_sem, seval, hzl, hzt, hz26]
  refine q16 hra rfl rfl (by rw [q5j]; decide) (J1 ?_)
  generalize hT5 : Tab.put (rT T4 rid (K3 21 s4).2) lid _ = T5
  have ho5' : LtA (some 0) T lid rid { zL with fk := a1, fn := a2, tk := a3, tn := a4, k := (K3 21 s4).1 } (K3 21 s4).2 (.fz 0 [] (some 0)) (.fz 0 [] (some 0)) (.fz 0 [] (some 0)) T5 := by rw [<- hT5]; exact hob
  clear hob hoa hra hT5 ho4'
  generalize (K3 21 s4).1 = a5 at *
  generalize (K3 21 s4).2 = s5 at *
  have hr5 := ho5'.row
  have hfi := qgs (a5 : Int)
  have hsg := qoo (a5 : Int)
  have hsl : Len (qbx (a5 : Int)).length := by unfold Len; omega
  have key := fun (R : I2) (hR : ExtR R) h => z2u (R := R) hR (B := T) (lid := lid) (rid := rid) (z := zc) (bs := qbx a5) hsl (qbx a5) 0 rfl (Nat.zero_le _) (qbe _).1 (qlr _) { zL with fk := (a1 : Int), fn := (a2 : Int), tk := (a3 : Int), tn := (a4 : Int), k := (a5 : Int) } s5 (some 0) (.fz 0 [] (some 0)) (.fz 0 [] (some 0)) (.fz 0 [] (some 0)) T5 (fun c _ => qtt rfl rfl rfl _) l5 ho5' h
  have hrL' : rdL (qbx a5) ({ zL with fk := (a1 : Int), fn := (a2 : Int), tk := (a3 : Int), tn := (a4 : Int), k := (a5 : Int) }, s5) = rLt (p, false) := by rw [hrL, hrH]
  rw [hrL'] at key
  have hrd := zag (p, false)
  clear hrL hrL' hrH
  unfold lOk
  generalize rLt (p, false) = LL at *
  obtain ⟨LL, ss⟩ := LL
  simp only at key hrd ⊢
  simp -implicitDefEqProofs -dsimp only [go_sem, seval, hzl, hzt, hz26, hr5, ↓J0 _ _ q6l]
  refine cpn hfi ?_
  generalize qbx a5 = bs at *
  simp -implicitDefEqProofs -dsimp only [go_sem, seval, hzl, hzt, hz26]
  refine key _ (by repeat' (first | exact O7 _ _ | assumption | apply O6 | apply N6 | apply Y1)) (fun g x y w T6 ho => ?_)
  obtain ⟨p1, p2, p3, p4, p5, p6⟩ := ho.px
  obtain ⟨q1, q2, q3, q4, q5, q6⟩ := ho.py
  obtain ⟨r1, r2, r3, r4, r5, r6⟩ := ho.pw
  have hr6 := ho.row
  have hown := ho.own hr hlid2.2
  simp -implicitDefEqProofs -dsimp only [go_sem, seval, hzl, hzt, hz26, ↓Q4, I4, true_and, ↓J0 _ _ q3n]
  refine can (qoq ho.rd) ?_
  have cN := qhm [108, 101, 116, 116, 101, 114] 3
  rw [if_neg (by decide)] at cN
  have errEnd : qn0 (.tup [.agg [.i .i64 0, .i .i64 0, .i .i64 0, .i .i64 0, .i .i64 0, .i .i64 0, .i .u64 0, .i .i64 0, .i .i64 0, .i .i64 0, .b false, .i .u64 0, .i .i64 0, .fz 0 [] (some 0), .fz 0 [] (some 0), .fz 0 [] (some 0), .i .i64 0, .i .u64 0, .b false, .fz 0 [] (some 0), .fz 0 [] (some 0), .i .i64 0, .i .u64 0, .s [], .i .u64 0, .i .i64 0], q4z [108, 101, 116, 116, 101, 114] (qla 3)]) (fun v T' => v = .tup [.agg zL.cc, qp3 (some (.flt [108, 101, 116, 116, 101, 114] (.num 3)))] /\ T' = T) T6 := by
   refine q30 hown fun S hS => ?_
   simp only [qlw, qah, q4z, qla, List.map_cons, List.map_nil, qbg, qc8, qu9, qha, qy2, qy1]
   exact Wk.tup ⟨Wk.agg (Wk.lt0 zL), .refl _, trivial⟩
  rcases hd : (!ss.2 && decide (ss.1 = [])) with _ | _
  ·simp -implicitDefEqProofs -dsimp only [go_sem, seval, hzl, hzt, hz26, hd, ↓Q4, I4, true_and, ↓J0 _ _ I0]
   refine cpn cN ?_
   simp -implicitDefEqProofs -dsimp only [go_sem, seval, q4z, hzl, hzt, hz26, Bool.false_and, Bool.false_eq_true, if_false]
   exact errEnd
  ·simp -implicitDefEqProofs -dsimp only [go_sem, seval, hzl, hzt, hz26, hd, hr6, ↓Q4, I4, true_and, ↓J0 _ _ q9i]
   refine CallK.borrow (r := .b (lrF LL)) ho.ow (fun S hS => ?_) .b (J1 ?_)
   ·obtain ⟨c1, e1⟩ := hS _ (List.mem_cons_self ..)
    obtain ⟨c2, e2⟩ := hS _ (List.mem_cons_of_mem _ (List.mem_cons_self ..))
    obtain ⟨c3, e3⟩ := hS _ (List.mem_cons_of_mem _ (List.mem_cons_of_mem _ (List.mem_cons_self ..)))
    simp only at e1 e2 e3
    simp only [lq, qah, List.map_cons, List.map_nil, e1, e2, e3, qbg, qc8, qu9, qha]
    exact PCalls.wk (Wks.one (Wk.agg (m := LL.cc) ⟨.refl _, .refl _, .refl _, .refl _, .refl _, .refl _, .refl _, .refl _, .refl _, .refl _, .refl _, .refl _, .refl _, .fz, .fz, .fz, .refl _, .refl _, .refl _, .fz, .fz, .refl _, .refl _, .refl _, .refl _, .refl _, trivial⟩)) (ql8 LL hrd.small hrd.tf)
   rcases hk : lrF LL with _ | _
   ·simp -implicitDefEqProofs -dsimp only [go_sem, seval, hzl, hzt, hz26, ↓Q4, I4, true_and, ↓J0 _ _ I0]
    refine cpn cN ?_
    simp -implicitDefEqProofs -dsimp only [go_sem, seval, q4z, hzl, hzt, hz26, Bool.and_false, Bool.false_eq_true, if_false]
    exact errEnd
   ·simp -implicitDefEqProofs -dsimp only [go_sem, seval, hzl, hzt, hz26, hr6, Bool.and_self, if_true]
    refine q30 hown fun S hS => ?_
    obtain ⟨c1, e1⟩ := hS _ (List.mem_cons_self ..)
    obtain ⟨c2, e2⟩ := hS _ (List.mem_cons_of_mem _ (List.mem_cons_self ..))
    obtain ⟨c3, e3⟩ := hS _ (List.mem_cons_of_mem _ (List.mem_cons_of_mem _ (List.mem_cons_self ..)))
    simp only at e1 e2 e3
    simp only [lq, qlw, qah, List.map_cons, List.map_nil, e1, e2, e3, qbg, qc8, qu9, qha, qy0]
    exact Wk.tup ⟨Wk.agg ⟨.refl _, .refl _, .refl _, .refl _, .refl _, .refl _, .refl _, .refl _, .refl _, .refl _, .refl _, .refl _, .refl _, .fz, .fz, .fz, .refl _, .refl _, .refl _, .fz, .fz, .refl _, .refl _, .refl _, .refl _, .refl _, trivial⟩, .refl _, trivial⟩
 ·rw [he] at hf
  simp only at hf ⊢
  have hc := z6d he
  have hnw := qhm [102, 114, 97, 109, 101] e.code
  rw [if_neg hc] at hnw
  have d : decide (e.code = 0) = false := decide_eq_false hc
  simp -implicitDefEqProofs -dsimp only [go_sem, seval, ↓J0 _ _ qi7]
  refine cpn hf ?_
  simp -implicitDefEqProofs -dsimp only [go_sem, seval, hzl, hzt, hz26, d, ↓J0 _ _ I0]
  refine cpn hnw ?_
  simp -implicitDefEqProofs -dsimp only [go_sem, seval, q4z, hzl, hzt, hz26]
  exact q7v (Wk.tup ⟨Wk.agg (Wk.lt0 zL), .refl _, trivial⟩) rfl
end Go.Aw
