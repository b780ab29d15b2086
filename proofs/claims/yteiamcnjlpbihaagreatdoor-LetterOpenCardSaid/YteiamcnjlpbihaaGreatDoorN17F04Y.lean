import Derived.Test.YteiamcnjlpbihaaGreatDoorN17F04S
import Derived.Test.YteiamcnjlpbihaaGreatDoorN17E12R
namespace Go.Aw
open Go
open Go.Proofs.Tryz (prog)
set_option linter.all false
set_option maxHeartbeats 4000000
end Go.Aw
namespace Go.Aw
open Go
open Go.Proofs.Tryz (prog)
set_option linter.all false
set_option maxHeartbeats 4000000
theorem zm2 {q : List UInt8} {m : W} {p : Nat} (hm : m ≠ 0#32) (hp : p + 31 < 8 * (frm q).length) : opE (qik (frm q) p m 32) ≠ none := by
 intro h
 obtain ⟨F, hF⟩ : ∃ F, qik (frm q) p m 32 = F := ⟨_, rfl⟩
 have hlen : F.length = q.length + 7 := by rw [<- hF, qfj, qse]
 rw [hF] at h
 unfold opE at h
 rcases hn : nxE F with _ | pr
 ·rw [hn] at h
  simp only at h
  split at h
  ·cases h
  rename_i h7
  unfold nxE at hn
  split at hn
  ·cases hn
  split at hn
  ·cases hn
  rename_i h197
  split at hn
  ·cases hn
  split at hn
  ·cases hn
  split at hn
  ·cases hn
  rename_i h8
  split at hn
  ·cases hn
  rename_i hw
  have e1 : F.take (qys F + 7) = F := List.take_of_length_le (by omega)
  rw [e1] at hw
  have hw' : qkp (F.drop 1) = true := by simpa using hw
  rw [qkp, Bool.and_eq_true] at hw'
  have hs := of_decide_eq_true hw'.2
  obtain ⟨x, xs, e2⟩ : ∃ x xs, F = x :: xs := by
   cases F with
   | nil => simp at hlen
   | cons x xs => exact ⟨x, xs, rfl⟩
  have ex : x = 197 := by
   have : bAt F 0 = 197 := by simpa using h197
   rw [e2] at this; exact this
  rw [e2, List.drop_one, List.tail_cons] at hs
  rw [e2, List.length_cons] at hlen
  refine zl7 (a := [197]) (b := xs) (m := m) (p := p) hm (by rw [qse] at hp; simp only [List.length_cons, List.length_nil]; omega) (c := hiB q.length :: loB q.length :: q) ?_ ?_ _ hs.symm
  ·show qik (frm q) p m 32 = 197 :: xs
   rw [hF, e2, ex]
  ·simp only [qen, List.length_append, qsc, List.length_cons]; omega
 ·rw [hn] at h; cases h
end Go.Aw
namespace Go.Aw
open Go
open Go.Proofs.Tryz (prog)
set_option linter.all false
set_option maxHeartbeats 4000000
def fill (x : UInt8) (j d : Nat) : List UInt8 := List.replicate j x ++ List.replicate d 0
end Go.Aw
namespace Go.Aw
open Go
open Go.Proofs.Tryz (prog)
set_option linter.all false
set_option maxHeartbeats 4000000
theorem zi1 (x : W) : decide ((x.toNat : Int).tmod 2 = 1) = x.getLsbD 0 := by
 rw [Int.tmod_eq_emod_of_nonneg (by omega)]
 have : x.getLsbD 0 = decide (x.toNat % 2 = 1) := by
  rw [<- BitVec.testBit_toNat, Nat.testBit_zero]
 rw [this]
 congr 1
 apply propext
 omega
theorem zb5 (x : W) : IntKind.u32.wrap ((x.toNat : Int).tdiv 2) = ((x >>> 1).toNat : Int) := by
 rw [Int.tdiv_eq_ediv_of_nonneg (by omega), BitVec.toNat_ushiftRight, Nat.shiftRight_eq_div_pow]
 have := x.isLt
 have e : ((x.toNat : Int) / 2) = ((x.toNat / 2 : Nat) : Int) := by omega
 rw [e, qb2 _ (by omega)]
theorem zdw (x : W) : IntKind.u32.wrap ((BitVec.ofInt IntKind.u32.bits (x.toNat : Int) ^^^ BitVec.ofInt IntKind.u32.bits 3988292384).toNat : Int) = ((x ^^^ z21).toNat : Int) := by
 rw [ze6, show BitVec.ofInt IntKind.u32.bits 3988292384 = (z21 : W) from rfl]; exact qb2 _ (x ^^^ z21).isLt
theorem za8 {R : Z1} (hR : ExtR R) {T : Tab} {l n i : AV} (hl : l.plain = true /\ n.plain = true /\ i.plain = true) : ∀ (m k : Nat), k + m = 8 -> ∀ (x : W),
  R (.exit 2) [(0, wv (it m x)), (7, .i .i64 8), (9, l), (10, n), (11, i), (20, .b false)] [] T ->
  AW prog q8f R [(0, wv x), (7, .i .i64 k), (9, l), (10, n), (11, i)] [] T := by
 intro m
 induction m with
 | zero =>
  intro k hk x h2
  have : k = 8 := by omega
  subst this
  refine Q5 hR ?_
  unfold q7n
  obtain ⟨h3, h4, h5⟩ := hl
  simp -implicitDefEqProofs -dsimp only [go_sem, seval, show ((8 : Nat) : Int) = 8 from rfl, h3, h4, h5]
  exact h2
 | succ m ih =>
  intro k hk x h2
  have hk8 : (k : Int) < 8 := by omega
  have hws : IntKind.i64.wrap ((k : Int) + 1) = ((k + 1 : Nat) : Int) := N4 (by omega)
  refine O0 (l := q8f) rfl hR ?_
  unfold q7n
  have hl' := hl
  obtain ⟨h3, h4, h5⟩ := hl
  have hb1 := qw2 x
  rcases hb : x.getLsbD 0 with _ | _
  ·have ho := zi1 x
   rw [hb] at ho hb1
   simp -implicitDefEqProofs -dsimp only [go_sem, seval, hk8, h3, h4, h5, hws, ho, zb5]
   have e : qql x = x >>> 1 := by rw [hb1]; simp
   rw [<- e]
   exact ih (k + 1) (by omega) (qql x) h2
  ·have ho := zi1 x
   rw [hb] at ho hb1
   simp -implicitDefEqProofs -dsimp only [go_sem, seval, hk8, h3, h4, h5, hws, ho, zb5, zdw]
   have e : qql x = x >>> 1 ^^^ z21 := by rw [hb1]; simp
   rw [<- e]
   exact ih (k + 1) (by omega) (qql x) h2
theorem za9 {R : Z1} (hR : ExtR R) {T : Tab} {l : List UInt8} {cap : Option Nat} (hl : l.length <= 1000000000) : ∀ (ys : List UInt8) (k : Nat), l.drop k = ys -> k <= l.length -> ∀ (x : W),
  R (.exit 0) [(0, wv (more x ys)), (9, bts l cap), (10, .i .i64 l.length), (11, .i .i64 l.length), (12, .b false)] [] T ->
  AW prog q8g R [(0, wv x), (9, bts l cap), (10, .i .i64 l.length), (11, .i .i64 k)] [] T := by
 intro ys
 induction ys with
 | nil =>
  intro k hk hle x h2
  have hk' := Q7 hk hle
  refine Q5 hR ?_
  unfold q7o
  simp -implicitDefEqProofs -dsimp only [go_sem, seval, hk', Int.lt_irrefl]
  rw [hk'] at h2
  exact h2
 | cons y ys ih =>
  intro k hk hle x h2
  obtain ⟨hlt, hy, hk'⟩ := U6 hk
  have hws : IntKind.i64.wrap ((k : Int) + 1) = ((k + 1 : Nat) : Int) := N4 (by omega)
  have hc := z11 hy
  refine O0 (l := q8g) rfl hR ?_
  unfold q7o
  simp -implicitDefEqProofs -dsimp only [go_sem, seval, Int.ofNat_lt, hlt, bts, Int.natCast_nonneg, Int.toNat_natCast, Nat.mul_one, hc, zhl, zd3]
  refine za8 (by repeat' (first | exact N2 _ _ | assumption | apply N1 | apply K9 | apply Q3)) ⟨rfl, rfl, rfl⟩ 8 0 rfl _ ?_
  simp -implicitDefEqProofs -dsimp only [go_sem, seval, hws]
  exact ih (k + 1) hk' hlt _ h2
theorem zaa (x : W) (l : List UInt8) (cap : Option Nat) (hl : l.length <= 1000000000) : PCalls prog q5r [wv x, bts l cap] (wv (more x l)) := by
 refine K7 U3 qln (by simp) fun T => ?_
 unfold qd0
 simp -implicitDefEqProofs -dsimp only [go_sem, seval]
 refine za9 (l := l) (cap := cap) (by repeat' (first | exact N2 _ _ | assumption | apply N1 | apply K9 | apply Q3)) hl l 0 rfl (by omega) x ?_
 simp -implicitDefEqProofs -dsimp only [go_sem, seval]
 exact J9 rfl
theorem zlo (x : W) : IntKind.u32.wrap (4294967295 - (x.toNat : Int)) = ((~~~x).toNat : Int) := by
 have h := x.isLt
 rw [BitVec.toNat_not]
 have e : (4294967295 - (x.toNat : Int)) = ((4294967295 - x.toNat : Nat) : Int) := by omega
 rw [e, qb2 _ (by omega)]
theorem zi2 (l : List UInt8) (cap : Option Nat) (hl : l.length <= 1000000000) : PCalls prog q7w [bts l cap] (wv (qw1 l)) := by
 have h := zaa 4294967295#32 l cap hl
 have e : ((4294967295#32 : W).toNat : Int) = 4294967295 := rfl
 rw [wv, e] at h
 refine K7 U3 qoi (by simp) fun T => ?_
 unfold qf5
 simp -implicitDefEqProofs -dsimp only [go_sem, seval, ↓J0 _ _ qlo]
 refine cpn h ?_
 simp -implicitDefEqProofs -dsimp only [go_sem, seval, zlo]
 exact J9 rfl
theorem zn3 (x : W) : IntKind.u8.wrap ((x.toNat : Int).tmod 256) = ((q9s x 0).toNat : Int) := by
 rw [Int.tmod_eq_emod_of_nonneg (by omega)]
 simp only [IntKind.wrap, IntKind.signed, IntKind.bits, q9s]
 simp
theorem zm3 (x : W) (k : Nat) (d : Nat) (hd : 256 ^ k = d) : IntKind.u8.wrap ((IntKind.u32.wrap ((x.toNat : Int).tdiv d)).tmod 256) = ((q9s x k).toNat : Int) := by
 have h := x.isLt
 have h2 : x.toNat / d < 4294967296 := Nat.lt_of_le_of_lt (Nat.div_le_self _ _) h
 rw [Int.tdiv_eq_ediv_of_nonneg (by omega), <- Int.natCast_ediv, qb2 _ h2, Int.tmod_eq_emod_of_nonneg (Int.natCast_nonneg _)]
 simp only [IntKind.wrap, IntKind.signed, IntKind.bits, q9s, hd]
 simp
theorem zn4 (x : W) : IntKind.u8.wrap (IntKind.u32.wrap ((x.toNat : Int).tdiv 16777216)) = ((q9s x 3).toNat : Int) := by
 have h := x.isLt
 have h2 : x.toNat / 16777216 < 256 := by omega
 rw [Int.tdiv_eq_ediv_of_nonneg (by omega), show ((x.toNat : Int) / 16777216) = ((x.toNat / 16777216 : Nat) : Int) from rfl, qb2 _ (by omega)]
 simp only [IntKind.wrap, IntKind.signed, IntKind.bits, q9s]
 simp
theorem zab (x : W) : PCalls prog q5p [wv x] (bts (z6t x) (some 4)) := by
 refine K7 U3 qle (by simp) fun T => ?_
 have h1 : IntKind.u8.wrap ((IntKind.u32.wrap ((x.toNat : Int).tdiv 256)).tmod 256) = ((q9s x 1).toNat : Int) := zm3 x 1 256 rfl
 have h2 : IntKind.u8.wrap ((IntKind.u32.wrap ((x.toNat : Int).tdiv 65536)).tmod 256) = ((q9s x 2).toNat : Int) := zm3 x 2 65536 rfl
 unfold qcx
 simp -implicitDefEqProofs -dsimp only [go_sem, seval, zn3, h1, h2, zn4]
 exact J9 rfl
theorem zlp (n : Nat) (h : n <= 65535) : IntKind.u8.wrap (IntKind.i64.wrap ((n : Int).tdiv 256)) = ((hiB n).toNat : Int) := by
 rw [Int.tdiv_eq_ediv_of_nonneg (Int.natCast_nonneg _), show ((n : Int) / 256) = ((n / 256 : Nat) : Int) from rfl, q2l (by unfold I64; omega)]
 simp only [IntKind.wrap, IntKind.signed, IntKind.bits, hiB]
 simp
theorem zlq (n : Nat) : IntKind.u8.wrap ((n : Int).tmod 256) = ((loB n).toNat : Int) := by
 rw [Int.tmod_eq_emod_of_nonneg (Int.natCast_nonneg _)]
 simp only [IntKind.wrap, IntKind.signed, IntKind.bits, loB]
 simp
theorem z7p (p : List UInt8) (cap : Option Nat) (h1 : 1 <= p.length) (hl : p.length <= 65535) : PCalls prog q3u [bts p cap] (bts (frm p) none) := by
 refine K7 U3 qmu (by simp) fun T => ?_
 unfold qdn
 simp -implicitDefEqProofs -dsimp only [go_sem, seval, zlp _ hl, zlq]
 have hg : Gr T 1 (.fz 2 (K8 [hiB p.length, loB p.length]) (some 2)) 2 (K8 [hiB p.length, loB p.length]) T := .inr ⟨rfl, rfl, rfl⟩
 refine hg.app (m := p.length) (q63 _ _) rfl (by omega) (by omega) (by omega) fun v1 T1 ho => J1 ?_
 obtain ⟨p1, p2, p3, p4, p5, p6⟩ := ho.form
 simp -implicitDefEqProofs -dsimp only [go_sem, seval, p1, p2, p3, p4, p5, p6, ↓J0 _ _ qoj]
 rw [V5] at ho
 have eo : [hiB p.length, loB p.length] ++ p = hiB p.length :: loB p.length :: p := rfl
 rw [eo] at ho
 obtain ⟨q, hq⟩ : ∃ q, q = hiB p.length :: loB p.length :: p := ⟨_, rfl⟩
 rw [<- hq] at ho
 have hql : 2 + p.length = q.length := by rw [hq]; simp only [List.length_cons]; omega
 rw [hql] at ho
 refine CallK.borrow (Owns.one ho) (r := wv (qw1 q)) (fun S hS => ?_) .i (J1 ?_)
 ·obtain ⟨c, e⟩ := hS _ (List.mem_cons_self ..)
  simp only at e
  simp only [List.map_cons, List.map_nil, ho.frzv, e]
  exact zi2 q c (by omega)
 simp -implicitDefEqProofs -dsimp only [go_sem, seval, p1, p2, p3, p4, p5, p6, ↓J0 _ _ qlf]
 refine cpn (zab _) ?_
 simp -implicitDefEqProofs -dsimp only [go_sem, seval, p1, p2, p3, p4, p5, p6]
 refine ho.app (m := 4) (q63 _ _) rfl (by omega) (by omega) fun v2 T2 ho2 => J1 ?_
 rw [V5] at ho2
 obtain ⟨p1, p2, p3, p4, p5, p6⟩ := ho2.form
 simp -implicitDefEqProofs -dsimp only [go_sem, seval, p1, p2, p3, p4, p5, p6]
 have hg : Gr T2 1 (.fz 1 [.i .u8 197] (some 1)) 1 (K8 [197]) T2 := .inr ⟨rfl, rfl, rfl⟩
 have hsl := ho2.sl
 refine hg.app (m := q.length + 4) hsl.1 hsl.2 (by omega) (by omega) (by omega) fun v3 T3 ho3 => J1 ?_
 obtain ⟨p1, p2, p3, p4, p5, p6⟩ := ho3.form
 simp -implicitDefEqProofs -dsimp only [go_sem, seval, p1, p2, p3, p4, p5, p6]
 have how : Owns T [⟨1, v3, 1 + (q.length + 4), K8 [197] ++ K8 (q ++ z6t (qw1 q))⟩, ⟨1, v2, q.length + 4, K8 (q ++ z6t (qw1 q))⟩] T3 := ⟨T2, Owns.one ho2, ho3⟩
 refine q1f how fun S hS => ?_
 obtain ⟨c, e⟩ := hS _ (List.mem_cons_self ..)
 simp only at e
 have hv : qo7 T3 S v3 = qhg T3 S v3 := by
  rcases ho3.2 with ⟨rfl, _⟩ | ⟨id, rfl, _⟩ <;> rfl
 rw [hv, e, V5, show 1 + (q.length + 4) = (frm p).length by rw [qse]; omega, show [197] ++ (q ++ z6t (qw1 q)) = frm p by rw [frm, qen, <- hq]; rfl]
 exact .fz
end Go.Aw
