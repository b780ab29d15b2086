import Derived.Test.YteiamcnjlpbihaaGreatDoorN17F04S
import Derived.Test.YteiamcnjlpbihaaGreatDoorN17E12R
namespace Go.Aw
open Go
open Go.Proofs.Tryz (prog)
set_option linter.all false
set_option maxHeartbeats 4000000
end Go.Aw
namespace Go.Aw
open Go
open Go.Proofs.Tryz (prog)
set_option linter.all false
set_option maxHeartbeats 4000000
theorem zms {q : List UInt8} {m : W} {p : Nat} (hm : m ≠ 0#32) (hp : p + 31 < 8 * (frm q).length) : opE (qis (frm q) p m 32) ≠ none := by
 intro h
 obtain ⟨F, hF⟩ : ∃ F, qis (frm q) p m 32 = F := ⟨_, rfl⟩
 have hlen : F.length = q.length + 7 := by rw [<- hF, qfs, qmo]
 rw [hF] at h
 unfold opE at h
 rcases hn : nxE F with _ | pr
 ·rw [hn] at h
  simp only at h
  split at h
  ·cases h
  rename_i h7
  unfold nxE at hn
  split at hn
  ·cases hn
  split at hn
  ·cases hn
  rename_i h197
  split at hn
  ·cases hn
  split at hn
  ·cases hn
  split at hn
  ·cases hn
  rename_i h8
  split at hn
  ·cases hn
  rename_i hw
  have e1 : F.take (qz0 F + 7) = F := List.take_of_length_le (by omega)
  rw [e1] at hw
  have hw' : qit (F.drop 1) = true := by simpa using hw
  rw [qit, Bool.and_eq_true] at hw'
  have hs := of_decide_eq_true hw'.2
  obtain ⟨x, xs, e2⟩ : ∃ x xs, F = x :: xs := by
   cases F with
   | nil => simp at hlen
   | cons x xs => exact ⟨x, xs, rfl⟩
  have ex : x = 197 := by
   have : bAt F 0 = 197 := by simpa using h197
   rw [e2] at this; exact this
  rw [e2, List.drop_one, List.tail_cons] at hs
  rw [e2, List.length_cons] at hlen
  refine zlz (a := [197]) (b := xs) (m := m) (p := p) hm (by rw [qmo] at hp; simp only [List.length_cons, List.length_nil]; omega) (c := hiB q.length :: loB q.length :: q) ?_ ?_ _ hs.symm
  ·show qis (frm q) p m 32 = 197 :: xs
   rw [hF, e2, ex]
  ·simp only [qaz, List.length_append, qon, List.length_cons]; omega
 ·rw [hn] at h; cases h
end Go.Aw
namespace Go.Aw
open Go
open Go.Proofs.Tryz (prog)
set_option linter.all false
set_option maxHeartbeats 4000000
theorem z87 (p : List UInt8) (rest : List UInt8) : bAt (frm p ++ rest) 0 = 197 /\ bAt (frm p ++ rest) 1 = hiB p.length /\ bAt (frm p ++ rest) 2 = loB p.length := ⟨rfl, rfl, rfl⟩
theorem zbk {p : List UInt8} (h : p.length <= 65535) (rest : List UInt8) : qz0 (frm p ++ rest) = p.length := by
 obtain ⟨_, h1, h2⟩ := z87 p rest
 unfold qz0
 rw [h1, h2]
 simp [hiB, loB]
 omega
theorem z4b (l : List UInt8) : qit (qaz l) = true := by
 have e : (qaz l).length = l.length + 4 := by simp only [qaz, List.length_append, qon]
 have e2 : (qaz l).take ((qaz l).length - 4) = l := by rw [e, show l.length + 4 - 4 = l.length by omega, qaz, List.take_left]
 rw [qit, e2, decide_eq_true (by omega)]; simp
theorem ziw {p : List UInt8} (h : 1 <= p.length /\ p.length <= 65535) (rest : List UInt8) : nxE (frm p ++ rest) = none /\ qop (frm p ++ rest) = p := by
 have hs := zbk h.2 rest
 have hl := qmo p
 have h0 := (z87 p rest).1
 have et : (frm p ++ rest).take (p.length + 7) = frm p := by rw [<- hl, List.take_left]
 refine ⟨?_, ?_⟩
 ·unfold nxE
  rw [if_neg (by simp [frm]), if_neg (by rw [h0]; simp), if_neg (by rw [List.length_append]; omega), hs, if_neg (by omega), if_neg (by rw [List.length_append]; omega), et]
  rw [if_neg]
  show ¬ qit (qaz (hiB p.length :: loB p.length :: p)) = false
  rw [z4b]; simp
 ·unfold qop
  rw [hs]
  show ((197 :: (hiB p.length :: loB p.length :: p ++ z4e (qu1 (hiB p.length :: loB p.length :: p)))) ++ rest |>.take (p.length + 3)).drop 3 = p
  simp
theorem zix {p : List UInt8} (h : 1 <= p.length /\ p.length <= 65535) : opE (frm p) = none /\ qop (frm p) = p := by
 have := ziw h []
 rw [List.append_nil] at this
 have hs := zbk h.2 []
 rw [List.append_nil] at hs
 refine ⟨?_, this.2⟩
 unfold opE
 rw [this.1]
 simp only
 rw [hs, if_neg (by rw [qmo]; omega)]
def fill (x : UInt8) (j d : Nat) : List UInt8 := List.replicate j x ++ List.replicate d 0
end Go.Aw
namespace Go.Aw
open Go
open Go.Proofs.Tryz (prog)
set_option linter.all false
set_option maxHeartbeats 4000000
theorem ziy (x : W) : decide ((x.toNat : Int).tmod 2 = 1) = x.getLsbD 0 := by
 rw [Int.tmod_eq_emod_of_nonneg (by omega)]
 have : x.getLsbD 0 = decide (x.toNat % 2 = 1) := by
  rw [<- BitVec.testBit_toNat, Nat.testBit_zero]
 rw [this]
 congr 1
 apply propext
 omega
theorem zbl (x : W) : IntKind.u32.wrap ((x.toNat : Int).tdiv 2) = ((x >>> 1).toNat : Int) := by
 rw [Int.tdiv_eq_ediv_of_nonneg (by omega), BitVec.toNat_ushiftRight, Nat.shiftRight_eq_div_pow]
 have := x.isLt
 have e : ((x.toNat : Int) / 2) = ((x.toNat / 2 : Nat) : Int) := by omega
 rw [e, qb9 _ (by omega)]
theorem zee (x : W) : IntKind.u32.wrap ((BitVec.ofInt IntKind.u32.bits (x.toNat : Int) ^^^ BitVec.ofInt IntKind.u32.bits 3988292384).toNat : Int) = ((x ^^^ z2l).toNat : Int) := by
 rw [zev, show BitVec.ofInt IntKind.u32.bits 3988292384 = (z2l : W) from rfl]; exact qb9 _ (x ^^^ z2l).isLt
theorem zap {R : Y5} (hR : ExtR R) {T : Tab} {l n i : AV} (hl : l.plain = true /\ n.plain = true /\ i.plain = true) : ∀ (m k : Nat), k + m = 8 -> ∀ (x : W),
  R (.exit 2) [(0, wv (it m x)), (7, .i .i64 8), (9, l), (10, n), (11, i), (20, .b false)] [] T ->
  AW prog q8u R [(0, wv x), (7, .i .i64 k), (9, l), (10, n), (11, i)] [] T := by
 intro m
 induction m with
 | zero =>
  intro k hk x h2
  have : k = 8 := by omega
  subst this
  refine Q1 hR ?_
  unfold q7y
  obtain ⟨h3, h4, h5⟩ := hl
  simp -implicitDefEqProofs -dsimp only [go_sem, seval, show ((8 : Nat) : Int) = 8 from rfl, h3, h4, h5]
  exact h2
 | succ m ih =>
  intro k hk x h2
  have hk8 : (k : Int) < 8 := by omega
  have hws : IntKind.i64.wrap ((k : Int) + 1) = ((k + 1 : Nat) : Int) := N3 (by omega)
  refine N8 (l := q8u) rfl hR ?_
  unfold q7y
  have hl' := hl
  obtain ⟨h3, h4, h5⟩ := hl
  have hb1 := qw8 x
  rcases hb : x.getLsbD 0 with _ | _
  ·have ho := ziy x
   rw [hb] at ho hb1
   simp -implicitDefEqProofs -dsimp only [go_sem, seval, hk8, h3, h4, h5, hws, ho, zbl]
   have e : qr6 x = x >>> 1 := by rw [hb1]; simp
   rw [<- e]
   exact ih (k + 1) (by omega) (qr6 x) h2
  ·have ho := ziy x
   rw [hb] at ho hb1
   simp -implicitDefEqProofs -dsimp only [go_sem, seval, hk8, h3, h4, h5, hws, ho, zbl, zee]
   have e : qr6 x = x >>> 1 ^^^ z2l := by rw [hb1]; simp
   rw [<- e]
   exact ih (k + 1) (by omega) (qr6 x) h2
theorem zaq {R : Y5} (hR : ExtR R) {T : Tab} {l : List UInt8} {cap : Option Nat} (hl : l.length <= 1000000000) : ∀ (ys : List UInt8) (k : Nat), l.drop k = ys -> k <= l.length -> ∀ (x : W),
  R (.exit 0) [(0, wv (more x ys)), (9, bts l cap), (10, .i .i64 l.length), (11, .i .i64 l.length), (12, .b false)] [] T ->
  AW prog q8v R [(0, wv x), (9, bts l cap), (10, .i .i64 l.length), (11, .i .i64 k)] [] T := by
 intro ys
 induction ys with
 | nil =>
  intro k hk hle x h2
  have hk' := Q2 hk hle
  refine Q1 hR ?_
  unfold q7z
  simp -implicitDefEqProofs -dsimp only [go_sem, seval, hk', Int.lt_irrefl]
  rw [hk'] at h2
  exact h2
 | cons y ys ih =>
  intro k hk hle x h2
  obtain ⟨hlt, hy, hk'⟩ := U1 hk
  have hws : IntKind.i64.wrap ((k : Int) + 1) = ((k + 1 : Nat) : Int) := N3 (by omega)
  have hc := z16 hy
  refine N8 (l := q8v) rfl hR ?_
  unfold q7z
  simp -implicitDefEqProofs -dsimp only [go_sem, seval, Int.ofNat_lt, hlt, bts, Int.natCast_nonneg, Int.toNat_natCast, Nat.mul_one, hc, zib, zdk]
  refine zap (by repeat' (first | exact N2 _ _ | assumption | apply N1 | apply K8 | apply Q6)) ⟨rfl, rfl, rfl⟩ 8 0 rfl _ ?_
  simp -implicitDefEqProofs -dsimp only [go_sem, seval, hws]
  exact ih (k + 1) hk' hlt _ h2
theorem zar (x : W) (l : List UInt8) (cap : Option Nat) (hl : l.length <= 1000000000) : PCalls prog q5t [wv x, bts l cap] (wv (more x l)) := by
 refine K7 U4 qm6 (by simp) fun T => ?_
 unfold qdh
 simp -implicitDefEqProofs -dsimp only [go_sem, seval]
 refine zaq (l := l) (cap := cap) (by repeat' (first | exact N2 _ _ | assumption | apply N1 | apply K8 | apply Q6)) hl l 0 rfl (by omega) x ?_
 simp -implicitDefEqProofs -dsimp only [go_sem, seval]
 exact J9 rfl
theorem zmd (x : W) : IntKind.u32.wrap (4294967295 - (x.toNat : Int)) = ((~~~x).toNat : Int) := by
 have h := x.isLt
 rw [BitVec.toNat_not]
 have e : (4294967295 - (x.toNat : Int)) = ((4294967295 - x.toNat : Nat) : Int) := by omega
 rw [e, qb9 _ (by omega)]
theorem ziz (l : List UInt8) (cap : Option Nat) (hl : l.length <= 1000000000) : PCalls prog q86 [bts l cap] (wv (qu1 l)) := by
 have h := zar 4294967295#32 l cap hl
 have e : ((4294967295#32 : W).toNat : Int) = 4294967295 := rfl
 rw [wv, e] at h
 refine K7 U4 qp1 (by simp) fun T => ?_
 unfold qfd
 simp -implicitDefEqProofs -dsimp only [go_sem, seval, ↓J0 _ _ qm7]
 refine cpn h ?_
 simp -implicitDefEqProofs -dsimp only [go_sem, seval, zmd]
 exact J9 rfl
theorem znt (x : W) : IntKind.u8.wrap ((x.toNat : Int).tmod 256) = ((qa5 x 0).toNat : Int) := by
 rw [Int.tmod_eq_emod_of_nonneg (by omega)]
 simp only [IntKind.wrap, IntKind.signed, IntKind.bits, qa5]
 simp
theorem zmt (x : W) (k : Nat) (d : Nat) (hd : 256 ^ k = d) : IntKind.u8.wrap ((IntKind.u32.wrap ((x.toNat : Int).tdiv d)).tmod 256) = ((qa5 x k).toNat : Int) := by
 have h := x.isLt
 have h2 : x.toNat / d < 4294967296 := Nat.lt_of_le_of_lt (Nat.div_le_self _ _) h
 rw [Int.tdiv_eq_ediv_of_nonneg (by omega), <- Int.natCast_ediv, qb9 _ h2, Int.tmod_eq_emod_of_nonneg (Int.natCast_nonneg _)]
 simp only [IntKind.wrap, IntKind.signed, IntKind.bits, qa5, hd]
 simp
theorem znu (x : W) : IntKind.u8.wrap (IntKind.u32.wrap ((x.toNat : Int).tdiv 16777216)) = ((qa5 x 3).toNat : Int) := by
 have h := x.isLt
 have h2 : x.toNat / 16777216 < 256 := by omega
 rw [Int.tdiv_eq_ediv_of_nonneg (by omega), show ((x.toNat : Int) / 16777216) = ((x.toNat / 16777216 : Nat) : Int) from rfl, qb9 _ (by omega)]
 simp only [IntKind.wrap, IntKind.signed, IntKind.bits, qa5]
 simp
theorem zas (x : W) : PCalls prog q5r [wv x] (bts (z4e x) (some 4)) := by
 refine K7 U4 qlx (by simp) fun T => ?_
 have h1 : IntKind.u8.wrap ((IntKind.u32.wrap ((x.toNat : Int).tdiv 256)).tmod 256) = ((qa5 x 1).toNat : Int) := zmt x 1 256 rfl
 have h2 : IntKind.u8.wrap ((IntKind.u32.wrap ((x.toNat : Int).tdiv 65536)).tmod 256) = ((qa5 x 2).toNat : Int) := zmt x 2 65536 rfl
 unfold qde
 simp -implicitDefEqProofs -dsimp only [go_sem, seval, znt, h1, h2, znu]
 exact J9 rfl
theorem zme (n : Nat) (h : n <= 65535) : IntKind.u8.wrap (IntKind.i64.wrap ((n : Int).tdiv 256)) = ((hiB n).toNat : Int) := by
 rw [Int.tdiv_eq_ediv_of_nonneg (Int.natCast_nonneg _), show ((n : Int) / 256) = ((n / 256 : Nat) : Int) from rfl, q32 (by unfold I64; omega)]
 simp only [IntKind.wrap, IntKind.signed, IntKind.bits, hiB]
 simp
theorem zmf (n : Nat) : IntKind.u8.wrap ((n : Int).tmod 256) = ((loB n).toNat : Int) := by
 rw [Int.tmod_eq_emod_of_nonneg (Int.natCast_nonneg _)]
 simp only [IntKind.wrap, IntKind.signed, IntKind.bits, loB]
 simp
theorem zef (p : List UInt8) (cap : Option Nat) (h1 : 1 <= p.length) (hl : p.length <= 65535) : PCalls prog q78 [bts p cap] (bts (frm p) none) := by
 refine K7 U4 qnb (by simp) fun T => ?_
 unfold qe1
 simp -implicitDefEqProofs -dsimp only [go_sem, seval, zme _ hl, zmf]
 have hg : Gr T 1 (.fz 2 (K9 [hiB p.length, loB p.length]) (some 2)) 2 (K9 [hiB p.length, loB p.length]) T := .inr ⟨rfl, rfl, rfl⟩
 refine hg.app (m := p.length) (q8h _ _) rfl (by omega) (by omega) (by omega) fun v1 T1 ho => J1 ?_
 obtain ⟨p1, p2, p3, p4, p5, p6⟩ := ho.form
 simp -implicitDefEqProofs -dsimp only [go_sem, seval, p1, p2, p3, p4, p5, p6, ↓J0 _ _ qp2]
 rw [V4] at ho
 have eo : [hiB p.length, loB p.length] ++ p = hiB p.length :: loB p.length :: p := rfl
 rw [eo] at ho
 obtain ⟨q, hq⟩ : ∃ q, q = hiB p.length :: loB p.length :: p := ⟨_, rfl⟩
 rw [<- hq] at ho
 have hql : 2 + p.length = q.length := by rw [hq]; simp only [List.length_cons]; omega
 rw [hql] at ho
 refine CallK.borrow (Owns.one ho) (r := wv (qu1 q)) (fun S hS => ?_) .i (J1 ?_)
 ·obtain ⟨c, e⟩ := hS _ (List.mem_cons_self ..)
  simp only at e
  simp only [List.map_cons, List.map_nil, ho.frzv, e]
  exact ziz q c (by omega)
 simp -implicitDefEqProofs -dsimp only [go_sem, seval, p1, p2, p3, p4, p5, p6, ↓J0 _ _ qly]
 refine cpn (zas _) ?_
 simp -implicitDefEqProofs -dsimp only [go_sem, seval, p1, p2, p3, p4, p5, p6]
 refine ho.app (m := 4) (q8h _ _) rfl (by omega) (by omega) fun v2 T2 ho2 => J1 ?_
 rw [V4] at ho2
 obtain ⟨p1, p2, p3, p4, p5, p6⟩ := ho2.form
 simp -implicitDefEqProofs -dsimp only [go_sem, seval, p1, p2, p3, p4, p5, p6]
 have hg : Gr T2 1 (.fz 1 [.i .u8 197] (some 1)) 1 (K9 [197]) T2 := .inr ⟨rfl, rfl, rfl⟩
 have hsl := ho2.sl
 refine hg.app (m := q.length + 4) hsl.1 hsl.2 (by omega) (by omega) (by omega) fun v3 T3 ho3 => J1 ?_
 obtain ⟨p1, p2, p3, p4, p5, p6⟩ := ho3.form
 simp -implicitDefEqProofs -dsimp only [go_sem, seval, p1, p2, p3, p4, p5, p6]
 have how : Owns T [⟨1, v3, 1 + (q.length + 4), K9 [197] ++ K9 (q ++ z4e (qu1 q))⟩, ⟨1, v2, q.length + 4, K9 (q ++ z4e (qu1 q))⟩] T3 := ⟨T2, Owns.one ho2, ho3⟩
 refine q1e how fun S hS => ?_
 obtain ⟨c, e⟩ := hS _ (List.mem_cons_self ..)
 simp only at e
 have hv : qoq T3 S v3 = qiy T3 S v3 := by
  rcases ho3.2 with ⟨rfl, _⟩ | ⟨id, rfl, _⟩ <;> rfl
 rw [hv, e, V4, show 1 + (q.length + 4) = (frm p).length by rw [qmo]; omega, show [197] ++ (q ++ z4e (qu1 q)) = frm p by rw [frm, qaz, <- hq]; rfl]
 exact .fz
end Go.Aw
