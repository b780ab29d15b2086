import Derived.Test.YtmicojcojlgefaaGreatZ29C29N
import Derived.Test.YtmicojcojlgefaaGreatZ29M17Arg
import Derived.Test.YtmicojcojlgefaaGreatZ29C29R
import Derived.Test.YtmicojcojlgefaaGreatAwD
import Derived.Test.YtmicojcojlgefaaGreatZ29R28Z
namespace Go.Aw
open Go
open Go.Proofs.Tryz (prog)
set_option linter.all false
set_option maxHeartbeats 8000000
set_option maxRecDepth 8000
structure Ev where
 k : Int
 o : Cp
 l : Lt Rf
def evC (e : Ev) : List AV := [.i .i64 e.k, .i .i64 e.o.k, .s e.o.key, .s e.o.v, .fz e.o.rs.length (e.o.rs.flatMap rdC) none, .fz e.o.ws.length (e.o.ws.flatMap wtC) none] ++ e.l.cells rfL
structure Ev.Arg (e : Ev) : Prop where
 o : e.o.Wide
 l : e.l.Arg
end Go.Aw
namespace Go.Aw
open Go
open Go.Proofs.Tryz (prog)
set_option linter.all false
set_option maxHeartbeats 8000000
set_option maxRecDepth 8000
theorem Rf.ours_len (c : Rf) : c.ours.ch.length <= 10 /\ c.ours.fu.length = c.ours.ch.length := by
 simp [Rf.ours, qu7, qu8]; omega
theorem qn6 {n m : Nat} (h : n <= m) (hm : m < 9223372036854775808 := by decide) : Len n := by unfold Len; omega
theorem Lt.Arg.fine {l : Lt Rf} (h : l.Arg) : l.ours.Fine := by
 obtain ⟨w1, w2, w3, w4, w5, w6, w7, w8⟩ := h.wide
 refine ⟨by simp [Lt.ours]; omega, by simp [Lt.ours]; omega, by simp [Lt.ours]; omega, fun v hv => w4 v (List.mem_of_mem_take hv), fun c hc => ?_, fun e he => ?_, w7.our, w8⟩
 ·obtain ⟨r, hr, rfl⟩ := List.mem_map.1 hc
  have := r.ours_len
  exact ⟨by omega, this.2⟩
 ·obtain ⟨r, hr, rfl⟩ := List.mem_map.1 he
  exact (w6 r (List.mem_of_mem_take hr)).our
theorem Lt.Fine.small {l : Lt Cf} (h : l.Fine) : l.Small := by
 obtain ⟨w1, w2, w3, w4, w5, w6, w7, w8⟩ := h
 exact ⟨qn6 w1, qn6 w2, qn6 w3, qn6 (Nat.le_of_lt w7.r), qn6 (Nat.le_of_lt w7.w), fun c hc => ⟨qn6 (w5 c hc).1, by rw [(w5 c hc).2]; exact qn6 (w5 c hc).1⟩, fun e he => w6 e he⟩
theorem Lt.Arg.confs {l : Lt Rf} (h : l.Arg) : ∀ c ∈ l.ours.cs, _root_.Go.Aw.q6r c /\ 0 <= c.ep := fun c hc => by
 have h1 := h.fine.cl c hc
 obtain ⟨r, hr, rfl⟩ := List.mem_map.1 hc
 exact ⟨⟨by omega, by omega⟩, (h.cs r (List.mem_of_mem_take hr)).ep.1⟩
theorem Ct.mono {T T1 : Tab} {id r l w x : Nat} {c : Cl} (h : Ct T id r l w x c) (hm : ∀ j, T j ≠ .unused -> T1 j = T j) : Ct T1 id r l w x c := by
 refine ⟨?_, ⟨?_, ?_⟩, ?_, ?_⟩
 ·rw [hm id (by rw [h.cr]; simp [qb3])]; exact h.cr
 ·rw [hm r (by rw [h.rt.1]; simp)]; exact h.rt.1
 ·rw [hm l (by rw [h.rt.2]; simp)]; exact h.rt.2
 ·intro o ho
  rw [hm w (by rw [h.cw o ho]; simp [qx7])]; exact h.cw o ho
 ·intro y hy
  obtain ⟨h1, h2⟩ := h.cy y hy
  exact ⟨by rw [hm x (by rw [h1]; simp [qyu])]; exact h1, h2⟩
end Go.Aw
namespace Go.Aw
open Go
open Go.Proofs.Tryz (prog)
set_option linter.all false
set_option maxHeartbeats 8000000
set_option maxRecDepth 8000
end Go.Aw
namespace Go.Aw
open Go
open Go.Proofs.Tryz (prog)
set_option linter.all false
set_option maxHeartbeats 8000000
abbrev ze9 : Ty := .st [.int .i64, .str, .str, .sl (.st [.str, .int .u64]), .sl (.st [.str, .str, .bool])]
abbrev qqn : Ty := .st [.int .i64, ze9, qxg]
structure Cp.Arg (o : Cp) : Prop where
 w : o.Wide
 r : ∀ r ∈ o.rs, U64 r.n
theorem zan {p : List AV} (h : q9x ze9 p) : ∃ o : Cp, Wks p o.cells /\ o.Arg := by
 simp only [q9x] at h
 unfold q2j at h; obtain ⟨p1, r1, rfl, h1, h⟩ := h
 unfold q2j at h; obtain ⟨p2, r2, rfl, h2, h⟩ := h
 unfold q2j at h; obtain ⟨p3, r3, rfl, h3, h⟩ := h
 unfold q2j at h; obtain ⟨p4, r4, rfl, h4, h⟩ := h
 unfold q2j at h; obtain ⟨p5, r5, rfl, h5, h⟩ := h
 unfold q2j at h; subst h
 obtain ⟨rs, k1, rfl, hr, hro⟩ := qc6 (fun p hp => z51 hp) h4
 obtain ⟨ws, k2, rfl, hw, hwo⟩ := qc6 (fun p hp => z52 hp) h5
 simp only [q9x, q2j] at h1 h2 h3
 obtain ⟨k, rfl, hk⟩ := h1
 obtain ⟨key, rfl, hkey⟩ := h2
 obtain ⟨v, rfl, hv⟩ := h3
 exact ⟨⟨k, key, v, rs, ws⟩, ⟨.refl _, .refl _, .refl _, .fz, .fz, trivial⟩, ⟨qak hkey, qak hv, ⟨hr, hw, fun r h => (hro r h).1, fun r h => (hwo r h).1, fun r h => (hwo r h).2⟩⟩, fun r h => (hro r h).2⟩
theorem z1x {p : List AV} (h : q9x qqn p) : ∃ e : Ev, Wks p (evC e) /\ e.o.Arg /\ e.l.Arg := by
 simp only [q9x] at h
 unfold q2j at h; obtain ⟨p1, r1, rfl, h1, h⟩ := h
 unfold q2j at h; obtain ⟨p2, r2, rfl, h2, h⟩ := h
 unfold q2j at h; obtain ⟨p3, r3, rfl, h3, h⟩ := h
 unfold q2j at h; subst h
 obtain ⟨o, ho, ho2⟩ := zan h2
 obtain ⟨l, hl, hl2⟩ := qym h3
 simp only [q9x, q2j] at h1
 obtain ⟨k, rfl, hk⟩ := h1
 refine ⟨⟨k, o, l⟩, ?_, ho2, hl2⟩
 rw [List.append_nil]
 exact ⟨.refl _, ho.append hl⟩
end Go.Aw
namespace Go.Aw
open Go
open Go.Proofs.Tryz (prog)
set_option linter.all false
set_option maxHeartbeats 8000000
set_option maxRecDepth 8000
theorem zao {me ma : Int} {S L : Nat} {v : Int} (h : cOk me ma S L v = true) : (cl0 me ma S L).At me ma 0 := by
 simp only [cOk, Bool.and_eq_true, decide_eq_true_eq] at h
 obtain ⟨⟨⟨⟨h1, h2⟩, h3⟩, h4⟩, h5⟩ := h
 exact ⟨rfl, rfl, ⟨⟨h1, h2⟩, ⟨h3, h4⟩, (show (0 : Nat) < 18446744073709551616 by decide), qt2 h5, fun _ h => by cases h⟩, Nat.le_refl _, fun _ h => by cases h⟩
end Go.Aw
namespace Go.Aw
open Go
open Go.Proofs.Tryz (prog)
set_option linter.all false
set_option maxHeartbeats 4000000
abbrev ze1 : Ty := .st [.int .i64, .int .i64, .int .i64]
theorem z47 {a : AV} (h : qvk ze1 a) : ∃ s l v : Int, a = .agg (stC s l v) := by
 obtain ⟨cells, rfl, h⟩ := h
 simp only [q2j, q9x] at h
 obtain ⟨_, _, rfl, ⟨s, rfl, _⟩, _, _, rfl, ⟨l, rfl, _⟩, _, _, rfl, ⟨v, rfl, _⟩, rfl⟩ := h
 exact ⟨s, l, v, rfl⟩
theorem zap {a : AV} (h : qvk (.sl qqn) a) : ∃ es : List Ev, Wk a (.fz es.length (es.flatMap evC) none) /\ Len es.length /\ ∀ e ∈ es, e.Arg := by
 obtain ⟨xs, cap, rfl, hl, _⟩ := z0c (α := { p : List AV // q9x qqn p }) (cells := Subtype.val) (ok := fun _ => True) (fun p hp => ⟨⟨p, hp⟩, rfl, trivial⟩) h
 refine ⟨xs.map fun x => Classical.choose (z1x x.2), ?_, by rw [List.length_map]; exact hl, fun e he => ?_⟩
 ·rw [List.length_map, List.flatMap_map]
  exact Wk.fzs (Wks.flatMap fun x _ => (Classical.choose_spec (z1x x.2)).1)
 ·obtain ⟨x, _, rfl⟩ := List.mem_map.1 he
  have h := (Classical.choose_spec (z1x x.2)).2
  exact ⟨h.1.w, h.2⟩
end Go.Aw
namespace Go.Aw
open Go
open Go.Proofs.Tryz (prog)
set_option linter.all false
set_option maxHeartbeats 8000000
set_option maxRecDepth 8000
structure Rc where
 me : Int
 ma : Int
 rt : Nat
 sq : Nat
 wt : Bool
 o : Cp
 k1 : Option Nat
 k2 : Option Nat
 tr : Int
 la : Cr
 had : Bool
def Rc.row (c : Rc) : Slot := .row 18 [.i .i64 c.me, .i .i64 c.ma, .ptr c.rt 0, .i .u64 c.sq, .b c.wt, .i .i64 c.o.k, .s c.o.key, .s c.o.v, .fz c.o.rs.length (c.o.rs.flatMap rdC) c.k1, .fz c.o.ws.length (c.o.ws.flatMap wtC) c.k2, .i .i64 c.tr, .i .i64 c.la.cl, .i .u64 c.la.sq, .i .i64 c.la.n, .i .i64 c.la.co, .s c.la.v, .i .u64 c.la.q, .b c.had]
theorem qxh {T : Tab} {id : Nat} {c : Rc} (h : T id = c.row) : ACalls prog Y7 [.ptr id 0] T (fun v T' => v = .agg [.i .i64 c.me, .i .u64 c.sq] /\ T' = T) := by
 refine U9 Q7 qfc (by simp) ?_
 simp only [Rc.row] at h
 unfold q9o
 simp -implicitDefEqProofs -dsimp only [go_sem, seval, h]
 exact V1 _ (fun _ => .inr (.inl rfl)) ⟨rfl, rfl⟩
def quv (n : Int) : Int := if n < 0 then 0 else if 99 < n then 0 else n
def qs0 (me : Int) (sq : Nat) (l : Lt Rf) : Lt Rf := ⟨2, 1, 3, me, 21, 0, 0, 3, 0, 0, false, 0, 0, [], [], [], zT, me, sq, l.v.take 64, l.q, quv l.co⟩
theorem z1y {T : Tab} {id : Nat} {c : Rc} (h : T id = c.row) (l : Lt Rf) (hl : Len l.v.length) : ACalls prog q20 [.ptr id 0, .agg (l.cells rfL)] T (fun v T' => v = .agg ((qs0 c.me c.sq l).cells rfL) /\ T' = T) := by
 refine U9 Q7 qhg (by simp) ?_
 have hI := qxh h
 have hT := h
 simp only [Rc.row] at hT
 have hv : (decide ((64 : Int) < (l.v.length : Int)) = true /\ (64 <= l.v.length) = True /\ l.v.take 64 = l.v.take 64) \/ (decide ((64 : Int) < (l.v.length : Int)) = false /\ (64 <= l.v.length) = (64 <= l.v.length) /\ l.v.take 64 = l.v) := by
  by_cases h : 64 < l.v.length
  ·exact .inl ⟨decide_eq_true (by omega), eq_true (by omega), rfl⟩
  ·exact .inr ⟨decide_eq_false (by omega), rfl, List.take_of_length_le (by omega)⟩
 have hc : (decide (l.co < 0) = true /\ decide (99 < l.co) = decide (99 < l.co) /\ quv l.co = 0) \/ (decide (l.co < 0) = false /\ decide (99 < l.co) = true /\ quv l.co = 0) \/ (decide (l.co < 0) = false /\ decide (99 < l.co) = false /\ quv l.co = l.co) := by
  unfold quv
  by_cases h1 : l.co < 0
  ·exact .inl ⟨decide_eq_true h1, rfl, if_pos h1⟩
  by_cases h2 : 99 < l.co
  ·exact .inr (.inl ⟨decide_eq_false h1, decide_eq_true h2, by rw [if_neg h1, if_pos h2]⟩)
  ·exact .inr (.inr ⟨decide_eq_false h1, decide_eq_false h2, by rw [if_neg h1, if_neg h2]⟩)
 unfold qau
 rcases hv with ⟨hv, hv2, hv3⟩ | ⟨hv, hv2, hv3⟩ <;> rcases hc with ⟨hc, hc3, hc2⟩ | ⟨hc, hc3, hc2⟩ | ⟨hc, hc3, hc2⟩
 all_goals
  simp -implicitDefEqProofs -dsimp only [go_sem, seval, Lt.cells, hv, hv2, hc, hc3, hT, ↓N1, U6, true_and, ↓J0 _ _ q07]
  refine CallK.as hI (qk4 (fun _ => ?_) ?_)
  ·simp -implicitDefEqProofs -dsimp only [go_sem, seval, hT, U6, qdk, gdd]
  simp -implicitDefEqProofs -dsimp only [go_sem, seval, hT]
  refine qn5 (r' := .agg ((qs0 c.me c.sq l).cells rfL)) ?_ ⟨rfl, rfl⟩
  unfold qs0
  rw [hc2, hv3]
  exact Wk.agg (m := _) ⟨.refl _, .refl _, .refl _, .refl _, .refl _, .refl _, .refl _, .refl _, .refl _, .refl _, .refl _, .refl _, .refl _, .fz, .fz, .fz, .refl _, .refl _, .refl _, .fz, .fz, .refl _, .refl _, .refl _, .refl _, .refl _, trivial⟩
end Go.Aw
namespace Go.Aw
open Go
open Go.Proofs.Tryz (prog)
set_option linter.all false
set_option maxHeartbeats 8000000
set_option maxRecDepth 8000
theorem Ct.mono18 {T T1 : Tab} {id r l w x : Nat} {c : Cl} (h : Ct T id r l w x c) (hm : ∀ j, T j ≠ .unused -> (∀ xs, T j ≠ .row 18 xs) -> T1 j = T j) : Ct T1 id r l w x c := by
 refine ⟨?_, ⟨?_, ?_⟩, ?_, ?_⟩
 ·rw [hm id (by rw [h.cr]; simp [qb3]) (by rw [h.cr]; simp [qb3])]; exact h.cr
 ·rw [hm r (by rw [h.rt.1]; simp) (by rw [h.rt.1]; simp)]; exact h.rt.1
 ·rw [hm l (by rw [h.rt.2]; simp) (by rw [h.rt.2]; simp)]; exact h.rt.2
 ·intro o ho
  rw [hm w (by rw [h.cw o ho]; simp [qx7]) (by rw [h.cw o ho]; simp [qx7])]; exact h.cw o ho
 ·intro y hy
  obtain ⟨h1, h2⟩ := h.cy y hy
  exact ⟨by rw [hm x (by rw [h1]; simp [qyu]) (by rw [h1]; simp [qyu])]; exact h1, h2⟩
theorem Ct.put18 {T : Tab} {id r l w x j : Nat} {c : Cl} {ys zs : List AV} (h : Ct T id r l w x c) (hj : T j = .row 18 ys) : Ct (T.put j (.row 18 zs)) id r l w x c :=
 h.mono18 fun i _ h2 => Tab.put_ne _ _ fun e => by subst e; exact h2 _ hj
end Go.Aw
