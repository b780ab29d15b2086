import Derived.Test.YteiamcnjlpbihaaGreatDoorQ17P
namespace Go.Aw
open Go
open Go.Proofs.Tryz (prog)
set_option linter.all false
set_option maxHeartbeats 8000000
set_option maxRecDepth 8000
theorem z29 {s : RS} (hb : (qm6 s).2.2 = false) (ho : qh1 (qm6 s).1.2 = true) : s.2 = false /\ s.1 = enc (qm6 s).1.1.toNat ++ enc (qm6 s).1.2.toNat ++ (qm6 s).2.1 := by
 unfold qm6 at hb ho ⊢
 simp only at hb ho ⊢
 rw [if_neg (by rw [hb]; decide)] at ho ⊢
 simp only at ho ⊢
 obtain ⟨h1, h2, _⟩ := V6 hb
 obtain ⟨h3, h4, _⟩ := V6 h1
 by_cases h5 : (K2 5 (K2 18446744073709551615 s).2).1 = 5
 ·rw [if_pos h5] at ho; exact absurd ho (by decide)
 ·rw [if_neg h5, Int.toNat_natCast, Int.toNat_natCast]
  refine ⟨h3, ?_⟩
  rw [List.append_assoc, <- h2, <- h4]
theorem zdm {s : RS} (hb : (rVt s).2.2 = false) (ho : qz3 (rVt s).1 = true) : s.2 = false /\ s.1 = qz4 (rVt s).1 ++ (rVt s).2.1 := by
 unfold rVt at hb ho ⊢
 simp only at hb ho ⊢
 obtain ⟨h1, h2⟩ := qew hb
 have hba : qh1 (qm6 (K2 1048576 s).2).1.2 = true := by
  simp only [qz3, Bool.and_eq_true] at ho
  exact ho.2.1
 obtain ⟨h3, h4⟩ := z29 h1 hba
 obtain ⟨h5, h6, _⟩ := V6 h3
 refine ⟨h5, ?_⟩
 simp only [qz4, q76, Int.toNat_natCast]
 conv => lhs; rw [h6, h4, h2]
 simp only [List.append_assoc]
theorem zdn {s : RS} (hb : (rCo s).2.2 = false) (ho : (rCo s).1.right = true) : s.2 = false /\ s.1 = zhp (rCo s).1 ++ (rCo s).2.1 := by
 unfold rCo at hb ho ⊢
 simp only at hb ho ⊢
 unfold qsf at ho ⊢
 by_cases hk : qtr s = true
 ·rw [if_pos hk] at ho ⊢
  obtain ⟨h1, h2⟩ := zcu hb
  exact ⟨h1, h2⟩
 ·rw [if_neg hk] at ho
  exact absurd ho (by decide)
theorem zdo {s : RS} (hb : (rEy s).2.2 = false) (ho : qeo (rEy s).1 = true) : s.2 = false /\ s.1 = z13 (rEy s).1 ++ (rEy s).2.1 := by
 unfold rEy at hb ho ⊢
 simp only at hb ho ⊢
 unfold qan at ho ⊢
 by_cases hk : qce ((q2f 2048 s).1, false) = true
 ·rw [if_pos hk] at ho ⊢
  obtain ⟨h1, h2⟩ := qew hb
  obtain ⟨_, h4⟩ := zcy hk
  refine ⟨h1, ?_⟩
  rw [z13, q76, <- h4]
  exact h2
 ·rw [if_neg hk] at ho
  exact absurd ho (by decide)
theorem rList_inv' {α : Type} {f : RS -> α × RS} {g : α -> List UInt8} {ok : α -> Prop} (hf : ∀ s, (f s).2.2 = false -> ok (f s).1 -> s.2 = false /\ s.1 = g (f s).1 ++ (f s).2.1) : ∀ (n : Nat) (s : RS), (Y5 f n s).2.2 = false -> (∀ x ∈ (Y5 f n s).1, ok x) -> s.2 = false /\ s.1 = (Y5 f n s).1.flatMap g ++ (Y5 f n s).2.1 /\ (Y5 f n s).1.length = n
 | 0, s, h, _ => ⟨h, rfl, rfl⟩
 | n + 1, s, h, ho => by
  simp only [Y5] at h ho ⊢
  split at h
  ·rename_i hb; rw [hb] at h; cases h
  ·rename_i hb
   rw [if_neg hb] at ho ⊢
   simp only at ho
   obtain ⟨h1, h2, h3⟩ := rList_inv' hf n _ h fun x hx => ho x (List.mem_cons_of_mem _ hx)
   obtain ⟨h4, h5⟩ := hf s h1 (ho _ (List.mem_cons_self ..))
   refine ⟨h4, ?_, by simp [h3]⟩
   rw [h5, h2]
   simp
theorem z19 {α : Type} {f : RS -> α × RS} {g : α -> List UInt8} {ok : α -> Prop} (hf : ∀ s, (f s).2.2 = false -> ok (f s).1 -> s.2 = false /\ s.1 = g (f s).1 ++ (f s).2.1) {k : Nat} {s : RS} (hb : (rLs k f s).2.2 = false) (ho : ∀ x ∈ (rLs k f s).1, ok x) :
  s.2 = false /\ s.1 = enc (rLs k f s).1.length ++ (rLs k f s).1.flatMap g ++ (rLs k f s).2.1 := by
 unfold rLs at hb ho ⊢
 obtain ⟨h1, h2, h3⟩ := rList_inv' hf _ _ hb ho
 obtain ⟨h4, h5, _⟩ := V6 h1
 refine ⟨h4, ?_⟩
 rw [h3, List.append_assoc, <- h2]
 exact h5
theorem z2a {α : Type} {p : α -> Bool} {l : List α} (h : (!(l.any fun x => !p x)) = true) : ∀ x ∈ l, p x = true := fun x hx => by
 simp only [Bool.not_eq_true', List.any_eq_false] at h
 have := h x hx
 simpa using this
theorem zdp {o : Lt Cf} {c : Int} {s : RS} (hc : Sg c) (hb : (rdS o c s).2.2 = false) (hm : maF (rdS o c s).1 c = true) (hbr : z7f o c) : s.2 = false /\ s.1 = enS (rdS o c s).1 c ++ (rdS o c s).2.1 := by
 obtain ⟨b1, b2, b3⟩ := hbr
 rcases hc with rfl | rfl | rfl | rfl | rfl | rfl | rfl | rfl | rfl | rfl | rfl | rfl | rfl | rfl | rfl
 ·rw [qsg] at hb ⊢; rw [qw4, Int.toNat_natCast]; have := V6 hb; exact ⟨this.1, this.2.1⟩
 ·rw [qsh] at hb ⊢; rw [qw5, Int.toNat_natCast]; have := V6 hb; exact ⟨this.1, this.2.1⟩
 ·rw [qsi] at hb ⊢; rw [qw6, Int.toNat_natCast]; have := V6 hb; exact ⟨this.1, this.2.1⟩
 ·rw [qsj] at hb ⊢; rw [qw7, Int.toNat_natCast]; have := V6 hb; exact ⟨this.1, this.2.1⟩
 ·rw [qsk] at hb ⊢; rw [qw8, Int.toNat_natCast]; have := V6 hb; exact ⟨this.1, this.2.1⟩
 ·rw [qsl] at hb ⊢; rw [qw9]; have := V6 hb
  refine ⟨this.1, ?_⟩
  have hle := q1d 1 s
  have e : (if decide ((K2 1 s).1 = 1) = true then 1 else 0) = (K2 1 s).1 := by
   by_cases h : (K2 1 s).1 = 1
   ·rw [h]; rfl
   ·have h0 : (K2 1 s).1 = 0 := by omega
    rw [h0]; rfl
  simp only [e]
  exact this.2.1
 ·rw [qyt] at hb hm ⊢; rw [z25]; exact z29 hb hm
 ·rw [qsm] at hb hm ⊢
  simp only [b1 rfl, List.nil_append] at hb hm ⊢
  rw [z14]
  have h2 := hm
  change q9p (rLs 400 rVt s).1 = true at h2
  simp only [q9p, Bool.and_eq_true] at h2
  exact z19 (fun s => zdm) hb (z2a h2.2)
 ·rw [qyu] at hb hm ⊢
  simp only [b2 rfl, List.nil_append] at hb hm ⊢
  rw [z77]
  have h2 := hm
  change q9q (rLs 4 rCo s).1 = true at h2
  simp only [q9q, Bool.and_eq_true] at h2
  exact z19 (fun s => zdn) hb (z2a h2.2)
 ·rw [qsn] at hb hm ⊢
  simp only [b3 rfl, List.nil_append] at hb hm ⊢
  rw [z15]
  have h2 := hm
  change q9r (rLs 8 rEy s).1 = true at h2
  simp only [q9r, Bool.and_eq_true] at h2
  exact z19 (fun s => zdo) hb (z2a h2.2)
 ·rw [qso] at hb hm ⊢; rw [qwa]
  have h2 : qqi (q3e s).1 = true := hm
  simp only
  unfold q3e at h2 ⊢
  by_cases hk : qqb s = true
  ·rw [if_pos hk]; exact z6i hb
  ·rw [if_neg hk] at h2; exact absurd h2 (by decide)
 ·rw [qsp] at hb ⊢; rw [qwb]
  unfold rID at hb ⊢
  simp only [Int.toNat_natCast] at hb ⊢
  obtain ⟨h1, h2, _⟩ := V6 hb
  obtain ⟨h3, h4, _⟩ := V6 h1
  exact ⟨h3, by rw [List.append_assoc, <- h2]; exact h4⟩
 ·rw [qsq] at hb ⊢; rw [qwc, q76]; exact qew hb
 ·rw [qsr] at hb ⊢; rw [qwd, Int.toNat_natCast]; have := V6 hb; exact ⟨this.1, this.2.1⟩
 ·rw [qss] at hb ⊢; rw [qwe, Int.toNat_natCast]; have := V6 hb; exact ⟨this.1, this.2.1⟩
def rdL : Bs -> Lt Cf × RS -> Lt Cf × RS
 | [], p => p
 | c :: cs, p => rdL cs (rdS p.1 c.toNat p.2)
theorem z7j {c d : UInt8} (h : c ≠ d) : (c.toNat : Int) ≠ d.toNat := fun e => h (UInt8.toNat_inj.1 (by omega))
theorem qyy {c : UInt8} (h : sgB c = true) : Sg c.toNat := z27 c h
theorem z2b {c : UInt8} : ∀ (us : Bs) (p : Lt Cf × RS), us.all sgB = true -> c ∉ us -> maF (rdL us p).1 c.toNat = maF p.1 c.toNat /\ enS (rdL us p).1 c.toNat = enS p.1 c.toNat
 | [], p, _, _ => ⟨rfl, rfl⟩
 | d :: us, p, h1, h2 => by
  simp only [List.all_cons, Bool.and_eq_true] at h1
  simp only [List.mem_cons, not_or] at h2
  have hs := qyy h1.1
  have ih := z2b us (rdS p.1 d.toNat p.2) h1.2 h2.2
  obtain ⟨x, hx⟩ := qyx p.1 hs p.2
  rw [hx, zle hs (z7j h2.1), zld hs (z7j h2.1)] at ih
  exact ih
theorem zb2 : ∀ (us : Bs) (p : Lt Cf × RS), us.all sgB = true -> (rdL us p).1.hd = p.1.hd
 | [], p, _ => rfl
 | d :: us, p, h1 => by
  simp only [List.all_cons, Bool.and_eq_true] at h1
  have hs := qyy h1.1
  have ih := zb2 us (rdS p.1 d.toNat p.2) h1.2
  obtain ⟨x, hx⟩ := qyx p.1 hs p.2
  rw [hx, zlf hs] at ih
  exact ih
theorem z7k : ∀ (us : Bs) (o : Lt Cf) (s : RS), us.all sgB = true -> us.Nodup -> (∀ c ∈ us, z7f o c.toNat) -> (rdL us (o, s)).2.2 = false -> (us.all fun c => maF (rdL us (o, s)).1 c.toNat) = true -> s.2 = false /\ s.1 = (us.flatMap fun c => enS (rdL us (o, s)).1 c.toNat) ++ (rdL us (o, s)).2.1
 | [], o, s, _, _, _, h, _ => ⟨h, rfl⟩
 | c :: us, o, s, h1, h2, h3, h4, h5 => by
  simp only [List.all_cons, Bool.and_eq_true] at h1
  obtain ⟨h6, h7⟩ := List.nodup_cons.1 h2
  have hs := qyy h1.1
  simp only [rdL] at h4 h5 ⊢
  obtain ⟨x, hx⟩ := qyx o hs s
  have hk := z2b us (rdS o c.toNat s) h1.2 h6
  simp only [List.all_cons, Bool.and_eq_true] at h5
  have hbr : ∀ d ∈ us, z7f (rdS o c.toNat s).1 d.toNat := fun d hd => by
   rw [hx]; exact z18 hs (z7j fun e => h6 (e ▸ hd)) (h3 d (List.mem_cons_of_mem _ hd))
  obtain ⟨i1, i2⟩ := z7k us (rdS o c.toNat s).1 (rdS o c.toNat s).2 h1.2 h7 hbr h4 h5.2
  rw [hk.1] at h5
  obtain ⟨j1, j2⟩ := zdp hs i1 h5.1 (h3 c (List.mem_cons_self ..))
  refine ⟨j1, ?_⟩
  rw [List.flatMap_cons, hk.2, List.append_assoc, <- i2]
  exact j2
def zL : Lt Cf := ⟨0, 0, 0, 0, 0, 0, 0, 0, 0, 0, false, 0, 0, [], [], [], zT, 0, 0, [], 0, 0⟩
def rHd (s : RS) : Lt Cf × RS :=
 let a := K2 3 s
 let b := K2 8 a.2
 let c := K2 3 b.2
 let d := K2 8 c.2
 let k := K2 21 d.2
 ({ zL with fk := a.1, fn := b.1, tk := c.1, tn := d.1, k := k.1 }, k.2)
def rLt (s : RS) : Lt Cf × RS := rdL (q6c (rHd s).1.k) (rHd s)
def lOk (s : RS) : Bool := (!(rLt s).2.2 && decide ((rLt s).2.1 = [])) && lrF (rLt s).1
theorem qt6 (k : Int) : (q6c k).Nodup := by
 rcases kinds k with (rfl | rfl | rfl | rfl | rfl | rfl | rfl | rfl | rfl | rfl | rfl | rfl | rfl | rfl | rfl | rfl | rfl | rfl | rfl | rfl | rfl) | h
 any_goals (decide +kernel)
 rw [z67 h]
 exact List.nodup_nil
theorem z1a {o : Lt Cf} (h1 : o.vs = []) (h2 : o.cs = []) (h3 : o.es = []) (c : Int) : z7f o c := ⟨fun _ => h1, fun _ => h2, fun _ => h3⟩
theorem zdq {s : RS} (h : (rHd s).2.2 = false) : s.2 = false /\ s.1 = enc (rHd s).1.fk.toNat ++ enc (rHd s).1.fn.toNat ++ enc (rHd s).1.tk.toNat ++ enc (rHd s).1.tn.toNat ++ enc (rHd s).1.k.toNat ++ (rHd s).2.1 := by
 unfold rHd at h ⊢
 simp only [Int.toNat_natCast] at h ⊢
 obtain ⟨a1, a2, _⟩ := V6 h
 obtain ⟨b1, b2, _⟩ := V6 a1
 obtain ⟨c1, c2, _⟩ := V6 b1
 obtain ⟨d1, d2, _⟩ := V6 c1
 obtain ⟨e1, e2, _⟩ := V6 d1
 refine ⟨e1, ?_⟩
 simp only [List.append_assoc]
 rw [<- a2, <- b2, <- c2, <- d2]
 exact e2
theorem zdr {b : Bs} (h : lOk (b, false) = true) : b = qhe (rLt (b, false)).1 := by
 simp only [lOk, Bool.and_eq_true, Bool.not_eq_true', decide_eq_true_eq] at h
 obtain ⟨⟨h1, h2⟩, h3⟩ := h
 obtain ⟨k1, k2, k3, k4, k5⟩ := qj7 h3
 have hh : (rLt (b, false)).1.hd = (rHd (b, false)).1.hd := zb2 _ _ (qil _).1
 simp only [Lt.hd, List.cons.injEq, and_true] at hh
 obtain ⟨e1, e2, e3, e4, e5⟩ := hh
 rw [e5] at k5
 have hl := z7k (q6c (rHd (b, false)).1.k) (rHd (b, false)).1 (rHd (b, false)).2 (qil _).1 (qt6 _) (fun c _ => z1a rfl rfl rfl _) h1 k5
 obtain ⟨i1, i2⟩ := zdq hl.1
 have hn : (rdL (q6c (rHd (b, false)).1.k) ((rHd (b, false)).1, (rHd (b, false)).2)).2.1 = [] := h2
 rw [hn, List.append_nil] at hl
 unfold qhe
 rw [e1, e2, e3, e4, e5]
 rw [hl.2] at i2
 exact i2
end Go.Aw
