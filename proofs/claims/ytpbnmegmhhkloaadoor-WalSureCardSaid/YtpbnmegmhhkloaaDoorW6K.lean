import Derived.Test.YtpbnmegmhhkloaaDoorW6J
namespace Go.Aw
open Go
open Go.Proofs.Tryd (prog)
set_option linter.all false
set_option maxHeartbeats 8000000
set_option maxRecDepth 8000
theorem qmt {d : Dk} (h : Un d) (hf : (10 : Int) + d.a1.b.length <= d.room) : (N9 d).2.1.length <= 1048576 := by
 obtain ⟨w, h1, h2, h3, h4, h5, h6, h7, h8, h9, h10, h11, h12, h13⟩ := q7o h hf
 obtain ⟨rs, rest, x, e, q1, q2, q3, q4⟩ := qfr (((N9 d).2.2).get (N9 d).1.k).b
 have hb : (((N9 d).2.2).get (N9 d).1.k).b.length <= 1048576 := by
  have r1 := h1.ok.r1
  have r2 := h1.ok.fits
  rcases h2 with e | e <;> rw [e]
  ·show ((N9 d).2.2).a0.b.length <= _; omega
  ·show ((N9 d).2.2).a1.b.length <= _; omega
 have hc := qfw ((((N9 d).2.2).get (N9 d).1.k).b.length + 1) 0 _ (Nat.lt_succ_self _)
 have hr := qkj (((N9 d).2.2).get (N9 d).1.k).b
 rw [h4] at hr
 unfold qpc at hr
 rw [<- h6]
 revert hr hc
 generalize (recs ((((N9 d).2.2).get (N9 d).1.k).b.length + 1) 0 (((N9 d).2.2).get (N9 d).1.k).b).1 = L
 intro hc hr
 rcases L with _ | ⟨q, l⟩
 ·cases hr
 simp only at hr
 rcases hh : qoq q with _ | ⟨g, n⟩
 ·rw [hh] at hr; cases hr
 rw [hh] at hr
 simp only at hr
 split at hr
 ·injection hr with hr
  rw [hr]
  simp only [List.length_cons] at hc ⊢
  omega
 ·cases hr
theorem qvf {T0 T : Tab} {did lid : Nat} {d : Dk} {w : Wl} (h : TabLe T0 T) (h1 : T0 did = .unused) (h2 : T lid = .unused) : TabLe T0 (tL T did lid d w) := TabLe.tL h h1 (h.unused h2)
end Go.Aw
