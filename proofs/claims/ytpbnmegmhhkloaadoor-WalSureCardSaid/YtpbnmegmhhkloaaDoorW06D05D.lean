import Derived.Test.YtpbnmegmhhkloaaDoorW06D05C
namespace Go.Aw
open Go
open Go.Proofs.Tryd (prog)
set_option linter.all false
set_option maxHeartbeats 4000000
def Ar.keepN (a : Ar) (k : Int) : Int := a.su + k.tmod (a.b.length - a.su + 1)
def Ar.crash (a : Ar) (k : Int) : Ar := ⟨a.b.take (a.keepN k).toNat, none, a.keepN k⟩
def Dk.crash (d : Dk) (k0 k1 : Int) : Dk := ⟨d.room, d.a0.crash k0, d.a1.crash k1, false, false, 0⟩
theorem Ar.keep_bd {a : Ar} (h : a.Ok) {k : Int} (hk : 0 <= k) : a.su <= a.keepN k /\ a.keepN k <= a.b.length := by
 have h1 := h.s0
 have h2 := h.s1
 unfold Ar.keepN
 have h3 := Int.tmod_nonneg ((a.b.length : Int) - a.su + 1) hk
 have h4 := Int.tmod_lt_of_pos k (show (0 : Int) < (a.b.length : Int) - a.su + 1 by omega)
 omega
theorem Ar.crash_ok {a : Ar} (h : a.Ok) {k : Int} (hk : 0 <= k) : (a.crash k).Ok := by
 have := Ar.keep_bd h hk
 have := h.s0
 refine ⟨by simp only [Ar.crash]; omega, ?_⟩
 simp only [Ar.crash, List.length_take]
 omega
theorem Dk.crash_ok {d : Dk} (h : d.Ok) {k0 k1 : Int} (h0 : 0 <= k0) (h1 : 0 <= k1) : (d.crash k0 k1).Ok := by
 refine ⟨h.r0, h.r1, ?_, Ar.crash_ok h.o0 h0, Ar.crash_ok h.o1 h1, by simp [Dk.crash]⟩
 have := h.fits
 have e0 : (d.a0.crash k0).b.length <= d.a0.b.length := by simp [Ar.crash, List.length_take]; omega
 have e1 : (d.a1.crash k1).b.length <= d.a1.b.length := by simp [Ar.crash, List.length_take]; omega
 simp only [Dk.crash]
 omega
theorem qfs {d : Dk} (hd : d.Ok) {T : Tab} {id : Nat} (hT : At T id d) (k0 k1 : Int) (h0 : 0 <= k0 /\ k0 < 65536) (h1 : 0 <= k1 /\ k1 < 65536) :
  ACalls prog Y6 [.ptr id 0, .agg [.i .u16 k0, .i .u16 k1]] T (fun v T' => v = .tup [] /\ T' = T.put id (.row 8 (d.crash k0 k1).cells)) := by
 refine K1 O5 q7h (by simp) ?_
 unfold q2o
 have r1 := hd.r1
 have r2 := hd.fits
 have b0 := Ar.keep_bd hd.o0 h0.1
 have b1 := Ar.keep_bd hd.o1 h1.1
 have s0 := hd.o0.s0
 have s0' := hd.o0.s1
 have s1 := hd.o1.s0
 have s1' := hd.o1.s1
 have hT0 : T id = .row 8 [.i .i64 d.room, .fz d.a0.b.length (J1 d.a0.b) d.a0.c, .i .i64 d.a0.su, .fz d.a1.b.length (J1 d.a1.b) d.a1.c, .i .i64 d.a1.su, .b d.lost, .b d.armed, .i .i64 d.left] := hT
 have w0 : IntKind.i64.wrap k0 = k0 := K8 (by unfold I64; omega)
 have w1 : IntKind.i64.wrap k1 = k1 := K8 (by unfold I64; omega)
 have w2 : IntKind.i64.wrap ((d.a0.b.length : Int) - d.a0.su) = (d.a0.b.length : Int) - d.a0.su := K8 (by unfold I64; omega)
 have w3 : IntKind.i64.wrap ((d.a1.b.length : Int) - d.a1.su) = (d.a1.b.length : Int) - d.a1.su := K8 (by unfold I64; omega)
 have w4 : IntKind.i64.wrap ((d.a0.b.length : Int) - d.a0.su + 1) = (d.a0.b.length : Int) - d.a0.su + 1 := K8 (by unfold I64; omega)
 have w5 : IntKind.i64.wrap ((d.a1.b.length : Int) - d.a1.su + 1) = (d.a1.b.length : Int) - d.a1.su + 1 := K8 (by unfold I64; omega)
 have w6 : IntKind.i64.wrap (d.a0.su + k0.tmod ((d.a0.b.length : Int) - d.a0.su + 1)) = d.a0.keepN k0 := K8 (by unfold I64; unfold Ar.keepN at b0; omega)
 have w7 : IntKind.i64.wrap (d.a1.su + k1.tmod ((d.a1.b.length : Int) - d.a1.su + 1)) = d.a1.keepN k1 := K8 (by unfold I64; unfold Ar.keepN at b1; omega)
 have z0 : ((d.a0.b.length : Int) - d.a0.su + 1 = 0) = False := by simp; omega
 have z1 : ((d.a1.b.length : Int) - d.a1.su + 1 = 0) = False := by simp; omega
 have p0 : (0 : Int) <= d.a0.keepN k0 := by omega
 have p1 : (0 : Int) <= d.a1.keepN k1 := by omega
 have p2 : (d.a0.keepN k0).toNat <= d.a0.b.length := by omega
 have p3 : (d.a1.keepN k1).toNat <= d.a1.b.length := by omega
 have cl : ∀ (l : List UInt8) (n : Nat), l.length <= 1048576 -> n <= l.length -> ∀ cc, PCalls prog J3 [.fz n (J1 (l.take n)) cc] (.fz n (J1 (l.take n)) none) := fun l n hl hn cc => by
  have f4 : (l.take n).length = n := by rw [List.length_take]; omega
  have := q4x (l.take n) cc (by omega)
  unfold bts at this
  rwa [f4] at this
 have v1 : IntKind.i64.wrap 1 = 1 := rfl
 have v2 : IntKind.i64.wrap 2 = 2 := rfl
 simp -implicitDefEqProofs -dsimp only [go_sem, seval]
 refine N6 (l := G4) rfl (by repeat' (first | exact N3 _ _ | assumption | apply N2 | apply K3 | apply V2)) ?_
 unfold Z7
 simp -implicitDefEqProofs -dsimp only [go_sem, seval, hT0, w0, w2, w4, w6, z0, p0, p2, v1, Nat.zero_le, true_and, O1, show ((2 : Nat) : Int) = 2 from rfl, ↓J2 _ _ J9]
 refine cpn (cl d.a0.b _ (by omega) p2 _) ?_
 simp -implicitDefEqProofs -dsimp only [go_sem, seval]
 refine O6 hT0 rfl rfl (by simp) ?_
 refine J7 ?_
 simp -implicitDefEqProofs -dsimp only [go_sem, seval]
 refine O6 (Tab.put_same _ _ _) rfl rfl (by simp [N0]) ?_
 refine J7 ?_
 simp -implicitDefEqProofs -dsimp only [go_sem, seval, v1, Tab.put_put]
 have hT1 := Tab.put_same T id (.row 8 [.i .i64 d.room, .fz (d.a0.keepN k0).toNat (J1 (List.take (d.a0.keepN k0).toNat d.a0.b)) none, .i .i64 (d.a0.keepN k0), .fz d.a1.b.length (J1 d.a1.b) d.a1.c, .i .i64 d.a1.su, .b d.lost, .b d.armed, .i .i64 d.left])
 refine N6 (l := G4) rfl (by repeat' (first | exact N3 _ _ | assumption | apply N2 | apply K3 | apply V2)) ?_
 unfold Z7
 simp -implicitDefEqProofs -dsimp only [go_sem, seval, hT1, w1, w3, w5, w7, z1, p1, p3, v2, Nat.zero_le, true_and, O1, show ((2 : Nat) : Int) = 2 from rfl, show (1 : Int).toNat = 1 from rfl, ↓J2 _ _ J9]
 refine cpn (cl d.a1.b _ (by omega) p3 _) ?_
 simp -implicitDefEqProofs -dsimp only [go_sem, seval]
 refine O6 hT1 rfl rfl (by simp) ?_
 refine J7 ?_
 simp -implicitDefEqProofs -dsimp only [go_sem, seval]
 refine O6 (Tab.put_same _ _ _) rfl rfl (by simp [N0]) ?_
 refine J7 ?_
 simp -implicitDefEqProofs -dsimp only [go_sem, seval, v2, Tab.put_put]
 refine N6 (l := G4) rfl (by repeat' (first | exact N3 _ _ | assumption | apply N2 | apply K3 | apply V2)) ?_
 unfold Z7
 simp -implicitDefEqProofs -dsimp only [go_sem, seval]
 refine O6 (Tab.put_same _ _ _) rfl rfl (by simp [N0]) ?_
 refine J7 ?_
 simp -implicitDefEqProofs -dsimp only [go_sem, seval]
 refine O6 (Tab.put_same _ _ _) rfl rfl (by simp [N0]) ?_
 refine J7 ?_
 simp -implicitDefEqProofs -dsimp only [go_sem, seval]
 refine O6 (Tab.put_same _ _ _) rfl rfl (by simp [N0]) ?_
 refine J7 ?_
 simp -implicitDefEqProofs -dsimp only [go_sem, seval, Tab.put_put]
 refine K6 (.refl _) ?_
 have f0 : (d.a0.b.take (d.a0.keepN k0).toNat).length = (d.a0.keepN k0).toNat := by rw [List.length_take]; omega
 have f1 : (d.a1.b.take (d.a1.keepN k1).toNat).length = (d.a1.keepN k1).toNat := by rw [List.length_take]; omega
 simp [Dk.crash, Ar.crash, Dk.cells, bts, N0, f0, f1]
end Go.Aw
