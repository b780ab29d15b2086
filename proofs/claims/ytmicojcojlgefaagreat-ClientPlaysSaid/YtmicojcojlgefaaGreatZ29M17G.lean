import Derived.Test.YtmicojcojlgefaaGreatZ29M17F
namespace Go.Aw
open Go
open Go.Proofs.Tryz (prog)
set_option linter.all false
set_option maxHeartbeats 8000000
set_option maxRecDepth 8000
def wiF (o l : Lt Cf) (s : Int) : Lt Cf :=
 if decide (s = 115) = true then { o with sh := l.sh } else if decide (s = 101) = true then { o with ep := l.ep } else if decide (s = 110) = true then { o with n := l.n } else if decide (s = 109) = true then { o with m := l.m } else
 if decide (s = 111) = true then { o with nd := l.nd } else if decide (s = 102) = true then { o with fl := l.fl } else if decide (s = 98) = true then { o with br := l.br, bn := l.bn } else if decide (s = 118) = true then { o with vs := l.vs } else
 if decide (s = 99) = true then { o with cs := l.cs } else if decide (s = 108) = true then { o with es := l.es } else if decide (s = 120) = true then { o with t := l.t } else if decide (s = 105) = true then { o with cl := l.cl, sq := l.sq } else
 if decide (s = 116) = true then { o with v := l.v } else if decide (s = 113) = true then { o with q := l.q } else if decide (s = 114) = true then { o with co := l.co } else o
section
variable {γ : Type} {f : γ -> List AV} (o : Lt γ)
theorem z4s : (o.cells f).length = 26 := rfl
theorem z6e : (o.cells f).take 26 = o.cells f := rfl
theorem z6f : (o.cells f).drop 26 = [] := rfl
theorem zd1 : (o.cells f)[5]? = some (.i .i64 o.sh) := rfl
theorem zd2 (x : Int) : (o.cells f).take 5 ++ [AV.i .i64 x] ++ (o.cells f).drop 6 = ({ o with sh := x } : Lt γ).cells f := rfl
theorem zd3 : (o.cells f)[6]? = some (.i .u64 o.ep) := rfl
theorem zd4 (x : Int) : (o.cells f).take 6 ++ [AV.i .u64 x] ++ (o.cells f).drop 7 = ({ o with ep := x } : Lt γ).cells f := rfl
theorem zem : (o.cells f)[7]? = some (.i .i64 o.n) := rfl
theorem zen (x : Int) : (o.cells f).take 7 ++ [AV.i .i64 x] ++ (o.cells f).drop 8 = ({ o with n := x } : Lt γ).cells f := rfl
theorem zeo : (o.cells f)[8]? = some (.i .i64 o.m) := rfl
theorem zep (x : Int) : (o.cells f).take 8 ++ [AV.i .i64 x] ++ (o.cells f).drop 9 = ({ o with m := x } : Lt γ).cells f := rfl
theorem zd5 : (o.cells f)[9]? = some (.i .i64 o.nd) := rfl
theorem zd6 (x : Int) : (o.cells f).take 9 ++ [AV.i .i64 x] ++ (o.cells f).drop 10 = ({ o with nd := x } : Lt γ).cells f := rfl
theorem zd7 : (o.cells f)[10]? = some (.b o.fl) := rfl
theorem zd8 (x : Bool) : (o.cells f).take 10 ++ [AV.b x] ++ (o.cells f).drop 11 = ({ o with fl := x } : Lt γ).cells f := rfl
theorem zd9 : (o.cells f)[13]? = some (.fz o.vs.length (o.vs.flatMap vtC) none) := rfl
theorem zda (x : List Vt) : (o.cells f).take 13 ++ [AV.fz x.length (x.flatMap vtC) none] ++ (o.cells f).drop 14 = ({ o with vs := x } : Lt γ).cells f := rfl
theorem zdb : (o.cells f)[14]? = some (.fz o.cs.length (o.cs.flatMap f) none) := rfl
theorem zdc (x : List γ) : (o.cells f).take 14 ++ [AV.fz x.length (x.flatMap f) none] ++ (o.cells f).drop 15 = ({ o with cs := x } : Lt γ).cells f := rfl
theorem zdd : (o.cells f)[15]? = some (.fz o.es.length (o.es.flatMap enC) none) := rfl
theorem zde (x : List En) : (o.cells f).take 15 ++ [AV.fz x.length (x.flatMap enC) none] ++ (o.cells f).drop 16 = ({ o with es := x } : Lt γ).cells f := rfl
theorem zeq : (o.cells f)[23]? = some (.s o.v) := rfl
theorem zer (x : Bs) : (o.cells f).take 23 ++ [AV.s x] ++ (o.cells f).drop 24 = ({ o with v := x } : Lt γ).cells f := rfl
theorem zes : (o.cells f)[24]? = some (.i .u64 o.q) := rfl
theorem zet (x : Int) : (o.cells f).take 24 ++ [AV.i .u64 x] ++ (o.cells f).drop 25 = ({ o with q := x } : Lt γ).cells f := rfl
theorem zdf : (o.cells f)[25]? = some (.i .i64 o.co) := rfl
theorem zdg (x : Int) : (o.cells f).take 25 ++ [AV.i .i64 x] = ({ o with co := x } : Lt γ).cells f := by simp only [Lt.cells, List.take_succ_cons, List.take_zero, List.cons_append, List.nil_append]
theorem zeu : ((o.cells f).drop 11).take 2 = [.i .u64 o.br, .i .i64 o.bn] := rfl
theorem zev (x y : Int) : (o.cells f).take 11 ++ [AV.i .u64 x, .i .i64 y] ++ (o.cells f).drop 13 = ({ o with br := x, bn := y } : Lt γ).cells f := rfl
theorem zew : ((o.cells f).drop 21).take 2 = [.i .i64 o.cl, .i .u64 o.sq] := rfl
theorem zex (x y : Int) : (o.cells f).take 21 ++ [AV.i .i64 x, .i .u64 y] ++ (o.cells f).drop 23 = ({ o with cl := x, sq := y } : Lt γ).cells f := rfl
theorem zey : ((o.cells f).drop 16).take 5 = o.t.cells none none := rfl
theorem zez (t : Tx) : (o.cells f).take 16 ++ t.cells none none ++ (o.cells f).drop 21 = ({ o with t := t } : Lt γ).cells f := rfl
theorem q5w (t : Tx) (k1 k2 : Option Nat) : (t.cells k1 k2).length = 5 := rfl
theorem zdh : (o.cells f).take 2 = [.i .i64 o.fk, .i .i64 o.fn] := rfl
theorem zdi : ((o.cells f).drop 2).take 2 = [.i .i64 o.tk, .i .i64 o.tn] := rfl
theorem zf0 : (o.cells f)[4]? = some (.i .i64 o.k) := rfl
attribute [go_sem] z4s z6e z6f zd1 zd2 zd3 zd4 zem zen zeo zep zd5 zd6 zd7 zd8 zd9 zda zdb zdc zdd zde zeq zer zes zet zdf zdg zeu zev zew zex zey zez zdh zdi zf0
end
theorem zdj (s : Int) : (s = 115 \/ s = 101 \/ s = 110 \/ s = 109 \/ s = 111 \/ s = 102 \/ s = 98 \/ s = 118 \/ s = 99 \/ s = 108 \/ s = 120 \/ s = 105 \/ s = 116 \/ s = 113 \/ s = 114) \/ (decide (s = 115) = false /\ decide (s = 101) = false /\ decide (s = 110) = false /\ decide (s = 109) = false /\ decide (s = 111) = false /\ decide (s = 102) = false /\ decide (s = 98) = false /\ decide (s = 118) = false /\ decide (s = 99) = false /\ decide (s = 108) = false /\ decide (s = 120) = false /\ decide (s = 105) = false /\ decide (s = 116) = false /\ decide (s = 113) = false /\ decide (s = 114) = false) := by
 simp only [decide_eq_false_iff_not]; omega
theorem z6g (o l : Lt Cf) (s : Int) : PCalls prog q4b [.agg o.cc, .agg l.cc, .i .u8 s] (.agg (wiF o l s).cc) := by
 refine K5 Q7 qjq (by simp) fun T => ?_
 unfold qby
 rcases zdj s with (rfl | rfl | rfl | rfl | rfl | rfl | rfl | rfl | rfl | rfl | rfl | rfl | rfl | rfl | rfl) | ⟨h1, h2, h3, h4, h5, h6, h7, h8, h9, h10, h11, h12, h13, h14, h15⟩
 any_goals (simp -implicitDefEqProofs -dsimp only [go_sem, seval, decide_true, decide_false, q5w]; refine K1 ?_; rfl; done)
 simp -implicitDefEqProofs -dsimp only [go_sem, seval, q5w, h1, h2, h3, h4, h5, h6, h7, h8, h9, h10, h11, h12, h13, h14, h15]
 refine K1 ?_
 simp only [wiF, h1, h2, h3, h4, h5, h6, h7, h8, h9, h10, h11, h12, h13, h14, h15, if_true, Bool.false_eq_true, if_false]
def zT : Tx := ⟨0, 0, false, [], []⟩
def Lt.bare0 (l : Lt Cf) : Lt Cf := ⟨l.fk, l.fn, l.tk, l.tn, l.k, 0, 0, 0, 0, 0, false, 0, 0, [], [], [], zT, 0, 0, [], 0, 0⟩
def baF (l : Lt Cf) (o : Lt Cf) (ss : Bs) : Lt Cf := ss.foldl (fun o s => wiF o l s.toNat) o
theorem Wk.lt0 (l : Lt Cf) : Wks [.i .i64 l.fk, .i .i64 l.fn, .i .i64 l.tk, .i .i64 l.tn, .i .i64 l.k, .i .i64 0, .i .u64 0, .i .i64 0, .i .i64 0, .i .i64 0, .b false, .i .u64 0, .i .i64 0, .fz 0 [] (some 0), .fz 0 [] (some 0), .fz 0 [] (some 0), .i .i64 0, .i .u64 0, .b false, .fz 0 [] (some 0), .fz 0 [] (some 0), .i .i64 0, .i .u64 0, .s [], .i .u64 0, .i .i64 0] l.bare0.cc :=
 ⟨.refl _, .refl _, .refl _, .refl _, .refl _, .refl _, .refl _, .refl _, .refl _, .refl _, .refl _, .refl _, .refl _, .fz, .fz, .fz, .refl _, .refl _, .refl _, .fz, .fz, .refl _, .refl _, .refl _, .refl _, .refl _, trivial⟩
theorem Wks.cc (l : Lt Cf) : Wks l.cc l.cc := Wks.refl _
end Go.Aw
