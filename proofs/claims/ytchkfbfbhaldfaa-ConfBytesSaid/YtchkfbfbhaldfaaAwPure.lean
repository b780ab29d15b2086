/-
  Operations that make a value and change nothing: what they make of abstract values, and that the model's own operations do so.
-/
import Derived.Test.YtchkfbfbhaldfaaAwStep
import Derived.Laws.Cells
import Derived.Laws.BytesArg
import Derived.Lib.Strings
namespace Go.Aw
set_option linter.all false
open Go

/-- A constant as an abstract value. -/
def cav : Value → Option AV
  | .bool x => some (.b x)
  | .int k n => some (.i k n)
  | .string s => some (.s s.data.toList)
  | .pointer none => some .nilptr
  | .slice none 0 0 => some (.fz 0 [] (some 0))
  | .map none => some .nilmap
  | .nilFunc => some .nilfn
  | .nilIface => some .nilifc
  | _ => none

theorem cav_sound {X : Cx} {w : World} {v : Value} {x : AV} (h : cav v = some x) : vr X w x v ∧ x.isOne = true := by
  unfold cav at h
  split at h <;> first
    | (cases h; done)
    | (injection h with h; subst h; refine ⟨?_, rfl⟩; simp only [vr]; done)
    | (injection h with h; subst h; refine ⟨?_, rfl⟩; simp only [vr, vrs])
  exact ⟨[], rfl, .inl ⟨rfl, rfl, rfl, fun k hk => by injection hk⟩⟩

def opd (env : Env) : Operand → Option AV
  | .tmp t => aget env t
  | .const v => cav v
  | .global g => some (.raw (.pointer (some ⟨g, 0, none⟩)))
  | .func f => some (.fn (.func f) [] [])

theorem opd_sound {X0 : Cx} {T0 : Tab} {w0 : World} {X : Cx} {lam : Nat → Nat} {env : Env} {L : Loc} {T : Tab} {a : Act} {w : World}
    (h : SR X0 T0 w0 X lam env L T a w) {o : Operand} {x : AV} (ho : opd env o = some x) : evr X lam w x (a.eval o) := by
  cases o with
  | tmp t =>
    obtain ⟨v, hv, hr⟩ := h.env t x ho
    simp only [Act.eval, Array.getD_eq_getD_getElem?, hv, Option.getD_some]
    exact hr
  | const v => exact evr_of_vr (cav_sound ho).1
  | global g => injection ho with ho; subst ho; exact ⟨rfl, rfl⟩
  | func f => injection ho with ho; subst ho; exact ⟨[], [], rfl, rfl, rfl⟩

/-! ### What kinds are compared -/
inductive SK where
  | b | i | s
  deriving DecidableEq, Repr, Inhabited

inductive EqK where
  | bool | ptr | ifc
  | agg (ks : List SK)
  deriving DecidableEq, Repr, Inhabited

/-- Two values of one cell are the same: numbers, truths, texts. -/
def scalarEq : SK → AV → AV → Option Bool
  | .b, .b x, .b y => some (decide (x = y))
  | .i, .i k n, .i k' m => if k = k' then some (decide (n = m)) else none
  | .s, .s l, .s m => some (decide (l = m))
  | _, _, _ => none

def aggEq : List SK → List AV → List AV → Option Bool
  | [], [], [] => some true
  | k :: ks, x :: l, y :: m => match scalarEq k x y, aggEq ks l m with
    | some p, some q => some (p && q)
    | _, _ => none
  | _, _, _ => none

def eqAv : EqK → AV → AV → Option Bool
  | .bool, .b x, .b y => some (decide (x = y))
  | .ptr, .nilptr, .nilptr => some true
  | .ptr, .nilptr, .ptr _ _ | .ptr, .nilptr, .fptr _ | .ptr, .ptr _ _, .nilptr | .ptr, .fptr _, .nilptr => some false
  | .ifc, .nilifc, .nilifc => some true
  | .ifc, .nilifc, .ifc _ _ | .ifc, .ifc _ _, .nilifc => some false
  | .agg ks, .agg l, .agg m => aggEq ks l m
  | _, _, _ => none

def binInt (op : BinOp) (k : IntKind) (a b : Int) : Option AV :=
  match op with
  | .add => some (.i k (k.wrap (a + b)))
  | .sub => some (.i k (k.wrap (a - b)))
  | .mul => some (.i k (k.wrap (a * b)))
  | .quo => if b = 0 then none else some (.i k (k.wrap (a.tdiv b)))
  | .rem => if b = 0 then none else some (.i k (a.tmod b))
  | .and => some (.i k (k.wrap (BitVec.ofInt k.bits a &&& BitVec.ofInt k.bits b).toNat))
  | .or => some (.i k (k.wrap (BitVec.ofInt k.bits a ||| BitVec.ofInt k.bits b).toNat))
  | .xor => some (.i k (k.wrap (BitVec.ofInt k.bits a ^^^ BitVec.ofInt k.bits b).toNat))
  | .andNot => some (.i k (k.wrap (BitVec.ofInt k.bits a &&& ~~~ BitVec.ofInt k.bits b).toNat))
  | .eql => some (.b (decide (a = b)))
  | .neq => some (.b (!decide (a = b)))
  | .lss => some (.b (decide (a < b)))
  | .leq => some (.b (decide (a ≤ b)))
  | .gtr => some (.b (decide (b < a)))
  | .geq => some (.b (decide (b ≤ a)))
  | _ => none

def binShift (op : BinOp) (k : IntKind) (a y : Int) : Option AV :=
  if y < 0 then none else
  match op with
  | .shl => some (.i k (k.wrap (a * 2 ^ (min y.toNat k.bits))))
  | .shr => some (.i k (a.fdiv (2 ^ (min y.toNat k.bits))))
  | _ => none

def binStr (op : BinOp) (a b : List UInt8) : Option AV :=
  match op with
  | .add => if a.length + b.length ≤ 9223372036854775807 then some (.s (a ++ b)) else none
  | .eql => some (.b (decide (a = b)))
  | .neq => some (.b (!decide (a = b)))
  | _ => none

def binAv (op : BinOp) : AV → AV → Option AV
  | .i k a, .i k' b => match op with
    | .shl | .shr => binShift op k a b
    | _ => if k = k' then binInt op k a b else none
  | .s a, .s b => binStr op a b
  | _, _ => none

def unAv : UnOp → AV → Option AV
  | .not, .b x => some (.b (!x))
  | .neg, .i k n => some (.i k (k.wrap (0 - n)))
  | _, _ => none

/-- A plain abstract value as the model's. -/
def conc : AV → Value
  | .i k n => .int k n
  | .b x => .bool x
  | .s l => .string ⟨l.toArray⟩
  | _ => undef

section
variable {P : Program} {X : Cx} {lam : Nat → Nat} {w : World}

theorem eqGuard_int (op : BinOp) (t : TypeId) (e1 e2 : Operand) (k k' : IntKind) (a b : Int) : (eqGuard op t e1 e2 (.int k a) (.int k' b)).run P w = .ok () w := by
  unfold eqGuard; split <;> rfl
theorem eqGuard_str (op : BinOp) (t : TypeId) (e1 e2 : Operand) (a b : ByteArray) : (eqGuard op t e1 e2 (.string a) (.string b)).run P w = .ok () w := by
  unfold eqGuard; split <;> rfl

theorem binInt_sound (op : BinOp) (t : TypeId) (k : IntKind) (a b : Int) {r : AV} (h : binInt op k a b = some r) :
    (binOp op t (.int k a) (.int k b)).run P w = .ok (conc r) w ∧ vr X w r (conc r) := by
  cases op <;> simp only [binInt] at h <;> first
    | (cases h; done)
    | (injection h with h; subst h
       refine ⟨?_, by simp only [vr, conc]⟩
       simp [binOp, Op.intArith, Op.intBits, Op.intCmp, conc, bne, BEq.beq]; done)
    | (split at h
       · cases h
       · rename_i hb
         injection h with h; subst h
         refine ⟨?_, by simp only [vr, conc]⟩
         simp [binOp, Op.intDiv, hb, conc])

theorem binShift_sound (op : BinOp) (t : TypeId) (k k' : IntKind) (a b : Int) {r : AV} (h : binShift op k a b = some r) :
    (binOp op t (.int k a) (.int k' b)).run P w = .ok (conc r) w ∧ vr X w r (conc r) := by
  unfold binShift at h
  split at h
  · cases h
  · rename_i hb
    cases op <;> simp only at h <;> first
      | (cases h; done)
      | (injection h with h; subst h
         refine ⟨?_, by simp only [vr, conc]⟩
         simp [binOp, Op.shift, hb, conc])

theorem bytes_toList (l : List UInt8) : (⟨l.toArray⟩ : ByteArray).toList = l := by
  rw [Lib.toList_data]

theorem lbeq (a b : List UInt8) : (a == b) = decide (a = b) := by
  rw [Bool.eq_iff_iff]; simp

theorem binStr_sound (op : BinOp) (t : TypeId) (a b : List UInt8) {r : AV} (h : binStr op a b = some r) :
    (binOp op t (.string ⟨a.toArray⟩) (.string ⟨b.toArray⟩)).run P w = .ok (conc r) w ∧ vr X w r (conc r) := by
  cases op <;> simp only [binStr] at h <;> first
    | (cases h; done)
    | (injection h with h; subst h
       refine ⟨?_, by simp only [vr, conc]⟩
       simp [binOp, Op.stringOp, conc, lbeq]; done)
    | (split at h
       · rename_i hb
         injection h with h; subst h
         refine ⟨?_, by simp only [vr, conc]⟩
         have hm : IntKind.i64.max = 9223372036854775807 := by decide
         have : ¬ (((a.length + b.length : Nat) : Int) > IntKind.i64.max) := by rw [hm]; omega
         have hab : (⟨a.toArray⟩ ++ ⟨b.toArray⟩ : ByteArray) = ⟨(a ++ b).toArray⟩ := by
           apply ByteArray.ext
           rw [ByteArray.data_append]
           simp
         simp only [binOp, Op.stringOp, ByteArray.size, List.size_toArray, this, if_false, hab, conc, Sem.run_pure]
       · cases h)

theorem bin_sound (op : BinOp) (t : TypeId) {x y r : AV} {u v : Value} (hx : vr X w x u) (hy : vr X w y v) (h : binAv op x y = some r) (e1 e2 : Operand) :
    ((do eqGuard op t e1 e2 u v; binOp op t u v) : Sem Value).run P w = .ok (conc r) w ∧ vr X w r (conc r) := by
  cases x <;> cases y <;> first
    | (simp [binAv] at h; done)
    | skip
  · rename_i k a k' b
    simp only [vr] at hx hy
    subst hx; subst hy
    simp only [Sem.run_bind, eqGuard_int, Result.andThen_ok]
    simp only [binAv] at h
    split at h
    · exact binShift_sound _ t k k' a b h
    · exact binShift_sound _ t k k' a b h
    · split at h
      · rename_i hk; subst hk; exact binInt_sound op t k a b h
      · cases h
  · rename_i a b
    simp only [vr] at hx hy
    subst hx; subst hy
    simp only [Sem.run_bind, eqGuard_str, Result.andThen_ok]
    exact binStr_sound op t a b h

theorem un_sound (op : UnOp) {x r : AV} {u : Value} (hx : vr X w x u) (h : unAv op x = some r) : (Op.unary op u).run P w = .ok (conc r) w ∧ vr X w r (conc r) := by
  cases op <;> cases x <;> simp only [unAv] at h <;> first
    | (cases h; done)
    | (injection h with h; subst h
       simp only [vr] at hx
       subst hx
       refine ⟨?_, by simp only [vr, conc]⟩
       simp [Op.unary, Op.intArith, conc])

end
end Go.Aw
