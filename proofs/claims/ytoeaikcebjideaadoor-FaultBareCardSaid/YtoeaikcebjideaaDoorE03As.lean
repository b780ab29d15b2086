import Derived.Test.YtoeaikcebjideaaDoorT03Txt
import Derived.Test.YtoeaikcebjideaaDoorAwD
import Derived.WalkKit
import Derived.LaidEql
import Derived.Stop.Asserts
import Derived.RowKitTokens
import Derived.Deep.LoopGhost
namespace Go.Aw
open Go Go.RowKit Go.Extern.Stop Go.Stop Go.Extern
open Go.Proofs.Tryd (prog)
open Go.Proofs
set_option linter.all false

/-! errors.As at a target of the numbers' type. -/
theorem as_valueOf (t : Addr) (w : World) : (ReflectliteValue.unpack (.iface 44 (.pointer (some t)))).run prog w
    = .ok (.agg #[.pointer (some ⟨2, 44, none⟩), .pointer (some ⟨w.heap.size, 0, none⟩), .int .u64 150]) (w.alloc (.cells #[.pointer (some t)] 44)) := by kernel_rfl
theorem as_type (a : Addr) (w : World) : (ReflectliteValue.methodAny (ReflectliteValue.valueError "reflectlite.Value.Type" 0) (fun t _ _ _ => ReflectliteType.toType t) #[.agg #[.pointer (some ⟨2, 44, none⟩), .pointer (some a), .int .u64 150]]).run prog w
    = .ok (.iface 70 (.agg #[.pointer (some ⟨2, 44, none⟩)])) w := by kernel_rfl
theorem as_mKind (h : Value) (w : World) : (Go.method 215 70 (.agg #[h]) "Kind").run prog w = .ok (51, h) w := by kernel_rfl
theorem as_mElem (h : Value) (w : World) : (Go.method 215 70 (.agg #[h]) "Elem").run prog w = .ok (61, .agg #[h]) w := by kernel_rfl
theorem as_mImpl (h : Value) (w : World) : (Go.method 215 70 (.agg #[h]) "Implements").run prog w = .ok (62, .agg #[h]) w := by kernel_rfl
theorem as_mAssign (h : Value) (w : World) : (Go.method 215 70 (.agg #[h]) "AssignableTo").run prog w = .ok (59, .agg #[h]) w := by kernel_rfl
theorem as_mUnwrap (h : Value) (w : World) : (Go.method 215 33 h "Unwrap").run prog w = .ok (15, h) w := by kernel_rfl
theorem as_typeOfN (n : Int) (w : World) : (ReflectliteType.typeOf #[.iface 25 (.int .i64 n)]).run prog w = .ok (.iface 70 (.agg #[.pointer (some ⟨2, 25, none⟩)])) w := by kernel_rfl
theorem as_typeOfF (v : Value) (w : World) : (ReflectliteType.typeOf #[.iface 33 v]).run prog w = .ok (.iface 70 (.agg #[.pointer (some ⟨2, 33, none⟩)])) w := by kernel_rfl
theorem as_assignN (w : World) : (ReflectliteType.relation "AssignableTo" ReflectliteType.assignableTo #[.agg #[.pointer (some ⟨2, 25, none⟩)], .iface 70 (.agg #[.pointer (some ⟨2, 25, none⟩)])]).run prog w = .ok (.bool true) w := by kernel_rfl
theorem as_assignF (w : World) : (ReflectliteType.relation "AssignableTo" ReflectliteType.assignableTo #[.agg #[.pointer (some ⟨2, 33, none⟩)], .iface 70 (.agg #[.pointer (some ⟨2, 25, none⟩)])]).run prog w = .ok (.bool false) w := by kernel_rfl
theorem as_kindP (w : World) : ((ReflectliteType.abiMethod fun t => (fun a : Nat => Value.int IntKind.u8 (a : Int)) <$> Rtype.kind t) #[.pointer (some ⟨2, 44, none⟩)]).run prog w = .ok (.int .u8 22) w := by kernel_rfl
theorem as_kindN (w : World) : ((ReflectliteType.abiMethod fun t => (fun a : Nat => Value.int IntKind.u8 (a : Int)) <$> Rtype.kind t) #[.pointer (some ⟨2, 25, none⟩)]).run prog w = .ok (.int .u8 2) w := by kernel_rfl
theorem as_elemP (w : World) : (ReflectliteType.method ReflectliteType.elem #[.agg #[.pointer (some ⟨2, 44, none⟩)]]).run prog w = .ok (.iface 70 (.agg #[.pointer (some ⟨2, 25, none⟩)])) w := by kernel_rfl
theorem as_implN (w : World) : (ReflectliteType.relation "Implements" ReflectliteType.implements_ #[.agg #[.pointer (some ⟨2, 25, none⟩)], .iface 70 (.agg #[.pointer (some ⟨2, 27, none⟩)])]).run prog w = .ok (.bool true) w := by kernel_rfl
theorem as_valueOfN (n : Int) (w : World) : (ReflectliteValue.unpack (.iface 25 (.int .i64 n))).run prog w
    = .ok (.agg #[.pointer (some ⟨2, 25, none⟩), .pointer (some ⟨w.heap.size, 0, none⟩), .int .u64 130]) (w.alloc (.cells #[.int .i64 n] 25)) := by kernel_rfl

theorem as_undP : prog.underlying 44 = some (.pointer 25) := by kernel_rfl
theorem as_undN : prog.underlying 25 = some (.int .i64) := by kernel_rfl
theorem rlm (z : Sem Value) (f : TypeId → Addr → Nat → Nat → Sem Value) (v : Value) :
    ReflectliteValue.method z f #[v] = (do match ← ReflectliteValue.parts v with | none => z | some (t, a, fl) => f t a fl (fl % 32)) := rfl
theorem as_parts (a : Addr) (w : World) : (ReflectliteValue.parts (.agg #[.pointer (some ⟨2, 44, none⟩), .pointer (some a), .int .u64 150])).run prog w = .ok (some (44, a, 150)) w := by kernel_rfl
theorem as_isNil (a p : Addr) (W : World) (ha : W.cell? a = some (.pointer (some p))) :
    (ReflectliteValue.method (ReflectliteValue.valueError "reflectlite.Value.IsNil" 0) ReflectliteValue.isNil #[.agg #[.pointer (some ⟨2, 44, none⟩), .pointer (some a), .int .u64 150]]).run prog W = .ok (.bool false) W := by
  rw [rlm]
  simp only [Sem.run_bind, as_parts, Result.andThen]
  simp [ReflectliteValue.isNil, loadVar, isAgg, underlying, as_undP, ha, Result.andThen]
theorem as_elemOf (w : World) : (Rtype.elem? 44).run prog w = .ok (some 25) w := by kernel_rfl
theorem as_mk (p : Addr) (w : World) : (ReflectliteValue.mk 25 p ReflectliteValue.flagAddr).run prog w = .ok (.agg #[.pointer (some ⟨2, 25, none⟩), .pointer (some p), .int .u64 386]) w := by kernel_rfl
theorem as_elemV (a p : Addr) (W : World) (ha : W.cell? a = some (.pointer (some p))) :
    (ReflectliteValue.method (ReflectliteValue.valueError "reflectlite.Value.Elem" 0) ReflectliteValue.elem #[.agg #[.pointer (some ⟨2, 44, none⟩), .pointer (some a), .int .u64 150]]).run prog W
      = .ok (.agg #[.pointer (some ⟨2, 25, none⟩), .pointer (some p), .int .u64 386]) W := by
  rw [rlm]
  simp only [Sem.run_bind, as_parts, Result.andThen]
  simp [ReflectliteValue.elem, loadVar, isAgg, underlying, as_undP, ha, Result.andThen, as_elemOf, as_mk]
theorem rls (v x : Value) : ReflectliteValue.set #[v, x] = (do
    let (some (dst, a, fl), some (src, b, _)) := (← ReflectliteValue.parts v, ← ReflectliteValue.parts x)
      | unsupported (.noEntry "extern/(internal/reflectlite.Value).Set.zeroValue")
    if fl / ReflectliteValue.flagAddr % 2 == 0 then unsupported (.noEntry "extern/(internal/reflectlite.Value).Set.unaddressable")
    let val ← loadVar src b
    if ← Rtype.directlyAssignable dst src then storeVar dst a val
    else if ← Rtype.implements dst src then
      if (← Rtype.kind src) == 20 then
        match val with
        | .nilIface => unsupported (.noEntry "extern/reflectlite: a nil value of one interface type handed on as a value of another")
        | _ => storeVar dst a val
      else storeVar dst a (.iface src val)
    else panicString ("reflectlite.Set: value of type " ++ (← Rtype.spelt src) ++ " is not assignable to type " ++ (← Rtype.spelt dst))
    pure (.tuple #[])) := rfl
theorem as_partsA (a : Addr) (w : World) : (ReflectliteValue.parts (.agg #[.pointer (some ⟨2, 25, none⟩), .pointer (some a), .int .u64 386])).run prog w = .ok (some (25, a, 386)) w := by kernel_rfl
theorem as_partsB (a : Addr) (w : World) : (ReflectliteValue.parts (.agg #[.pointer (some ⟨2, 25, none⟩), .pointer (some a), .int .u64 130])).run prog w = .ok (some (25, a, 130)) w := by kernel_rfl
theorem as_direct (w : World) : (Rtype.directlyAssignable 25 25).run prog w = .ok true w := by kernel_rfl
theorem as_set (ta b : Addr) (n : Int) (old : Value) (W : World) (hb : W.cell? b = some (.int .i64 n)) (ht : W.cell? ta = some old) (hf : W.frozen? ta = false) :
    (ReflectliteValue.set #[.agg #[.pointer (some ⟨2, 25, none⟩), .pointer (some ta), .int .u64 386], .agg #[.pointer (some ⟨2, 25, none⟩), .pointer (some b), .int .u64 130]]).run prog W
      = .ok (.tuple #[]) (W.setCell ta (.int .i64 n)) := by
  rw [rls]
  simp only [Sem.run_bind, as_partsA, as_partsB, Result.andThen]
  simp [ReflectliteValue.flagAddr, loadVar, isAgg, underlying, as_undN, hb, Result.andThen, as_direct, storeVar, Value.cells, storeCells, Addr.add]
  rw [run_store prog W ta _ _ (by rfl)]
  simp [ht, hf]

/-- An error that is a number, wrapped so often. -/
inductive Chain (w : World) : Value → Int → Nat → Prop
  | num (n : Int) : Chain w (.iface 25 (.int .i64 n)) n 0
  | flt (a : Addr) (u : Value) (n : Int) (k : Nat) : w.cell? ⟨a.block, a.off + 1, none⟩ = some u → Chain w u n k → Chain w (.iface 33 (.pointer (some a))) n (k + 1)
end Go.Aw
