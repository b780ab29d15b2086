import Derived.Test.YtchdmofoaokpjaaGreatDoorT30Txt
import Derived.Test.YtchdmofoaokpjaaGreatDoorAwD
import Derived.WalkKit
import Derived.LaidEql
import Derived.Stop.Asserts
import Derived.RowKitTokens
import Derived.Deep.LoopGhost
namespace Go.Aw
open Go Go.RowKit Go.Extern.Stop Go.Stop Go.Extern
open Go.Proofs.Tryz (prog)
open Go.Proofs
set_option linter.all false
theorem qw7 (t : Addr) (w : World) : (ReflectliteValue.unpack (.iface 147 (.pointer (some t)))).run prog w
  = .ok (.agg #[.pointer (some ⟨1, 147, none⟩), .pointer (some ⟨w.heap.size, 0, none⟩), .int .u64 150]) (w.alloc (.cells #[.pointer (some t)] 147)) := by kernel_rfl
theorem z5s (a : Addr) (w : World) : (ReflectliteValue.methodAny (ReflectliteValue.valueError "reflectlite.Value.Type" 0) (fun t _ _ _ => ReflectliteType.toType t) #[.agg #[.pointer (some ⟨1, 147, none⟩), .pointer (some a), .int .u64 150]]).run prog w
  = .ok (.iface 221 (.agg #[.pointer (some ⟨1, 147, none⟩)])) w := by kernel_rfl
theorem z2b (h : Value) (w : World) : (Go.method 396 221 (.agg #[h]) "Kind").run prog w = .ok (183, h) w := by kernel_rfl
theorem z2c (h : Value) (w : World) : (Go.method 396 221 (.agg #[h]) "Elem").run prog w = .ok (196, .agg #[h]) w := by kernel_rfl
theorem z2d (h : Value) (w : World) : (Go.method 396 221 (.agg #[h]) "Implements").run prog w = .ok (197, .agg #[h]) w := by kernel_rfl
theorem qw8 (h : Value) (w : World) : (Go.method 396 221 (.agg #[h]) "AssignableTo").run prog w = .ok (194, .agg #[h]) w := by kernel_rfl
theorem qw9 (h : Value) (w : World) : (Go.method 396 167 h "Unwrap").run prog w = .ok (189, h) w := by kernel_rfl
theorem qwa (n : Int) (w : World) : (ReflectliteType.typeOf #[.iface 26 (.int .i64 n)]).run prog w = .ok (.iface 221 (.agg #[.pointer (some ⟨1, 26, none⟩)])) w := by kernel_rfl
theorem qwb (v : Value) (w : World) : (ReflectliteType.typeOf #[.iface 167 v]).run prog w = .ok (.iface 221 (.agg #[.pointer (some ⟨1, 167, none⟩)])) w := by kernel_rfl
theorem qwc (w : World) : (ReflectliteType.relation "AssignableTo" ReflectliteType.assignableTo #[.agg #[.pointer (some ⟨1, 26, none⟩)], .iface 221 (.agg #[.pointer (some ⟨1, 26, none⟩)])]).run prog w = .ok (.bool true) w := by kernel_rfl
theorem qwd (w : World) : (ReflectliteType.relation "AssignableTo" ReflectliteType.assignableTo #[.agg #[.pointer (some ⟨1, 167, none⟩)], .iface 221 (.agg #[.pointer (some ⟨1, 26, none⟩)])]).run prog w = .ok (.bool false) w := by kernel_rfl
theorem z2e (w : World) : ((ReflectliteType.abiMethod fun t => (fun a : Nat => Value.int IntKind.u8 (a : Int)) <$> Rtype.kind t) #[.pointer (some ⟨1, 147, none⟩)]).run prog w = .ok (.int .u8 22) w := by kernel_rfl
theorem z2f (w : World) : ((ReflectliteType.abiMethod fun t => (fun a : Nat => Value.int IntKind.u8 (a : Int)) <$> Rtype.kind t) #[.pointer (some ⟨1, 26, none⟩)]).run prog w = .ok (.int .u8 2) w := by kernel_rfl
theorem z2g (w : World) : (ReflectliteType.method ReflectliteType.elem #[.agg #[.pointer (some ⟨1, 147, none⟩)]]).run prog w = .ok (.iface 221 (.agg #[.pointer (some ⟨1, 26, none⟩)])) w := by kernel_rfl
theorem z2h (w : World) : (ReflectliteType.relation "Implements" ReflectliteType.implements_ #[.agg #[.pointer (some ⟨1, 26, none⟩)], .iface 221 (.agg #[.pointer (some ⟨1, 115, none⟩)])]).run prog w = .ok (.bool true) w := by kernel_rfl
theorem qsv (n : Int) (w : World) : (ReflectliteValue.unpack (.iface 26 (.int .i64 n))).run prog w
  = .ok (.agg #[.pointer (some ⟨1, 26, none⟩), .pointer (some ⟨w.heap.size, 0, none⟩), .int .u64 130]) (w.alloc (.cells #[.int .i64 n] 26)) := by kernel_rfl
theorem qz8 : prog.underlying 147 = some (.pointer 26) := by kernel_rfl
theorem z5t : prog.underlying 26 = some (.int .i64) := by kernel_rfl
theorem rlm (z : Sem Value) (f : TypeId -> Addr -> Nat -> Nat -> Sem Value) (v : Value) :
  ReflectliteValue.method z f #[v] = (do match <- ReflectliteValue.parts v with | none => z | some (t, a, fl) => f t a fl (fl % 32)) := rfl
theorem quq (a : Addr) (w : World) : (ReflectliteValue.parts (.agg #[.pointer (some ⟨1, 147, none⟩), .pointer (some a), .int .u64 150])).run prog w = .ok (some (147, a, 150)) w := by kernel_rfl
theorem z2i (a p : Addr) (W : World) (ha : W.cell? a = some (.pointer (some p))) :
  (ReflectliteValue.method (ReflectliteValue.valueError "reflectlite.Value.IsNil" 0) ReflectliteValue.isNil #[.agg #[.pointer (some ⟨1, 147, none⟩), .pointer (some a), .int .u64 150]]).run prog W = .ok (.bool false) W := by
 rw [rlm]
 simp only [Sem.run_bind, quq, Result.andThen]
 simp [ReflectliteValue.isNil, loadVar, isAgg, underlying, qz8, ha, Result.andThen]
theorem qz9 (w : World) : (Rtype.elem? 147).run prog w = .ok (some 26) w := by kernel_rfl
theorem ze0 (p : Addr) (w : World) : (ReflectliteValue.mk 26 p ReflectliteValue.flagAddr).run prog w = .ok (.agg #[.pointer (some ⟨1, 26, none⟩), .pointer (some p), .int .u64 386]) w := by kernel_rfl
theorem z2j (a p : Addr) (W : World) (ha : W.cell? a = some (.pointer (some p))) :
  (ReflectliteValue.method (ReflectliteValue.valueError "reflectlite.Value.Elem" 0) ReflectliteValue.elem #[.agg #[.pointer (some ⟨1, 147, none⟩), .pointer (some a), .int .u64 150]]).run prog W
   = .ok (.agg #[.pointer (some ⟨1, 26, none⟩), .pointer (some p), .int .u64 386]) W := by
 rw [rlm]
 simp only [Sem.run_bind, quq, Result.andThen]
 simp [ReflectliteValue.elem, loadVar, isAgg, underlying, qz8, ha, Result.andThen, qz9, ze0]
theorem rls (v x : Value) : ReflectliteValue.set #[v, x] = (do
  let (some (dst, a, fl), some (src, b, _)) := (<- ReflectliteValue.parts v, <- ReflectliteValue.parts x)
   | unsupported (.noEntry "extern/(internal/reflectlite.Value).Set.zeroValue")
  if fl / ReflectliteValue.flagAddr % 2 == 0 then unsupported (.noEntry "extern/(internal/reflectlite.Value).Set.unaddressable")
  let val <- loadVar src b
  if <- Rtype.directlyAssignable dst src then storeVar dst a val
  else if <- Rtype.implements dst src then
   if (<- Rtype.kind src) == 20 then
    match val with
    | .nilIface => unsupported (.noEntry "extern/reflectlite: a nil value of one interface type handed on as a value of another")
    | _ => storeVar dst a val
   else storeVar dst a (.iface src val)
  else panicString ("reflectlite.Set: value of type " ++ (<- Rtype.spelt src) ++ " is not assignable to type " ++ (<- Rtype.spelt dst))
  pure (.tuple #[])) := rfl
theorem qza (a : Addr) (w : World) : (ReflectliteValue.parts (.agg #[.pointer (some ⟨1, 26, none⟩), .pointer (some a), .int .u64 386])).run prog w = .ok (some (26, a, 386)) w := by kernel_rfl
theorem qzb (a : Addr) (w : World) : (ReflectliteValue.parts (.agg #[.pointer (some ⟨1, 26, none⟩), .pointer (some a), .int .u64 130])).run prog w = .ok (some (26, a, 130)) w := by kernel_rfl
theorem qzc (w : World) : (Rtype.directlyAssignable 26 26).run prog w = .ok true w := by kernel_rfl
theorem za8 (ta b : Addr) (n : Int) (old : Value) (W : World) (hb : W.cell? b = some (.int .i64 n)) (ht : W.cell? ta = some old) (hf : W.frozen? ta = false) :
  (ReflectliteValue.set #[.agg #[.pointer (some ⟨1, 26, none⟩), .pointer (some ta), .int .u64 386], .agg #[.pointer (some ⟨1, 26, none⟩), .pointer (some b), .int .u64 130]]).run prog W
   = .ok (.tuple #[]) (W.setCell ta (.int .i64 n)) := by
 rw [rls]
 simp only [Sem.run_bind, qza, qzb, Result.andThen]
 simp [ReflectliteValue.flagAddr, loadVar, isAgg, underlying, z5t, hb, Result.andThen, qzc, storeVar, Value.cells, storeCells, Addr.add]
 rw [run_store prog W ta _ _ (by rfl)]
 simp [ht, hf]
inductive Chain (w : World) : Value -> Int -> Nat -> Prop
 | num (n : Int) : Chain w (.iface 26 (.int .i64 n)) n 0
 | flt (a : Addr) (u : Value) (n : Int) (k : Nat) : w.cell? ⟨a.block, a.off + 1, none⟩ = some u -> Chain w u n k -> Chain w (.iface 167 (.pointer (some a))) n (k + 1)
end Go.Aw
