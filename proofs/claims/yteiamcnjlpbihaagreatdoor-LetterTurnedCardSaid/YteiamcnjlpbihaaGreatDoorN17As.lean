import Derived.Test.YteiamcnjlpbihaaGreatDoorT17dTxt
import Derived.Test.YteiamcnjlpbihaaGreatDoorAwD
import Derived.WalkKit
import Derived.LaidEql
import Derived.Stop.Asserts
import Derived.RowKitTokens
import Derived.Deep.LoopGhost
namespace Go.Aw
open Go Go.RowKit Go.Extern.Stop Go.Stop Go.Extern
open Go.Proofs.Tryz (prog)
open Go.Proofs
set_option linter.all false
theorem qyn (t : Addr) (w : World) : (ReflectliteValue.unpack (.iface 148 (.pointer (some t)))).run prog w
  = .ok (.agg #[.pointer (some ⟨1, 148, none⟩), .pointer (some ⟨w.heap.size, 0, none⟩), .int .u64 150]) (w.alloc (.cells #[.pointer (some t)] 148)) := by kernel_rfl
theorem z8a (a : Addr) (w : World) : (ReflectliteValue.methodAny (ReflectliteValue.valueError "reflectlite.Value.Type" 0) (fun t _ _ _ => ReflectliteType.toType t) #[.agg #[.pointer (some ⟨1, 148, none⟩), .pointer (some a), .int .u64 150]]).run prog w
  = .ok (.iface 213 (.agg #[.pointer (some ⟨1, 148, none⟩)])) w := by kernel_rfl
theorem z4y (h : Value) (w : World) : (Go.method 366 213 (.agg #[h]) "Kind").run prog w = .ok (169, h) w := by kernel_rfl
theorem z4z (h : Value) (w : World) : (Go.method 366 213 (.agg #[h]) "Elem").run prog w = .ok (182, .agg #[h]) w := by kernel_rfl
theorem z50 (h : Value) (w : World) : (Go.method 366 213 (.agg #[h]) "Implements").run prog w = .ok (183, .agg #[h]) w := by kernel_rfl
theorem qyo (h : Value) (w : World) : (Go.method 366 213 (.agg #[h]) "AssignableTo").run prog w = .ok (180, .agg #[h]) w := by kernel_rfl
theorem qyp (h : Value) (w : World) : (Go.method 366 169 h "Unwrap").run prog w = .ok (175, h) w := by kernel_rfl
theorem qyq (n : Int) (w : World) : (ReflectliteType.typeOf #[.iface 36 (.int .i64 n)]).run prog w = .ok (.iface 213 (.agg #[.pointer (some ⟨1, 36, none⟩)])) w := by kernel_rfl
theorem qyr (v : Value) (w : World) : (ReflectliteType.typeOf #[.iface 169 v]).run prog w = .ok (.iface 213 (.agg #[.pointer (some ⟨1, 169, none⟩)])) w := by kernel_rfl
theorem qys (w : World) : (ReflectliteType.relation "AssignableTo" ReflectliteType.assignableTo #[.agg #[.pointer (some ⟨1, 36, none⟩)], .iface 213 (.agg #[.pointer (some ⟨1, 36, none⟩)])]).run prog w = .ok (.bool true) w := by kernel_rfl
theorem qyt (w : World) : (ReflectliteType.relation "AssignableTo" ReflectliteType.assignableTo #[.agg #[.pointer (some ⟨1, 169, none⟩)], .iface 213 (.agg #[.pointer (some ⟨1, 36, none⟩)])]).run prog w = .ok (.bool false) w := by kernel_rfl
theorem z51 (w : World) : ((ReflectliteType.abiMethod fun t => (fun a : Nat => Value.int IntKind.u8 (a : Int)) <$> Rtype.kind t) #[.pointer (some ⟨1, 148, none⟩)]).run prog w = .ok (.int .u8 22) w := by kernel_rfl
theorem z52 (w : World) : ((ReflectliteType.abiMethod fun t => (fun a : Nat => Value.int IntKind.u8 (a : Int)) <$> Rtype.kind t) #[.pointer (some ⟨1, 36, none⟩)]).run prog w = .ok (.int .u8 2) w := by kernel_rfl
theorem z53 (w : World) : (ReflectliteType.method ReflectliteType.elem #[.agg #[.pointer (some ⟨1, 148, none⟩)]]).run prog w = .ok (.iface 213 (.agg #[.pointer (some ⟨1, 36, none⟩)])) w := by kernel_rfl
theorem z54 (w : World) : (ReflectliteType.relation "Implements" ReflectliteType.implements_ #[.agg #[.pointer (some ⟨1, 36, none⟩)], .iface 213 (.agg #[.pointer (some ⟨1, 103, none⟩)])]).run prog w = .ok (.bool true) w := by kernel_rfl
theorem qw4 (n : Int) (w : World) : (ReflectliteValue.unpack (.iface 36 (.int .i64 n))).run prog w
  = .ok (.agg #[.pointer (some ⟨1, 36, none⟩), .pointer (some ⟨w.heap.size, 0, none⟩), .int .u64 130]) (w.alloc (.cells #[.int .i64 n] 36)) := by kernel_rfl
theorem z1q : prog.underlying 148 = some (.pointer 36) := by kernel_rfl
theorem z8b : prog.underlying 36 = some (.int .i64) := by kernel_rfl
theorem rlm (z : Sem Value) (f : TypeId -> Addr -> Nat -> Nat -> Sem Value) (v : Value) :
  ReflectliteValue.method z f #[v] = (do match <- ReflectliteValue.parts v with | none => z | some (t, a, fl) => f t a fl (fl % 32)) := rfl
theorem qx6 (a : Addr) (w : World) : (ReflectliteValue.parts (.agg #[.pointer (some ⟨1, 148, none⟩), .pointer (some a), .int .u64 150])).run prog w = .ok (some (148, a, 150)) w := by kernel_rfl
theorem z55 (a p : Addr) (W : World) (ha : W.cell? a = some (.pointer (some p))) :
  (ReflectliteValue.method (ReflectliteValue.valueError "reflectlite.Value.IsNil" 0) ReflectliteValue.isNil #[.agg #[.pointer (some ⟨1, 148, none⟩), .pointer (some a), .int .u64 150]]).run prog W = .ok (.bool false) W := by
 rw [rlm]
 simp only [Sem.run_bind, qx6, Result.andThen]
 simp [ReflectliteValue.isNil, loadVar, isAgg, underlying, z1q, ha, Result.andThen]
theorem z1r (w : World) : (Rtype.elem? 148).run prog w = .ok (some 36) w := by kernel_rfl
theorem zg9 (p : Addr) (w : World) : (ReflectliteValue.mk 36 p ReflectliteValue.flagAddr).run prog w = .ok (.agg #[.pointer (some ⟨1, 36, none⟩), .pointer (some p), .int .u64 386]) w := by kernel_rfl
theorem z56 (a p : Addr) (W : World) (ha : W.cell? a = some (.pointer (some p))) :
  (ReflectliteValue.method (ReflectliteValue.valueError "reflectlite.Value.Elem" 0) ReflectliteValue.elem #[.agg #[.pointer (some ⟨1, 148, none⟩), .pointer (some a), .int .u64 150]]).run prog W
   = .ok (.agg #[.pointer (some ⟨1, 36, none⟩), .pointer (some p), .int .u64 386]) W := by
 rw [rlm]
 simp only [Sem.run_bind, qx6, Result.andThen]
 simp [ReflectliteValue.elem, loadVar, isAgg, underlying, z1q, ha, Result.andThen, z1r, zg9]
theorem rls (v x : Value) : ReflectliteValue.set #[v, x] = (do
  let (some (dst, a, fl), some (src, b, _)) := (<- ReflectliteValue.parts v, <- ReflectliteValue.parts x)
   | unsupported (.noEntry "extern/(internal/reflectlite.Value).Set.zeroValue")
  if fl / ReflectliteValue.flagAddr % 2 == 0 then unsupported (.noEntry "extern/(internal/reflectlite.Value).Set.unaddressable")
  let val <- loadVar src b
  if <- Rtype.directlyAssignable dst src then storeVar dst a val
  else if <- Rtype.implements dst src then
   if (<- Rtype.kind src) == 20 then
    match val with
    | .nilIface => unsupported (.noEntry "extern/reflectlite: a nil value of one interface type handed on as a value of another")
    | _ => storeVar dst a val
   else storeVar dst a (.iface src val)
  else panicString ("reflectlite.Set: value of type " ++ (<- Rtype.spelt src) ++ " is not assignable to type " ++ (<- Rtype.spelt dst))
  pure (.tuple #[])) := rfl
theorem z1s (a : Addr) (w : World) : (ReflectliteValue.parts (.agg #[.pointer (some ⟨1, 36, none⟩), .pointer (some a), .int .u64 386])).run prog w = .ok (some (36, a, 386)) w := by kernel_rfl
theorem z1t (a : Addr) (w : World) : (ReflectliteValue.parts (.agg #[.pointer (some ⟨1, 36, none⟩), .pointer (some a), .int .u64 130])).run prog w = .ok (some (36, a, 130)) w := by kernel_rfl
theorem z1u (w : World) : (Rtype.directlyAssignable 36 36).run prog w = .ok true w := by kernel_rfl
theorem zcm (ta b : Addr) (n : Int) (old : Value) (W : World) (hb : W.cell? b = some (.int .i64 n)) (ht : W.cell? ta = some old) (hf : W.frozen? ta = false) :
  (ReflectliteValue.set #[.agg #[.pointer (some ⟨1, 36, none⟩), .pointer (some ta), .int .u64 386], .agg #[.pointer (some ⟨1, 36, none⟩), .pointer (some b), .int .u64 130]]).run prog W
   = .ok (.tuple #[]) (W.setCell ta (.int .i64 n)) := by
 rw [rls]
 simp only [Sem.run_bind, z1s, z1t, Result.andThen]
 simp [ReflectliteValue.flagAddr, loadVar, isAgg, underlying, z8b, hb, Result.andThen, z1u, storeVar, Value.cells, storeCells, Addr.add]
 rw [run_store prog W ta _ _ (by rfl)]
 simp [ht, hf]
inductive Chain (w : World) : Value -> Int -> Nat -> Prop
 | num (n : Int) : Chain w (.iface 36 (.int .i64 n)) n 0
 | flt (a : Addr) (u : Value) (n : Int) (k : Nat) : w.cell? ⟨a.block, a.off + 1, none⟩ = some u -> Chain w u n k -> Chain w (.iface 169 (.pointer (some a))) n (k + 1)
end Go.Aw
