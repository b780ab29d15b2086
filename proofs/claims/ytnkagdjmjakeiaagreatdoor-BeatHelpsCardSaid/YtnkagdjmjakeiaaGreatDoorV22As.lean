import Derived.Test.YtnkagdjmjakeiaaGreatDoorT22zTxt
import Derived.Test.YtnkagdjmjakeiaaGreatDoorAwD
import Derived.WalkKit
import Derived.LaidEql
import Derived.Stop.Asserts
import Derived.RowKitTokens
import Derived.Deep.LoopGhost
namespace Go.Aw
open Go Go.RowKit Go.Extern.Stop Go.Stop Go.Extern
open Go.Proofs.Tryz (prog)
open Go.Proofs
set_option linter.all false
theorem qko (t : Addr) (w : World) : (ReflectliteValue.unpack (.iface 139 (.pointer (some t)))).run prog w
  = .ok (.agg #[.pointer (some ⟨1, 139, none⟩), .pointer (some ⟨w.heap.size, 0, none⟩), .int .u64 150]) (w.alloc (.cells #[.pointer (some t)] 139)) := by kernel_rfl
theorem qrn (a : Addr) (w : World) : (ReflectliteValue.methodAny (ReflectliteValue.valueError "reflectlite.Value.Type" 0) (fun t _ _ _ => ReflectliteType.toType t) #[.agg #[.pointer (some ⟨1, 139, none⟩), .pointer (some a), .int .u64 150]]).run prog w
  = .ok (.iface 171 (.agg #[.pointer (some ⟨1, 139, none⟩)])) w := by kernel_rfl
theorem qp6 (h : Value) (w : World) : (Go.method 314 171 (.agg #[h]) "Kind").run prog w = .ok (122, h) w := by kernel_rfl
theorem qp7 (h : Value) (w : World) : (Go.method 314 171 (.agg #[h]) "Elem").run prog w = .ok (137, .agg #[h]) w := by kernel_rfl
theorem qp8 (h : Value) (w : World) : (Go.method 314 171 (.agg #[h]) "Implements").run prog w = .ok (138, .agg #[h]) w := by kernel_rfl
theorem qkp (h : Value) (w : World) : (Go.method 314 171 (.agg #[h]) "AssignableTo").run prog w = .ok (135, .agg #[h]) w := by kernel_rfl
theorem qkq (h : Value) (w : World) : (Go.method 314 148 h "Unwrap").run prog w = .ok (130, h) w := by kernel_rfl
theorem qkr (n : Int) (w : World) : (ReflectliteType.typeOf #[.iface 38 (.int .i64 n)]).run prog w = .ok (.iface 171 (.agg #[.pointer (some ⟨1, 38, none⟩)])) w := by kernel_rfl
theorem qks (v : Value) (w : World) : (ReflectliteType.typeOf #[.iface 148 v]).run prog w = .ok (.iface 171 (.agg #[.pointer (some ⟨1, 148, none⟩)])) w := by kernel_rfl
theorem qkt (w : World) : (ReflectliteType.relation "AssignableTo" ReflectliteType.assignableTo #[.agg #[.pointer (some ⟨1, 38, none⟩)], .iface 171 (.agg #[.pointer (some ⟨1, 38, none⟩)])]).run prog w = .ok (.bool true) w := by kernel_rfl
theorem qku (w : World) : (ReflectliteType.relation "AssignableTo" ReflectliteType.assignableTo #[.agg #[.pointer (some ⟨1, 148, none⟩)], .iface 171 (.agg #[.pointer (some ⟨1, 38, none⟩)])]).run prog w = .ok (.bool false) w := by kernel_rfl
theorem qp9 (w : World) : ((ReflectliteType.abiMethod fun t => (fun a : Nat => Value.int IntKind.u8 (a : Int)) <$> Rtype.kind t) #[.pointer (some ⟨1, 139, none⟩)]).run prog w = .ok (.int .u8 22) w := by kernel_rfl
theorem qpa (w : World) : ((ReflectliteType.abiMethod fun t => (fun a : Nat => Value.int IntKind.u8 (a : Int)) <$> Rtype.kind t) #[.pointer (some ⟨1, 38, none⟩)]).run prog w = .ok (.int .u8 2) w := by kernel_rfl
theorem qpb (w : World) : (ReflectliteType.method ReflectliteType.elem #[.agg #[.pointer (some ⟨1, 139, none⟩)]]).run prog w = .ok (.iface 171 (.agg #[.pointer (some ⟨1, 38, none⟩)])) w := by kernel_rfl
theorem qpc (w : World) : (ReflectliteType.relation "Implements" ReflectliteType.implements_ #[.agg #[.pointer (some ⟨1, 38, none⟩)], .iface 171 (.agg #[.pointer (some ⟨1, 106, none⟩)])]).run prog w = .ok (.bool true) w := by kernel_rfl
theorem qiw (n : Int) (w : World) : (ReflectliteValue.unpack (.iface 38 (.int .i64 n))).run prog w
  = .ok (.agg #[.pointer (some ⟨1, 38, none⟩), .pointer (some ⟨w.heap.size, 0, none⟩), .int .u64 130]) (w.alloc (.cells #[.int .i64 n] 38)) := by kernel_rfl
theorem qnc : prog.underlying 139 = some (.pointer 38) := by kernel_rfl
theorem qro : prog.underlying 38 = some (.int .i64) := by kernel_rfl
theorem rlm (z : Sem Value) (f : TypeId -> Addr -> Nat -> Nat -> Sem Value) (v : Value) :
  ReflectliteValue.method z f #[v] = (do match <- ReflectliteValue.parts v with | none => z | some (t, a, fl) => f t a fl (fl % 32)) := rfl
theorem qjq (a : Addr) (w : World) : (ReflectliteValue.parts (.agg #[.pointer (some ⟨1, 139, none⟩), .pointer (some a), .int .u64 150])).run prog w = .ok (some (139, a, 150)) w := by kernel_rfl
theorem qpd (a p : Addr) (W : World) (ha : W.cell? a = some (.pointer (some p))) :
  (ReflectliteValue.method (ReflectliteValue.valueError "reflectlite.Value.IsNil" 0) ReflectliteValue.isNil #[.agg #[.pointer (some ⟨1, 139, none⟩), .pointer (some a), .int .u64 150]]).run prog W = .ok (.bool false) W := by
 rw [rlm]
 simp only [Sem.run_bind, qjq, Result.andThen]
 simp [ReflectliteValue.isNil, loadVar, isAgg, underlying, qnc, ha, Result.andThen]
theorem qnd (w : World) : (Rtype.elem? 139).run prog w = .ok (some 38) w := by kernel_rfl
theorem qy6 (p : Addr) (w : World) : (ReflectliteValue.mk 38 p ReflectliteValue.flagAddr).run prog w = .ok (.agg #[.pointer (some ⟨1, 38, none⟩), .pointer (some p), .int .u64 386]) w := by kernel_rfl
theorem qpe (a p : Addr) (W : World) (ha : W.cell? a = some (.pointer (some p))) :
  (ReflectliteValue.method (ReflectliteValue.valueError "reflectlite.Value.Elem" 0) ReflectliteValue.elem #[.agg #[.pointer (some ⟨1, 139, none⟩), .pointer (some a), .int .u64 150]]).run prog W
   = .ok (.agg #[.pointer (some ⟨1, 38, none⟩), .pointer (some p), .int .u64 386]) W := by
 rw [rlm]
 simp only [Sem.run_bind, qjq, Result.andThen]
 simp [ReflectliteValue.elem, loadVar, isAgg, underlying, qnc, ha, Result.andThen, qnd, qy6]
theorem rls (v x : Value) : ReflectliteValue.set #[v, x] = (do
  let (some (dst, a, fl), some (src, b, _)) := (<- ReflectliteValue.parts v, <- ReflectliteValue.parts x)
   | unsupported (.noEntry "extern/(internal/reflectlite.Value).Set.zeroValue")
  if fl / ReflectliteValue.flagAddr % 2 == 0 then unsupported (.noEntry "extern/(internal/reflectlite.Value).Set.unaddressable")
  let val <- loadVar src b
  if <- Rtype.directlyAssignable dst src then storeVar dst a val
  else if <- Rtype.implements dst src then
   if (<- Rtype.kind src) == 20 then
    match val with
    | .nilIface => unsupported (.noEntry "extern/reflectlite: a nil value of one interface type handed on as a value of another")
    | _ => storeVar dst a val
   else storeVar dst a (.iface src val)
  else panicString ("reflectlite.Set: value of type " ++ (<- Rtype.spelt src) ++ " is not assignable to type " ++ (<- Rtype.spelt dst))
  pure (.tuple #[])) := rfl
theorem qne (a : Addr) (w : World) : (ReflectliteValue.parts (.agg #[.pointer (some ⟨1, 38, none⟩), .pointer (some a), .int .u64 386])).run prog w = .ok (some (38, a, 386)) w := by kernel_rfl
theorem qnf (a : Addr) (w : World) : (ReflectliteValue.parts (.agg #[.pointer (some ⟨1, 38, none⟩), .pointer (some a), .int .u64 130])).run prog w = .ok (some (38, a, 130)) w := by kernel_rfl
theorem qng (w : World) : (Rtype.directlyAssignable 38 38).run prog w = .ok true w := by kernel_rfl
theorem qvp (ta b : Addr) (n : Int) (old : Value) (W : World) (hb : W.cell? b = some (.int .i64 n)) (ht : W.cell? ta = some old) (hf : W.frozen? ta = false) :
  (ReflectliteValue.set #[.agg #[.pointer (some ⟨1, 38, none⟩), .pointer (some ta), .int .u64 386], .agg #[.pointer (some ⟨1, 38, none⟩), .pointer (some b), .int .u64 130]]).run prog W
   = .ok (.tuple #[]) (W.setCell ta (.int .i64 n)) := by
 rw [rls]
 simp only [Sem.run_bind, qne, qnf, Result.andThen]
 simp [ReflectliteValue.flagAddr, loadVar, isAgg, underlying, qro, hb, Result.andThen, qng, storeVar, Value.cells, storeCells, Addr.add]
 rw [run_store prog W ta _ _ (by rfl)]
 simp [ht, hf]
inductive Chain (w : World) : Value -> Int -> Nat -> Prop
 | num (n : Int) : Chain w (.iface 38 (.int .i64 n)) n 0
 | flt (a : Addr) (u : Value) (n : Int) (k : Nat) : w.cell? ⟨a.block, a.off + 1, none⟩ = some u -> Chain w u n k -> Chain w (.iface 148 (.pointer (some a))) n (k + 1)
end Go.Aw
