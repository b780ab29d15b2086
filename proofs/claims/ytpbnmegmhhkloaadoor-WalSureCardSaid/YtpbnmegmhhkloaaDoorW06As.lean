import Derived.Test.YtpbnmegmhhkloaaDoorT06Txt
import Derived.Test.YtpbnmegmhhkloaaDoorAwD
import Derived.WalkKit
import Derived.LaidEql
import Derived.Stop.Asserts
import Derived.RowKitTokens
import Derived.Deep.LoopGhost
namespace Go.Aw
open Go Go.RowKit Go.Extern.Stop Go.Stop Go.Extern
open Go.Proofs.Tryd (prog)
open Go.Proofs
set_option linter.all false
theorem qh1 (t : Addr) (w : World) : (ReflectliteValue.unpack (.iface 101 (.pointer (some t)))).run prog w
  = .ok (.agg #[.pointer (some ⟨1, 101, none⟩), .pointer (some ⟨w.heap.size, 0, none⟩), .int .u64 150]) (w.alloc (.cells #[.pointer (some t)] 101)) := by kernel_rfl
theorem qod (a : Addr) (w : World) : (ReflectliteValue.methodAny (ReflectliteValue.valueError "reflectlite.Value.Type" 0) (fun t _ _ _ => ReflectliteType.toType t) #[.agg #[.pointer (some ⟨1, 101, none⟩), .pointer (some a), .int .u64 150]]).run prog w
  = .ok (.iface 118 (.agg #[.pointer (some ⟨1, 101, none⟩)])) w := by kernel_rfl
theorem qm9 (h : Value) (w : World) : (Go.method 258 118 (.agg #[h]) "Kind").run prog w = .ok (83, h) w := by kernel_rfl
theorem qma (h : Value) (w : World) : (Go.method 258 118 (.agg #[h]) "Elem").run prog w = .ok (95, .agg #[h]) w := by kernel_rfl
theorem qmb (h : Value) (w : World) : (Go.method 258 118 (.agg #[h]) "Implements").run prog w = .ok (96, .agg #[h]) w := by kernel_rfl
theorem qh2 (h : Value) (w : World) : (Go.method 258 118 (.agg #[h]) "AssignableTo").run prog w = .ok (93, .agg #[h]) w := by kernel_rfl
theorem qh3 (h : Value) (w : World) : (Go.method 258 93 h "Unwrap").run prog w = .ok (88, h) w := by kernel_rfl
theorem qh4 (n : Int) (w : World) : (ReflectliteType.typeOf #[.iface 25 (.int .i64 n)]).run prog w = .ok (.iface 118 (.agg #[.pointer (some ⟨1, 25, none⟩)])) w := by kernel_rfl
theorem qh5 (v : Value) (w : World) : (ReflectliteType.typeOf #[.iface 93 v]).run prog w = .ok (.iface 118 (.agg #[.pointer (some ⟨1, 93, none⟩)])) w := by kernel_rfl
theorem qh6 (w : World) : (ReflectliteType.relation "AssignableTo" ReflectliteType.assignableTo #[.agg #[.pointer (some ⟨1, 25, none⟩)], .iface 118 (.agg #[.pointer (some ⟨1, 25, none⟩)])]).run prog w = .ok (.bool true) w := by kernel_rfl
theorem qh7 (w : World) : (ReflectliteType.relation "AssignableTo" ReflectliteType.assignableTo #[.agg #[.pointer (some ⟨1, 93, none⟩)], .iface 118 (.agg #[.pointer (some ⟨1, 25, none⟩)])]).run prog w = .ok (.bool false) w := by kernel_rfl
theorem qmc (w : World) : ((ReflectliteType.abiMethod fun t => (fun a : Nat => Value.int IntKind.u8 (a : Int)) <$> Rtype.kind t) #[.pointer (some ⟨1, 101, none⟩)]).run prog w = .ok (.int .u8 22) w := by kernel_rfl
theorem qmd (w : World) : ((ReflectliteType.abiMethod fun t => (fun a : Nat => Value.int IntKind.u8 (a : Int)) <$> Rtype.kind t) #[.pointer (some ⟨1, 25, none⟩)]).run prog w = .ok (.int .u8 2) w := by kernel_rfl
theorem qme (w : World) : (ReflectliteType.method ReflectliteType.elem #[.agg #[.pointer (some ⟨1, 101, none⟩)]]).run prog w = .ok (.iface 118 (.agg #[.pointer (some ⟨1, 25, none⟩)])) w := by kernel_rfl
theorem qmf (w : World) : (ReflectliteType.relation "Implements" ReflectliteType.implements_ #[.agg #[.pointer (some ⟨1, 25, none⟩)], .iface 118 (.agg #[.pointer (some ⟨1, 77, none⟩)])]).run prog w = .ok (.bool true) w := by kernel_rfl
theorem qer (n : Int) (w : World) : (ReflectliteValue.unpack (.iface 25 (.int .i64 n))).run prog w
  = .ok (.agg #[.pointer (some ⟨1, 25, none⟩), .pointer (some ⟨w.heap.size, 0, none⟩), .int .u64 130]) (w.alloc (.cells #[.int .i64 n] 25)) := by kernel_rfl
theorem qjq : prog.underlying 101 = some (.pointer 25) := by kernel_rfl
theorem qoe : prog.underlying 25 = some (.int .i64) := by kernel_rfl
theorem rlm (z : Sem Value) (f : TypeId -> Addr -> Nat -> Nat -> Sem Value) (v : Value) :
  ReflectliteValue.method z f #[v] = (do match <- ReflectliteValue.parts v with | none => z | some (t, a, fl) => f t a fl (fl % 32)) := rfl
theorem qfm (a : Addr) (w : World) : (ReflectliteValue.parts (.agg #[.pointer (some ⟨1, 101, none⟩), .pointer (some a), .int .u64 150])).run prog w = .ok (some (101, a, 150)) w := by kernel_rfl
theorem qmg (a p : Addr) (W : World) (ha : W.cell? a = some (.pointer (some p))) :
  (ReflectliteValue.method (ReflectliteValue.valueError "reflectlite.Value.IsNil" 0) ReflectliteValue.isNil #[.agg #[.pointer (some ⟨1, 101, none⟩), .pointer (some a), .int .u64 150]]).run prog W = .ok (.bool false) W := by
 rw [rlm]
 simp only [Sem.run_bind, qfm, Result.andThen]
 simp [ReflectliteValue.isNil, loadVar, isAgg, underlying, qjq, ha, Result.andThen]
theorem qjr (w : World) : (Rtype.elem? 101).run prog w = .ok (some 25) w := by kernel_rfl
theorem qvc (p : Addr) (w : World) : (ReflectliteValue.mk 25 p ReflectliteValue.flagAddr).run prog w = .ok (.agg #[.pointer (some ⟨1, 25, none⟩), .pointer (some p), .int .u64 386]) w := by kernel_rfl
theorem qmh (a p : Addr) (W : World) (ha : W.cell? a = some (.pointer (some p))) :
  (ReflectliteValue.method (ReflectliteValue.valueError "reflectlite.Value.Elem" 0) ReflectliteValue.elem #[.agg #[.pointer (some ⟨1, 101, none⟩), .pointer (some a), .int .u64 150]]).run prog W
   = .ok (.agg #[.pointer (some ⟨1, 25, none⟩), .pointer (some p), .int .u64 386]) W := by
 rw [rlm]
 simp only [Sem.run_bind, qfm, Result.andThen]
 simp [ReflectliteValue.elem, loadVar, isAgg, underlying, qjq, ha, Result.andThen, qjr, qvc]
theorem rls (v x : Value) : ReflectliteValue.set #[v, x] = (do
  let (some (dst, a, fl), some (src, b, _)) := (<- ReflectliteValue.parts v, <- ReflectliteValue.parts x)
   | unsupported (.noEntry "extern/(internal/reflectlite.Value).Set.zeroValue")
  if fl / ReflectliteValue.flagAddr % 2 == 0 then unsupported (.noEntry "extern/(internal/reflectlite.Value).Set.unaddressable")
  let val <- loadVar src b
  if <- Rtype.directlyAssignable dst src then storeVar dst a val
  else if <- Rtype.implements dst src then
   if (<- Rtype.kind src) == 20 then
    match val with
    | .nilIface => unsupported (.noEntry "extern/reflectlite: a nil value of one interface type handed on as a value of another")
    | _ => storeVar dst a val
   else storeVar dst a (.iface src val)
  else panicString ("reflectlite.Set: value of type " ++ (<- Rtype.spelt src) ++ " is not assignable to type " ++ (<- Rtype.spelt dst))
  pure (.tuple #[])) := rfl
theorem qjs (a : Addr) (w : World) : (ReflectliteValue.parts (.agg #[.pointer (some ⟨1, 25, none⟩), .pointer (some a), .int .u64 386])).run prog w = .ok (some (25, a, 386)) w := by kernel_rfl
theorem qjt (a : Addr) (w : World) : (ReflectliteValue.parts (.agg #[.pointer (some ⟨1, 25, none⟩), .pointer (some a), .int .u64 130])).run prog w = .ok (some (25, a, 130)) w := by kernel_rfl
theorem qju (w : World) : (Rtype.directlyAssignable 25 25).run prog w = .ok true w := by kernel_rfl
theorem qsi (ta b : Addr) (n : Int) (old : Value) (W : World) (hb : W.cell? b = some (.int .i64 n)) (ht : W.cell? ta = some old) (hf : W.frozen? ta = false) :
  (ReflectliteValue.set #[.agg #[.pointer (some ⟨1, 25, none⟩), .pointer (some ta), .int .u64 386], .agg #[.pointer (some ⟨1, 25, none⟩), .pointer (some b), .int .u64 130]]).run prog W
   = .ok (.tuple #[]) (W.setCell ta (.int .i64 n)) := by
 rw [rls]
 simp only [Sem.run_bind, qjs, qjt, Result.andThen]
 simp [ReflectliteValue.flagAddr, loadVar, isAgg, underlying, qoe, hb, Result.andThen, qju, storeVar, Value.cells, storeCells, Addr.add]
 rw [run_store prog W ta _ _ (by rfl)]
 simp [ht, hf]
inductive Chain (w : World) : Value -> Int -> Nat -> Prop
 | num (n : Int) : Chain w (.iface 25 (.int .i64 n)) n 0
 | flt (a : Addr) (u : Value) (n : Int) (k : Nat) : w.cell? ⟨a.block, a.off + 1, none⟩ = some u -> Chain w u n k -> Chain w (.iface 93 (.pointer (some a))) n (k + 1)
end Go.Aw
