import Derived.Test.YtoeaikcebjideaaDoorE03Ds
namespace Go.Aw
open Go Go.RowKit Go.Extern.Stop Go.Stop Go.Extern
open Go.Proofs.Tryd (prog)
open Go.Proofs
set_option linter.all false

/-! errors.As at a target of the faults' own type. -/
theorem asf_valueOf (t : Addr) (w : World) : (ReflectliteValue.unpack (.iface 45 (.pointer (some t)))).run prog w
    = .ok (.agg #[.pointer (some ⟨2, 45, none⟩), .pointer (some ⟨w.heap.size, 0, none⟩), .int .u64 150]) (w.alloc (.cells #[.pointer (some t)] 45)) := by kernel_rfl
theorem asf_type (a : Addr) (w : World) : (ReflectliteValue.methodAny (ReflectliteValue.valueError "reflectlite.Value.Type" 0) (fun t _ _ _ => ReflectliteType.toType t) #[.agg #[.pointer (some ⟨2, 45, none⟩), .pointer (some a), .int .u64 150]]).run prog w
    = .ok (.iface 70 (.agg #[.pointer (some ⟨2, 45, none⟩)])) w := by kernel_rfl
theorem asf_assignF (w : World) : (ReflectliteType.relation "AssignableTo" ReflectliteType.assignableTo #[.agg #[.pointer (some ⟨2, 33, none⟩)], .iface 70 (.agg #[.pointer (some ⟨2, 33, none⟩)])]).run prog w = .ok (.bool true) w := by kernel_rfl
theorem asf_assignN (w : World) : (ReflectliteType.relation "AssignableTo" ReflectliteType.assignableTo #[.agg #[.pointer (some ⟨2, 25, none⟩)], .iface 70 (.agg #[.pointer (some ⟨2, 33, none⟩)])]).run prog w = .ok (.bool false) w := by kernel_rfl
theorem asf_kindP (w : World) : ((ReflectliteType.abiMethod fun t => (fun a : Nat => Value.int IntKind.u8 (a : Int)) <$> Rtype.kind t) #[.pointer (some ⟨2, 45, none⟩)]).run prog w = .ok (.int .u8 22) w := by kernel_rfl
theorem asf_kindF (w : World) : ((ReflectliteType.abiMethod fun t => (fun a : Nat => Value.int IntKind.u8 (a : Int)) <$> Rtype.kind t) #[.pointer (some ⟨2, 33, none⟩)]).run prog w = .ok (.int .u8 22) w := by kernel_rfl
theorem asf_elemP (w : World) : (ReflectliteType.method ReflectliteType.elem #[.agg #[.pointer (some ⟨2, 45, none⟩)]]).run prog w = .ok (.iface 70 (.agg #[.pointer (some ⟨2, 33, none⟩)])) w := by kernel_rfl
theorem asf_implF (w : World) : (ReflectliteType.relation "Implements" ReflectliteType.implements_ #[.agg #[.pointer (some ⟨2, 33, none⟩)], .iface 70 (.agg #[.pointer (some ⟨2, 27, none⟩)])]).run prog w = .ok (.bool true) w := by kernel_rfl
theorem asf_valueOfF (a : Addr) (w : World) : (ReflectliteValue.unpack (.iface 33 (.pointer (some a)))).run prog w
    = .ok (.agg #[.pointer (some ⟨2, 33, none⟩), .pointer (some ⟨w.heap.size, 0, none⟩), .int .u64 150]) (w.alloc (.cells #[.pointer (some a)] 33)) := by kernel_rfl
theorem asf_undPP : prog.underlying 45 = some (.pointer 33) := by kernel_rfl
theorem asf_undP : prog.underlying 33 = some (.pointer 35) := by kernel_rfl
theorem asf_parts (a : Addr) (w : World) : (ReflectliteValue.parts (.agg #[.pointer (some ⟨2, 45, none⟩), .pointer (some a), .int .u64 150])).run prog w = .ok (some (45, a, 150)) w := by kernel_rfl
theorem asf_isNil (a p : Addr) (W : World) (ha : W.cell? a = some (.pointer (some p))) :
    (ReflectliteValue.method (ReflectliteValue.valueError "reflectlite.Value.IsNil" 0) ReflectliteValue.isNil #[.agg #[.pointer (some ⟨2, 45, none⟩), .pointer (some a), .int .u64 150]]).run prog W = .ok (.bool false) W := by
  rw [rlm]
  simp only [Sem.run_bind, asf_parts, Result.andThen]
  simp [ReflectliteValue.isNil, loadVar, isAgg, underlying, asf_undPP, ha, Result.andThen]
theorem asf_elemOf (w : World) : (Rtype.elem? 45).run prog w = .ok (some 33) w := by kernel_rfl
theorem asf_mk (p : Addr) (w : World) : (ReflectliteValue.mk 33 p ReflectliteValue.flagAddr).run prog w = .ok (.agg #[.pointer (some ⟨2, 33, none⟩), .pointer (some p), .int .u64 406]) w := by kernel_rfl
theorem asf_elemV (a p : Addr) (W : World) (ha : W.cell? a = some (.pointer (some p))) :
    (ReflectliteValue.method (ReflectliteValue.valueError "reflectlite.Value.Elem" 0) ReflectliteValue.elem #[.agg #[.pointer (some ⟨2, 45, none⟩), .pointer (some a), .int .u64 150]]).run prog W
      = .ok (.agg #[.pointer (some ⟨2, 33, none⟩), .pointer (some p), .int .u64 406]) W := by
  rw [rlm]
  simp only [Sem.run_bind, asf_parts, Result.andThen]
  simp [ReflectliteValue.elem, loadVar, isAgg, underlying, asf_undPP, ha, Result.andThen, asf_elemOf, asf_mk]
theorem asf_partsA (a : Addr) (w : World) : (ReflectliteValue.parts (.agg #[.pointer (some ⟨2, 33, none⟩), .pointer (some a), .int .u64 406])).run prog w = .ok (some (33, a, 406)) w := by kernel_rfl
theorem asf_partsB (a : Addr) (w : World) : (ReflectliteValue.parts (.agg #[.pointer (some ⟨2, 33, none⟩), .pointer (some a), .int .u64 150])).run prog w = .ok (some (33, a, 150)) w := by kernel_rfl
theorem asf_direct (w : World) : (Rtype.directlyAssignable 33 33).run prog w = .ok true w := by kernel_rfl
theorem asf_set (ta b p : Addr) (old : Value) (W : World) (hb : W.cell? b = some (.pointer (some p))) (ht : W.cell? ta = some old) (hf : W.frozen? ta = false) :
    (ReflectliteValue.set #[.agg #[.pointer (some ⟨2, 33, none⟩), .pointer (some ta), .int .u64 406], .agg #[.pointer (some ⟨2, 33, none⟩), .pointer (some b), .int .u64 150]]).run prog W
      = .ok (.tuple #[]) (W.setCell ta (.pointer (some p))) := by
  rw [rls]
  simp only [Sem.run_bind, asf_partsA, asf_partsB, Result.andThen]
  simp [ReflectliteValue.flagAddr, loadVar, isAgg, underlying, asf_undP, hb, Result.andThen, asf_direct, storeVar, Value.cells, storeCells, Addr.add]
  rw [run_store prog W ta _ _ (by rfl)]
  simp [ht, hf]
theorem asf_noAsN (v : Value) (w : World) : (Instr.typeAssert (.iface 25 v) 27 74 true).run prog w = .ok (.tuple #[.nilIface, .bool false]) w :=
  run_typeAssert_lacksB (want := #[("As", 76)]) (by kernel_rfl) (by kernel_rfl) (by kernel_rfl) v 27 w
theorem asf_noUnN (v : Value) (w : World) : (Instr.typeAssert (.iface 25 v) 27 77 true).run prog w = .ok (.tuple #[.nilIface, .bool false]) w :=
  run_typeAssert_lacksB (want := #[("Unwrap", 37)]) (by kernel_rfl) (by kernel_rfl) (by kernel_rfl) v 27 w
theorem asf_noUn2N (v : Value) (w : World) : (Instr.typeAssert (.iface 25 v) 27 78 true).run prog w = .ok (.tuple #[.nilIface, .bool false]) w :=
  run_typeAssert_lacksB (want := #[("Unwrap", 80)]) (by kernel_rfl) (by kernel_rfl) (by kernel_rfl) v 27 w
abbrev asBoxF (va : Addr) (w : World) : World := w.alloc (.cells #[.pointer (some ⟨2, 45, none⟩), .pointer (some va), .int .u64 150] 51)
abbrev asWF (ta : Addr) (w : World) : World := (w.alloc (.cells #[.pointer (some ta)] 45)).alloc (.cells #[.pointer (some ⟨2, 45, none⟩), .pointer (some ⟨w.heap.size, 0, none⟩), .int .u64 150] 51)

set_option maxHeartbeats 4000000 in
set_option maxRecDepth 1000000 in
theorem asF_calls (ta va p : Addr) (old : Value) (w : World) (hv : w.cell? va = some (.pointer (some ta))) (ht : w.cell? ta = some old) (hf : w.frozen? ta = false) :
    Calls prog 25 #[.iface 33 (.pointer (some p)), .iface 45 (.pointer (some ta)), .agg #[.pointer (some ⟨2, 45, none⟩), .pointer (some va), .int .u64 150], .iface 70 (.agg #[.pointer (some ⟨2, 33, none⟩)])] w
      fun ev w' => ev = .returned (.bool true) ∧ w' = ((asBoxF va w).alloc (.cells #[.pointer (some p)] 33)).setCell ta (.pointer (some p)) := by
  have h10 := @run_callFunc_extern prog 29 _ ReflectliteType.typeOf Tryd.func29 (by kernel_rfl) (by kernel_rfl) (by kernel_rfl) (by kernel_rfl)
  have h35 := @run_callFunc_extern prog 59 _ (ReflectliteType.relation "AssignableTo" ReflectliteType.assignableTo) Tryd.func59 (by kernel_rfl) (by kernel_rfl) (by kernel_rfl) (by kernel_rfl)
  have h11 := @run_callFunc_extern prog 31 _ (ReflectliteValue.method (ReflectliteValue.valueError "reflectlite.Value.Elem" 0) ReflectliteValue.elem) Tryd.func31 (by kernel_rfl) (by kernel_rfl) (by kernel_rfl) (by kernel_rfl)
  have h6 := @run_callFunc_extern prog 22 _ (fun args => ReflectliteValue.unpack (args.getD 0 (.tuple #[]))) Tryd.func22 (by kernel_rfl) (by kernel_rfl) (by kernel_rfl) (by kernel_rfl)
  have h12 := @run_callFunc_extern prog 32 _ ReflectliteValue.set Tryd.func32 (by kernel_rfl) (by kernel_rfl) (by kernel_rfl) (by kernel_rfl)
  have tF := as_typeOfF
  have aF := asf_assignF
  have mA := as_mAssign
  have vF := asf_valueOfF
  have hvl : va.block < w.heap.size := World.block_lt_of_cell? _ _ hv
  have htl : ta.block < w.heap.size := World.block_lt_of_cell? _ _ ht
  have el := asf_elemV va ta (asBoxF va w) (by rw [World.cell?_alloc_lt _ _ va hvl]; exact hv)
  have st := asf_set ta ⟨w.heap.size + 1, 0, none⟩ p old ((asBoxF va w).alloc (.cells #[.pointer (some p)] 33)) (by rw [World.cell?_alloc_at _ _ _ _ (by simp)]; rfl)
    (by rw [World.cell?_alloc_lt _ _ ta (by simp; omega), World.cell?_alloc_lt _ _ ta htl]; exact ht) (by rw [World.frozen?_alloc_old _ _ ta (by simp; omega), World.frozen?_alloc_old _ _ ta (Nat.ne_of_lt htl)]; exact hf)
  clear hv ht hf
  go_enter Tryd.func25, Tryd.ntmps25
  go_wp2
  go_loopg [0] 1 (fun g t wr => asBoxF va w = wr ∧ g = 1 ∧ t = .iface 33 (.pointer (some p)))
  case atStart => exact ⟨rfl, rfl, rfl⟩
  case round =>
    obtain ⟨rfl, hg, rfl⟩ := hrel
    go_wp2
    go_ret
    exact ⟨rfl, rfl⟩
set_option maxHeartbeats 4000000 in
set_option maxRecDepth 1000000 in
theorem asN_calls (ta va : Addr) (n : Int) (w : World) (hv : w.cell? va = some (.pointer (some ta))) :
    Calls prog 25 #[.iface 25 (.int .i64 n), .iface 45 (.pointer (some ta)), .agg #[.pointer (some ⟨2, 45, none⟩), .pointer (some va), .int .u64 150], .iface 70 (.agg #[.pointer (some ⟨2, 33, none⟩)])] w
      fun ev w' => ev = .returned (.bool false) ∧ w' = asBoxF va w := by
  have h10 := @run_callFunc_extern prog 29 _ ReflectliteType.typeOf Tryd.func29 (by kernel_rfl) (by kernel_rfl) (by kernel_rfl) (by kernel_rfl)
  have h35 := @run_callFunc_extern prog 59 _ (ReflectliteType.relation "AssignableTo" ReflectliteType.assignableTo) Tryd.func59 (by kernel_rfl) (by kernel_rfl) (by kernel_rfl) (by kernel_rfl)
  have tN := as_typeOfN
  have aN := asf_assignN
  have mA := as_mAssign
  have n1 := asf_noAsN
  have n2 := asf_noUnN
  have n3 := asf_noUn2N
  clear hv
  go_enter Tryd.func25, Tryd.ntmps25
  go_wp2
  go_loopg [0] 1 (fun g t wr => asBoxF va w = wr ∧ g = 1 ∧ t = .iface 25 (.int .i64 n))
  case atStart => exact ⟨rfl, rfl, rfl⟩
  case round =>
    obtain ⟨rfl, hg, rfl⟩ := hrel
    go_wp2
    go_ret
    exact ⟨rfl, rfl⟩
end Go.Aw
