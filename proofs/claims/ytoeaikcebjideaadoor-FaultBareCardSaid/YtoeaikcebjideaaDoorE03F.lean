import Derived.Test.YtoeaikcebjideaaDoorE03E
namespace Go.Aw
open Go Go.RowKit Go.Extern.Stop Go.Stop Go.Extern
open Go.Proofs.Tryd (prog)
open Go.Proofs
set_option linter.all false

set_option maxHeartbeats 4000000 in
set_option maxRecDepth 1000000 in
theorem AsF_calls (ta p : Addr) (old : Value) (w : World) (ht : w.cell? ta = some old) (hf : w.frozen? ta = false) (hg : w.cell? ⟨0, 0, none⟩ = some (.iface 70 (.agg #[.pointer (some ⟨2, 27, none⟩)]))) :
    Calls prog 19 #[.iface 33 (.pointer (some p)), .iface 45 (.pointer (some ta))] w
      fun ev w' => ev = .returned (.bool true) ∧ w' = ((asBoxF ⟨w.heap.size, 0, none⟩ (asWF ta w)).alloc (.cells #[.pointer (some p)] 33)).setCell ta (.pointer (some p)) := by
  have h6 := @run_callFunc_extern prog 22 _ (fun args => ReflectliteValue.unpack (args.getD 0 (.tuple #[]))) Tryd.func22 (by kernel_rfl) (by kernel_rfl) (by kernel_rfl) (by kernel_rfl)
  have h7 := @run_callFunc_extern prog 23 _ (ReflectliteValue.methodAny (ReflectliteValue.valueError "reflectlite.Value.Type" 0) (fun t _ _ _ => ReflectliteType.toType t)) Tryd.func23 (by kernel_rfl) (by kernel_rfl) (by kernel_rfl) (by kernel_rfl)
  have h8 := @run_callFunc_extern prog 24 _ (ReflectliteValue.method (ReflectliteValue.valueError "reflectlite.Value.IsNil" 0) ReflectliteValue.isNil) Tryd.func24 (by kernel_rfl) (by kernel_rfl) (by kernel_rfl) (by kernel_rfl)
  have h27 := @run_callFunc_extern prog 51 _ (ReflectliteType.abiMethod fun t => do pure (.int .u8 (← Rtype.kind t))) Tryd.func51 (by kernel_rfl) (by kernel_rfl) (by kernel_rfl) (by kernel_rfl)
  have h37 := @run_callFunc_extern prog 61 _ (ReflectliteType.method ReflectliteType.elem) Tryd.func61 (by kernel_rfl) (by kernel_rfl) (by kernel_rfl) (by kernel_rfl)
  have h38 := @run_callFunc_extern prog 62 _ (ReflectliteType.relation "Implements" ReflectliteType.implements_) Tryd.func62 (by kernel_rfl) (by kernel_rfl) (by kernel_rfl) (by kernel_rfl)
  have f6 := asf_valueOf
  have f7 := asf_type
  have mK := as_mKind
  have mE := as_mElem
  have mI := as_mImpl
  have k27 := asf_kindP
  have k25 := asf_kindF
  have e27 := asf_elemP
  have i25 := asf_implF
  have htl : ta.block < w.heap.size := World.block_lt_of_cell? _ _ ht
  have hlt : 0 < w.heap.size := World.block_lt_of_cell? _ _ hg
  have n8 := asf_isNil ⟨w.heap.size, 0, none⟩ ta (asWF ta w) (by rw [World.cell?_alloc_lt _ _ ⟨w.heap.size, 0, none⟩ (by simp)]; simp)
  have hg2 : (asWF ta w).cell? ⟨0, 0, none⟩ = some (.iface 70 (.agg #[.pointer (some ⟨2, 27, none⟩)])) := by
    rw [World.cell?_alloc_lt _ _ ⟨0, 0, none⟩ (by simp), World.cell?_alloc_lt _ _ ⟨0, 0, none⟩ hlt]; exact hg
  have ac := asF_calls ta ⟨w.heap.size, 0, none⟩ p old (asWF ta w) (by rw [World.cell?_alloc_lt _ _ ⟨w.heap.size, 0, none⟩ (by simp)]; simp)
    (by rw [World.cell?_alloc_lt _ _ ta (by simp; omega), World.cell?_alloc_lt _ _ ta htl]; exact ht) (by rw [World.frozen?_alloc_old _ _ ta (by simp; omega), World.frozen?_alloc_old _ _ ta (Nat.ne_of_lt htl)]; exact hf)
  clear ht hf hg
  go_enter Tryd.func19, Tryd.ntmps19
  go_wp2_with (go_at_call 25; refine ac.mono ?_; rintro e w' ⟨rfl, rfl⟩)
  go_ret
  exact ⟨rfl, rfl⟩
set_option maxHeartbeats 4000000 in
set_option maxRecDepth 1000000 in
theorem AsFN_calls (ta : Addr) (n : Int) (old : Value) (w : World) (ht : w.cell? ta = some old) (hg : w.cell? ⟨0, 0, none⟩ = some (.iface 70 (.agg #[.pointer (some ⟨2, 27, none⟩)]))) :
    Calls prog 19 #[.iface 25 (.int .i64 n), .iface 45 (.pointer (some ta))] w
      fun ev w' => ev = .returned (.bool false) ∧ w' = asBoxF ⟨w.heap.size, 0, none⟩ (asWF ta w) := by
  have h6 := @run_callFunc_extern prog 22 _ (fun args => ReflectliteValue.unpack (args.getD 0 (.tuple #[]))) Tryd.func22 (by kernel_rfl) (by kernel_rfl) (by kernel_rfl) (by kernel_rfl)
  have h7 := @run_callFunc_extern prog 23 _ (ReflectliteValue.methodAny (ReflectliteValue.valueError "reflectlite.Value.Type" 0) (fun t _ _ _ => ReflectliteType.toType t)) Tryd.func23 (by kernel_rfl) (by kernel_rfl) (by kernel_rfl) (by kernel_rfl)
  have h8 := @run_callFunc_extern prog 24 _ (ReflectliteValue.method (ReflectliteValue.valueError "reflectlite.Value.IsNil" 0) ReflectliteValue.isNil) Tryd.func24 (by kernel_rfl) (by kernel_rfl) (by kernel_rfl) (by kernel_rfl)
  have h27 := @run_callFunc_extern prog 51 _ (ReflectliteType.abiMethod fun t => do pure (.int .u8 (← Rtype.kind t))) Tryd.func51 (by kernel_rfl) (by kernel_rfl) (by kernel_rfl) (by kernel_rfl)
  have h37 := @run_callFunc_extern prog 61 _ (ReflectliteType.method ReflectliteType.elem) Tryd.func61 (by kernel_rfl) (by kernel_rfl) (by kernel_rfl) (by kernel_rfl)
  have h38 := @run_callFunc_extern prog 62 _ (ReflectliteType.relation "Implements" ReflectliteType.implements_) Tryd.func62 (by kernel_rfl) (by kernel_rfl) (by kernel_rfl) (by kernel_rfl)
  have f6 := asf_valueOf
  have f7 := asf_type
  have mK := as_mKind
  have mE := as_mElem
  have mI := as_mImpl
  have k27 := asf_kindP
  have k25 := asf_kindF
  have e27 := asf_elemP
  have i25 := asf_implF
  have htl : ta.block < w.heap.size := World.block_lt_of_cell? _ _ ht
  have hlt : 0 < w.heap.size := World.block_lt_of_cell? _ _ hg
  have n8 := asf_isNil ⟨w.heap.size, 0, none⟩ ta (asWF ta w) (by rw [World.cell?_alloc_lt _ _ ⟨w.heap.size, 0, none⟩ (by simp)]; simp)
  have hg2 : (asWF ta w).cell? ⟨0, 0, none⟩ = some (.iface 70 (.agg #[.pointer (some ⟨2, 27, none⟩)])) := by
    rw [World.cell?_alloc_lt _ _ ⟨0, 0, none⟩ (by simp), World.cell?_alloc_lt _ _ ⟨0, 0, none⟩ hlt]; exact hg
  have ac := asN_calls ta ⟨w.heap.size, 0, none⟩ n (asWF ta w) (by rw [World.cell?_alloc_lt _ _ ⟨w.heap.size, 0, none⟩ (by simp)]; simp)
  clear ht hg
  go_enter Tryd.func19, Tryd.ntmps19
  go_wp2_with (go_at_call 25; refine ac.mono ?_; rintro e w' ⟨rfl, rfl⟩)
  go_ret
  exact ⟨rfl, rfl⟩
end Go.Aw
