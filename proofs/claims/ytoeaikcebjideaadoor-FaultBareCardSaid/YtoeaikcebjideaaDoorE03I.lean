import Derived.Test.YtoeaikcebjideaaDoorE03G
namespace Go
section
variable {P : Program} (w : World)
theorem run_equalIn_ifc_int (d : Nat) {ti tn : TypeId} {ms : Array (String × TypeId)} {i : TypeInfo} {k : IntKind} (a b : Int)
    (hi : P.underlying ti = some (.interface ms)) (hn : P.underlying tn = some (.int k)) (hinfo : P.info? tn = some i) (hcomp : i.comparable = true) :
    (Op.equalIn (d + 2) ti (.iface tn (.int k a)) (.iface tn (.int k b))).run P w = .ok (a == b) w := by
  simp [Op.equalIn, run_underlying hi, run_underlying hn, typeInfo, hinfo, hcomp]
theorem run_eql_ifc_int {ti tn : TypeId} {ms : Array (String × TypeId)} {i : TypeInfo} {k : IntKind} (a b : Int)
    (hi : P.underlying ti = some (.interface ms)) (hn : P.underlying tn = some (.int k)) (hinfo : P.info? tn = some i) (hcomp : i.comparable = true) :
    (binOp .eql ti (.iface tn (.int k a)) (.iface tn (.int k b))).run P w = .ok (.bool (a == b)) w := by
  simp only [binOp]
  simp [Op.equal, Op.maxDepth, run_equalIn_ifc_int w 9998 a b hi hn hinfo hcomp]
end
end Go
namespace Go.Aw
open Go Go.RowKit Go.Extern.Stop Go.Stop Go.Extern
open Go.Proofs.Tryd (prog)
open Go.Proofs
set_option linter.all false

theorem is_comparable (w : World) : ((ReflectliteType.method fun t => do
    Rtype.noPackHeld "Comparable" t
    (fun a => Value.bool a.comparable) <$> typeInfo t) #[.agg #[.pointer (some ⟨2, 25, none⟩)]]).run prog w = .ok (.bool true) w := by kernel_rfl
theorem is_mComparable (h : Value) (w : World) : (Go.method 215 70 (.agg #[h]) "Comparable").run prog w = .ok (60, .agg #[h]) w := by kernel_rfl
theorem is_und27 : prog.underlying 27 = some (.interface #[("Error", 36)]) := by kernel_rfl
theorem is_noIsN (v : Value) (w : World) : (Instr.typeAssert (.iface 25 v) 27 82 true).run prog w = .ok (.tuple #[.nilIface, .bool false]) w :=
  run_typeAssert_lacksB (want := #[("Is", 84)]) (by kernel_rfl) (by kernel_rfl) (by kernel_rfl) v 27 w
theorem is_noIsF (v : Value) (w : World) : (Instr.typeAssert (.iface 33 v) 27 82 true).run prog w = .ok (.tuple #[.nilIface, .bool false]) w :=
  run_typeAssert_lacksB (want := #[("Is", 84)]) (by kernel_rfl) (by kernel_rfl) (by kernel_rfl) v 27 w
theorem is_comp25 : (prog.info? 25).map (·.comparable) = some true := by kernel_rfl

set_option maxHeartbeats 4000000 in
set_option maxRecDepth 1000000 in
theorem is_calls (e : Value) (n m : Int) (k : Nat) (w : World) (hc : Chain w e n k) :
    Calls prog 30 #[e, .iface 25 (.int .i64 m), .bool true] w fun ev w' => ev = .returned (.bool (n == m)) ∧ w' = w := by
  obtain ⟨i, hi, hcmp⟩ := Option.map_eq_some_iff.1 is_comp25
  have n1 := is_noIsN
  have n2 := is_noIsF
  have n3 := asf_noUnN
  have n4 := asf_noUn2N
  have hU := as_hasUn
  have mU := as_mUnwrap
  have hc' := hc
  clear hc
  go_enter Tryd.func30, Tryd.ntmps30
  go_wp2
  go_loopg [0] (k + 1) (fun g t wr => w = wr ∧ ∃ j, g = j + 1 ∧ Chain w t n j)
  case atStart => exact ⟨rfl, k, rfl, hc'⟩
  case round =>
    obtain ⟨rfl, j, hg, hcc⟩ := hrel
    clear hc'
    cases hcc with
    | num =>
      have heq := fun w => run_eql_ifc_int (P := prog) w n m is_und27 as_undN hi hcmp
      by_cases hnm : n = m
      · have hb : (n == m) = true := by simp [hnm]
        clear hnm
        simp only [hb] at heq
        go_wp2
        go_ret
        refine ⟨?_, rfl⟩
        rw [hb]; rfl
      · have hb : (n == m) = false := by simp [hnm]
        simp only [hb] at heq
        go_wp2
        go_ret
        refine ⟨?_, rfl⟩
        rw [hb]; rfl
    | flt a u n' k' hu hc2 =>
      have hty := fun w => run_eql_iface_types (P := prog) 33 25 (.pointer (some a)) (.int .i64 m) is_und27 (by decide) w
      have uw := unwrap_calls a u w hu
      obtain ⟨tu, vu, rfl⟩ : ∃ t v, u = .iface t v := by cases hc2 <;> exact ⟨_, _, rfl⟩
      have hu' := hu
      have A : Aside (gk = k' + 1 + 1 ∧ Chain w (.iface tu vu) n k') := ⟨hg, hc2⟩
      clear hu hc2 hg
      go_wp2_with (go_at_call 15; refine (unwrap_calls a (.iface tu vu) _ ?_).mono ?_; exact hu'; rintro e w' ⟨rfl, rfl⟩)
      go_roundg (k' + 1)
      case measure => obtain ⟨h1, h2⟩ := A.out; omega
      case rel => exact ⟨rfl, k', rfl, A.out.2⟩
set_option maxHeartbeats 4000000 in
set_option maxRecDepth 1000000 in
theorem Is_calls (e : Value) (n m : Int) (k : Nat) (w : World) (hc : Chain w e n k) :
    Calls prog 21 #[e, .iface 25 (.int .i64 m)] w fun ev w' => ev = .returned (.bool (n == m)) ∧ w' = w := by
  have h10 := @run_callFunc_extern prog 29 _ ReflectliteType.typeOf Tryd.func29 (by kernel_rfl) (by kernel_rfl) (by kernel_rfl) (by kernel_rfl)
  have h60 := @run_callFunc_extern prog 60 _ (ReflectliteType.method fun t => do Rtype.noPackHeld "Comparable" t; pure (.bool (← typeInfo t).comparable)) Tryd.func60 (by kernel_rfl) (by kernel_rfl) (by kernel_rfl) (by kernel_rfl)
  have tN := as_typeOfN
  have mC := is_mComparable
  have cC := is_comparable
  have ic := is_calls e n m k w hc
  obtain ⟨te, ve, rfl⟩ : ∃ t v, e = .iface t v := by cases hc <;> exact ⟨_, _, rfl⟩
  clear hc
  go_enter Tryd.func21, Tryd.ntmps21
  go_wp2_with (go_at_call 30; refine ic.mono ?_; rintro e w' ⟨rfl, rfl⟩)
  go_ret
  exact ⟨rfl, rfl⟩
end Go.Aw
