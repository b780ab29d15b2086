import Derived.Test.YtmicojcojlgefaaK29M17A
import Derived.Test.YtmicojcojlgefaaAwD
namespace Go.Aw
open Go
set_option linter.all false
set_option maxHeartbeats 4000000

theorem len_of_max {n : Nat} (h : n ≤ maxLen) : Len n := by unfold Len; unfold maxLen at h; omega
theorem rd_of1 {p : List AV} (h : Fits (.st [.str, .int .u64]) p) : ∃ r : Rd, p = rdC r ∧ (Len r.k.length ∧ 0 ≤ r.n ∧ r.n < 18446744073709551616) := by
  simp only [Fits, FitsL] at h
  obtain ⟨a, b, rfl, ⟨k, rfl, hk⟩, c, d, rfl, ⟨n, rfl, hn⟩, rfl⟩ := h
  exact ⟨⟨k, n⟩, rfl, len_of_max hk, wf_u64 hn⟩
theorem wt_of1 {p : List AV} (h : Fits (.st [.str, .str, .bool]) p) : ∃ r : Wt, p = wtC r ∧ (Len r.k.length ∧ Len r.v.length) := by
  simp only [Fits, FitsL] at h
  obtain ⟨a, b, rfl, ⟨k, rfl, hk⟩, c, d, rfl, ⟨v, rfl, hv⟩, e, f, rfl, ⟨g, rfl⟩, rfl⟩ := h
  exact ⟨⟨k, v, g⟩, rfl, len_of_max hk, len_of_max hv⟩
def U64 (n : Int) : Prop := 0 ≤ n ∧ n < 18446744073709551616
structure Tx.Arg (t : Tx) : Prop where
  w : t.Wide
  sq : U64 t.sq
  cl : I64 t.cl
  r : ∀ r ∈ t.rs, U64 r.n
structure En.Arg (e : En) : Prop where
  t : e.t.Arg
  ep : U64 e.ep
  sq : U64 e.sq
  kd : I64 e.kd
  cl : I64 e.cl
  co : I64 e.co
/-- With the lengths behind which its slices may grow. -/
structure EnK where
  e : En
  k1 : Option Nat
  k2 : Option Nat
structure RfQ where
  c : Rf
  k : Option Nat
structure Rf.Arg (c : Rf) : Prop where
  l : Len c.l.length
  ep : U64 c.ep
  sh : I64 c.sh
  ln : I64 c.ln
  m : ∀ m ∈ c.l, I64 m.1
structure Vt.Arg (v : Vt) : Prop where
  sl : I64 v.sl
  rd : U64 v.rd
  nd : I64 v.nd
  v : Len v.v.length
structure Lt.Arg (l : Lt Rf) : Prop where
  fk : I64 l.fk
  fn : I64 l.fn
  tk : I64 l.tk
  tn : I64 l.tn
  k : I64 l.k
  sh : I64 l.sh
  ep : U64 l.ep
  n : I64 l.n
  m : I64 l.m
  nd : I64 l.nd
  br : U64 l.br
  bn : I64 l.bn
  vs : ∀ v ∈ l.vs, v.Arg
  cs : ∀ c ∈ l.cs, c.Arg
  es : ∀ e ∈ l.es, e.Arg
  t : l.t.Arg
  cl : I64 l.cl
  sq : U64 l.sq
  q : U64 l.q
  co : I64 l.co
  wide : l.Wide
end Go.Aw

