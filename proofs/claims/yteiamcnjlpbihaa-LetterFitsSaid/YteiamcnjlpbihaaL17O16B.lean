import Derived.Test.YteiamcnjlpbihaaL17S12C
import Derived.Test.YteiamcnjlpbihaaL17S12A
import Derived.Test.YteiamcnjlpbihaaL17T16J
import Derived.Test.YteiamcnjlpbihaaL17S12H
namespace Go.Aw
open Go
open Go.Proofs.Try (prog)
set_option linter.all false
set_option maxHeartbeats 4000000

/-! In the document's own way. -/
theorem Own.appB {T T1 : Tab} {v : AV} {b m : List UInt8} {c : Option Nat} {K : AV → Tab → Prop} (h : Own T 1 v b.length (byteCells b) T1) (hb : b.length + m.length ≤ 1000000000)
    (hk : ∀ v' T2, Own T 1 v' (b ++ m).length (byteCells (b ++ m)) T2 → K v' T2) : appStep 1 1 T1 v (bts m c) K := by
  refine h.app (m := m.length) (news := byteCells m) (by simp [bts, slCells, byteCells_length]) rfl (by omega) (by omega) fun v' T2 ho => hk v' T2 ?_
  rw [byteCells_append, ← List.length_append] at ho
  exact ho
theorem bts_one {n : Int} {b : UInt8} (h : n = b.toNat) : (AV.fz 1 [.i .u8 n] (some 1)) = bts [b] (some 1) := by subst h; rfl

theorem wrap_u8n {n : Nat} (h : n < 128) : IntKind.u8.wrap (n : Int) = ((UInt8.ofNat n).toNat : Int) := by
  rw [wrap_u8, UInt8.toNat_ofNat_of_lt' (by show n < 256; omega)]; omega

end Go.Aw

namespace Go.Aw
open Go
open Go.Proofs.Try (prog)
set_option linter.all false
set_option maxHeartbeats 4000000

/-! A configuration's bytes. -/
def encM (m : Int × Bool) : List UInt8 := enc m.1.toNat ++ [bitB m.2]
def lnN (ln : Int) : Nat := if ln < 0 then 8 else ln.toNat
def encRf (w : Rf) : List UInt8 := enc w.ep.toNat ++ enc w.sh.toNat ++ enc w.l.length ++ w.l.flatMap encM ++ enc (lnN w.ln)

def rMem (s : RS) : (Int × Bool) × RS := ((((rMost 7 s).1 : Nat), decide ((rMost 1 (rMost 7 s).2).1 = 1)), (rMost 1 (rMost 7 s).2).2)
def rCf (s : RS) : Cf × RS :=
  let e := rMost 18446744073709551615 s
  let h := rMost 3 e.2
  let n := rMost 8 h.2
  let ms := rList rMem n.1 n.2
  let ln := rMost 8 ms.2
  (⟨e.1, h.1, ms.1.map (·.1), ms.1.map (·.2), if ln.1 = 8 then -1 else ln.1⟩, ln.2)

theorem rMem_put {m : Int × Bool} (h : 0 ≤ m.1 ∧ m.1 < 8) (rest : List UInt8) : rMem (encM m ++ rest, false) = (m, (rest, false)) := by
  have e : encM m ++ rest = enc m.1.toNat ++ (enc (if m.2 = true then 1 else 0) ++ rest) := by simp [encM, enc_bit]
  unfold rMem
  rw [e, rMost_put (by omega) (by omega)]
  simp only
  rw [rMost_put (by split <;> omega) (by split <;> omega)]
  obtain ⟨k, b⟩ := m
  simp only at h ⊢
  rw [show ((k.toNat : Nat) : Int) = k by omega]
  cases b <;> rfl
theorem rMem_inv {s : RS} (h : (rMem s).2.2 = false) : s.2 = false ∧ s.1 = encM (rMem s).1 ++ (rMem s).2.1 := by
  unfold rMem at h ⊢
  simp only at h ⊢
  obtain ⟨h1, h2, _⟩ := rMost_inv h
  obtain ⟨h3, h4, _⟩ := rMost_inv h1
  refine ⟨h3, ?_⟩
  rw [h4, h2, bit_of (rMost_le 1 _)]
  simp [encM]

theorem plainF_snd (fu : List Bool) : ∀ (l : List Int) (k : Nat), k + l.length = fu.length → (plainF fu l k).map (·.2) = fu.drop k
  | [], k, h => by rw [List.drop_eq_nil_of_le (by simpa using Nat.le_of_eq h.symm)]; rfl
  | y :: ys, k, h => by
    simp only [List.length_cons] at h
    have hk : k < fu.length := by omega
    rw [List.drop_eq_getElem_cons hk]
    simp only [plainF, List.map_cons, List.getElem?_eq_getElem hk, Option.getD_some]
    rw [plainF_snd fu ys (k + 1) (by omega)]
theorem plainF_of (ms : List (Int × Bool)) : ∀ (l : List (Int × Bool)) (k : Nat), ms.drop k = l → plainF (ms.map (·.2)) (l.map (·.1)) k = l
  | [], k, _ => rfl
  | y :: ys, k, h => by
    obtain ⟨h1, h2, h3⟩ := drop_lt h
    simp only [List.map_cons, plainF, List.getElem?_map, h2, Option.map_some, Option.getD_some]
    rw [plainF_of ms ys (k + 1) h3]

structure Cf.Ok (c : Cf) : Prop where
  ep : 0 ≤ c.ep ∧ c.ep < 18446744073709551616
  sh : 0 ≤ c.sh ∧ c.sh < 4
  ch : c.ch.length ≤ 8
  fu : c.fu.length = c.ch.length
  ms : ∀ k ∈ c.ch, 0 ≤ k ∧ k < 8
  ln : c.ln = -1 ∨ (0 ≤ c.ln ∧ c.ln < 8)
theorem Cf.ok_of {c : Cf} (h : c.right = true) (he : 0 ≤ c.ep ∧ c.ep < 18446744073709551616) : c.Ok := by
  simp only [Cf.right, Bool.and_eq_true, Bool.not_eq_true', decide_eq_false_iff_not, Bool.not_eq_false', decide_eq_true_eq, Bool.and_eq_false_iff, Bool.or_eq_false_iff, srv] at h
  obtain ⟨⟨⟨⟨⟨⟨⟨⟨h1, h2⟩, h3⟩, h4⟩, h5⟩, h6⟩, h7⟩, h8⟩, h9⟩ := h
  refine ⟨he, by omega, by omega, by omega, fun k hk => new_srv c.ch 0 h9 k hk, ?_⟩
  rcases h8 with h | h
  · exact .inl h
  · exact .inr (by simpa using h.1)

theorem rCf_put {c : Cf} (h : c.Ok) (rest : List UInt8) : rCf (encRf c.plain ++ rest, false) = (c, (rest, false)) := by
  obtain ⟨hep, hsh, hch, hfu, hms, hln⟩ := h
  have hl : c.plain.l.length = c.ch.length := c.plain_len
  have e : encRf c.plain ++ rest = enc c.ep.toNat ++ (enc c.sh.toNat ++ (enc c.plain.l.length ++ (c.plain.l.flatMap encM ++ (enc (lnN c.ln) ++ rest)))) := by
    show enc c.ep.toNat ++ enc c.sh.toNat ++ enc c.plain.l.length ++ c.plain.l.flatMap encM ++ enc (lnN c.ln) ++ rest = _
    simp
  have hl8 : lnN c.ln ≤ 8 := by unfold lnN; split <;> omega
  have hmem : ∀ m ∈ c.plain.l, 0 ≤ m.1 ∧ m.1 < 8 := fun m hm => by
    have : m.1 ∈ c.ch := by rw [← c.plain_fst]; exact List.mem_map_of_mem hm
    exact hms _ this
  unfold rCf
  rw [e, rMost_put (by omega) (by omega)]
  simp only [rMost_put (show c.sh.toNat ≤ 3 by omega) (by omega)]
  rw [rMost_put (by omega) (by omega)]
  simp only
  rw [rList_put (g := encM) (ok := fun m => 0 ≤ m.1 ∧ m.1 < 8) (fun x rest h => rMem_put h rest) c.plain.l _ hmem]
  simp only
  rw [rMost_put hl8 (by omega), c.plain_fst]
  have e2 : c.plain.l.map (·.2) = c.fu := plainF_snd c.fu c.ch 0 (by omega)
  rw [e2]
  obtain ⟨ep, sh, ch, fu, ln⟩ := c
  simp only at hep hsh hln ⊢
  rw [show ((ep.toNat : Nat) : Int) = ep by omega, show ((sh.toNat : Nat) : Int) = sh by omega]
  rcases hln with rfl | hln
  · rfl
  · have : lnN ln = ln.toNat := by unfold lnN; rw [if_neg (by omega)]
    rw [this, if_neg (by omega), show ((ln.toNat : Nat) : Int) = ln by omega]

theorem rCf_inv {s : RS} (h : (rCf s).2.2 = false) : s.2 = false ∧ s.1 = encRf (rCf s).1.plain ++ (rCf s).2.1 := by
  unfold rCf at h ⊢
  simp only at h ⊢
  obtain ⟨h1, h2, _⟩ := rMost_inv h
  obtain ⟨h4, h5, h6⟩ := rList_inv (fun s => rMem_inv) _ _ h1
  obtain ⟨h7, h8, _⟩ := rMost_inv h4
  obtain ⟨h9, h10, _⟩ := rMost_inv h7
  obtain ⟨h11, h12, _⟩ := rMost_inv h9
  refine ⟨h11, ?_⟩
  have hle := rMost_le 8 (rList rMem (rMost 8 (rMost 3 (rMost 18446744073709551615 s).2).2).1 (rMost 8 (rMost 3 (rMost 18446744073709551615 s).2).2).2).2
  generalize hq : rMost 8 (rList rMem (rMost 8 (rMost 3 (rMost 18446744073709551615 s).2).2).1 (rMost 8 (rMost 3 (rMost 18446744073709551615 s).2).2).2).2 = q at *
  generalize hp : rList rMem (rMost 8 (rMost 3 (rMost 18446744073709551615 s).2).2).1 (rMost 8 (rMost 3 (rMost 18446744073709551615 s).2).2).2 = p at *
  have e1 : lnN (if q.1 = 8 then -1 else (q.1 : Int)) = q.1 := by
    unfold lnN
    by_cases h8 : q.1 = 8
    · rw [if_pos h8, if_pos (by decide), h8]
    · rw [if_neg h8, if_neg (by omega)]; omega
  have e2 : plainF (p.1.map (·.2)) (p.1.map (·.1)) 0 = p.1 := plainF_of p.1 p.1 0 rfl
  unfold encRf Cf.plain
  simp only [e1, e2, Int.toNat_natCast, h6, List.append_assoc]
  rw [← h2, ← h5, ← h8, ← h10, ← h12]
theorem rMem_len (s : RS) : (rMem s).2.1.length ≤ s.1.length := Nat.le_trans (rMost_len _ _) (rMost_len _ _)
theorem rCf_len (s : RS) : (rCf s).2.1.length ≤ s.1.length :=
  Nat.le_trans (rMost_len _ _) (Nat.le_trans (rList_len rMem_len _ _) (Nat.le_trans (rMost_len _ _) (Nat.le_trans (rMost_len _ _) (rMost_len _ _))))
end Go.Aw
