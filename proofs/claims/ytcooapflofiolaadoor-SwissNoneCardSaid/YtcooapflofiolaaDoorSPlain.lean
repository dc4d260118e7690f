/- Plain facts on 64-bit words: what the machine's numbers are in BitVec 64; a round of SipHash and its way back. No program in sight. -/
import Derived.Laws.Bits64b
import Derived.Laws.BitsLemmas
import Derived.IntWalk
import Derived.RowKit
namespace Go.Proofs.YtcooapflofiolaaDoor.Sip
open Go Go.RowKit

/-- A word as the machine's number. -/
def U (x : BitVec 64) : Int := (x.toNat : Int)
theorem U_range (x : BitVec 64) : 0 ≤ U x ∧ U x ≤ 18446744073709551615 := by have := x.isLt; unfold U; omega
theorem U_of (n : Int) (h0 : 0 ≤ n) (h1 : n ≤ 18446744073709551615) : ∃ x, n = U x := by
  refine ⟨BitVec.ofNat 64 n.toNat, ?_⟩
  unfold U; rw [BitVec.toNat_ofNat]; omega
theorem U_inj {x y : BitVec 64} (h : U x = U y) : x = y := BitVec.eq_of_toNat_eq (by unfold U at h; omega)
theorem ofInt_U (x : BitVec 64) : BitVec.ofInt 64 (U x) = x := by
  unfold U; rw [BitVec.ofInt_natCast]; apply BitVec.eq_of_toNat_eq; rw [BitVec.toNat_ofNat]; have := x.isLt; omega
theorem wrapU (x : BitVec 64) : IntKind.u64.wrap (x.toNat : Int) = U x := by
  have := x.isLt; exact IntWalk.u64_in _ (by omega)
theorem U_xor (x y : BitVec 64) : bits .xor .u64 (U x) (U y) = U (x ^^^ y) := by
  show IntKind.u64.wrap ((BitVec.ofInt 64 (U x) ^^^ BitVec.ofInt 64 (U y)).toNat : Int) = _
  rw [ofInt_U, ofInt_U]; exact wrapU _
theorem U_and (x y : BitVec 64) : bits .and .u64 (U x) (U y) = U (x &&& y) := by
  show IntKind.u64.wrap ((BitVec.ofInt 64 (U x) &&& BitVec.ofInt 64 (U y)).toNat : Int) = _
  rw [ofInt_U, ofInt_U]; exact wrapU _
theorem U_or (x y : BitVec 64) : bits .or .u64 (U x) (U y) = U (x ||| y) := by
  show IntKind.u64.wrap ((BitVec.ofInt 64 (U x) ||| BitVec.ofInt 64 (U y)).toNat : Int) = _
  rw [ofInt_U, ofInt_U]; exact wrapU _
theorem U_add (x y : BitVec 64) : IntKind.u64.wrap (U x + U y) = U (x + y) := by
  unfold U; rw [IntKind.wrap_u64, BitVec.toNat_add]; omega
theorem U_sub (x y : BitVec 64) : IntKind.u64.wrap (U x - U y) = U (x - y) := by
  have := x.isLt; have := y.isLt
  unfold U; rw [IntKind.wrap_u64, BitVec.toNat_sub]; omega
theorem U_shl (x : BitVec 64) (k : Nat) : IntKind.u64.wrap (U x * 2 ^ k) = U (x <<< k) := by
  unfold U
  rw [IntKind.wrap_u64, BitVec.toNat_shiftLeft, Nat.shiftLeft_eq, Int.natCast_emod, Int.natCast_mul, Int.natCast_pow]
  rfl
theorem U_shr (x : BitVec 64) (k : Nat) : U x / 2 ^ k = U (x >>> k) := by
  unfold U
  rw [BitVec.toNat_ushiftRight, Nat.shiftRight_eq_div_pow, Int.natCast_ediv, Int.natCast_pow]
  rfl
theorem U_rot (x : BitVec 64) (k : Nat) (hk : k < 64) : bits .or .u64 (IntKind.u64.wrap (U x * 2 ^ k)) (U x / 2 ^ (64 - k)) = U (x.rotateLeft k) := by
  rw [U_shl, U_shr, U_or, BitVec.rotateLeft_eq_rotateLeftAux_of_lt hk]; rfl
theorem U_rotr (x : BitVec 64) (k : Nat) (hk : k < 64) : bits .or .u64 (U x / 2 ^ k) (IntKind.u64.wrap (U x * 2 ^ (64 - k))) = U (x.rotateRight k) := by
  rw [U_shl, U_shr, U_or, BitVec.rotateRight_eq_rotateRightAux_of_lt hk]; rfl
theorem U_lit (n : Nat) (h : n < 18446744073709551616) : (n : Int) = U (BitVec.ofNat 64 n) := by
  unfold U; rw [BitVec.toNat_ofNat]; omega

/-- A state. -/
structure St where
  a : BitVec 64
  b : BitVec 64
  c : BitVec 64
  d : BitVec 64
deriving DecidableEq

def rnd (v : St) : St :=
  let a := v.a + v.b
  let b := v.b.rotateLeft 13 ^^^ a
  let a := a.rotateLeft 32
  let c := v.c + v.d
  let d := v.d.rotateLeft 16 ^^^ c
  let a := a + d
  let d := d.rotateLeft 21 ^^^ a
  let c := c + b
  let b := b.rotateLeft 17 ^^^ c
  let c := c.rotateLeft 32
  ⟨a, b, c, d⟩
def und (v : St) : St :=
  let c := v.c.rotateRight 32
  let b := (v.b ^^^ c).rotateRight 17
  let c := c - b
  let d := (v.d ^^^ v.a).rotateRight 21
  let a := v.a - d
  let d := (d ^^^ c).rotateRight 16
  let c := c - d
  let a := a.rotateRight 32
  let b := (b ^^^ a).rotateRight 13
  let a := a - b
  ⟨a, b, c, d⟩
theorem rr_rl (x : BitVec 64) (k : Nat) (hk : k < 64) : (x.rotateLeft k).rotateRight k = x := by
  apply BitVec.eq_of_getLsbD_eq
  intro i hi
  simp only [BitVec.getLsbD_rotateRight_of_lt hk, BitVec.getLsbD_rotateLeft_of_le hk]
  by_cases h : i < 64 - k
  · have h1 : ¬ k + i < k := by omega
    have h2 : k + i < 64 := by omega
    have h3 : k + i - k = i := by omega
    simp [h, h2, h3, decide_eq_false h1]
  · have h1 : i - (64 - k) < k := by omega
    have h2 : 64 - k + (i - (64 - k)) = i := by omega
    simp [h, hi, h1, h2]
theorem rl_rr (x : BitVec 64) (k : Nat) (hk : k < 64) : (x.rotateRight k).rotateLeft k = x := by
  apply BitVec.eq_of_getLsbD_eq
  intro i hi
  simp only [BitVec.getLsbD_rotateRight_of_lt hk, BitVec.getLsbD_rotateLeft_of_le hk]
  by_cases h : i < k
  · have h1 : ¬ 64 - k + i < 64 - k := by omega
    have h2 : 64 - k + i < 64 := by omega
    have h3 : 64 - k + i - (64 - k) = i := by omega
    simp [h, h2, h3, decide_eq_false h1]
  · have h1 : i - k < 64 - k := by omega
    have h2 : k + (i - k) = i := by omega
    simp [h, hi, h1, h2]
theorem xor_xor (x y : BitVec 64) : x ^^^ y ^^^ y = x := by rw [BitVec.xor_assoc, BitVec.xor_self, BitVec.xor_zero]
theorem und_rnd (v : St) : und (rnd v) = v := by
  obtain ⟨a, b, c, d⟩ := v
  simp only [rnd, und, rr_rl _ _ (show 13 < 64 by decide), rr_rl _ _ (show 16 < 64 by decide), rr_rl _ _ (show 17 < 64 by decide), rr_rl _ _ (show 21 < 64 by decide), rr_rl _ _ (show 32 < 64 by decide), xor_xor, BitVec.add_sub_cancel]
theorem rnd_und (v : St) : rnd (und v) = v := by
  obtain ⟨a, b, c, d⟩ := v
  simp only [rnd, und, rl_rr _ _ (show 13 < 64 by decide), rl_rr _ _ (show 16 < 64 by decide), rl_rr _ _ (show 17 < 64 by decide), rl_rr _ _ (show 21 < 64 by decide), rl_rr _ _ (show 32 < 64 by decide), xor_xor, BitVec.sub_add_cancel]
end Go.Proofs.YtcooapflofiolaaDoor.Sip
