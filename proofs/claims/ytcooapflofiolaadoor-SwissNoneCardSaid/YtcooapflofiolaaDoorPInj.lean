/- Triangular numbers modulo a power of two: no two of the first ones fall together. Plain, no program in sight. -/
import Derived.Test.YtcooapflofiolaaDoorPPlain
namespace Go.Proofs.YtcooapflofiolaaDoor
open Go Go.RowKit
/-- Triangular numbers: no two of the first 2^k fall together. -/
theorem tri2 (i : Nat) : 2 * (i * (i + 1) / 2) = i * (i + 1) := by
  have : i * (i + 1) % 2 = 0 := by
    rcases Nat.mod_two_eq_zero_or_one i with h | h
    · rw [Nat.mul_mod, h]; simp
    · rw [Nat.mul_mod, show (i + 1) % 2 = 0 by omega]; simp
  omega
theorem dvd_of_odd_mul {k a b : Nat} (h : 2 ^ k ∣ a * b) (ha : a % 2 = 1) : 2 ^ k ∣ b := by
  have hc : Nat.Coprime (2 ^ k) a := by
    refine Nat.Coprime.pow_left k ?_
    show Nat.gcd 2 a = 1
    rw [Nat.gcd_rec, ha]; rfl
  exact hc.dvd_of_dvd_mul_left h
theorem el_inj {h k i j : Nat} (hij : i < j) (hj : j < 2 ^ k) : el h (2 ^ k) i ≠ el h (2 ^ k) j := by
  intro e
  unfold el at e
  have h1 := Nat.dvd_of_mod_eq_zero (Nat.sub_mod_eq_zero_of_mod_eq e.symm)
  obtain ⟨d, rfl⟩ := Nat.exists_eq_add_of_lt hij
  have ti := tri2 i
  have tj := tri2 (i + d + 1)
  have h2 : 2 ^ (k + 1) ∣ (d + 1) * (2 * i + d + 2) := by
    rw [Nat.pow_succ]
    have h3 := Nat.mul_dvd_mul_right h1 2
    have h4 : (h + (i + d + 1) * (i + d + 1 + 1) / 2 - (h + i * (i + 1) / 2)) * 2 = (d + 1) * (2 * i + d + 2) := by
      have e1 : (i + d + 1) * (i + d + 1 + 1) = i * (i + 1) + (d + 1) * (2 * i + d + 2) := by grind
      omega
    rwa [h4] at h3
  have hp : 2 ^ (k + 1) = 2 * 2 ^ k := by rw [Nat.pow_succ, Nat.mul_comm]
  rcases Nat.mod_two_eq_zero_or_one d with hd | hd
  · have h5 := dvd_of_odd_mul h2 (by omega)
    have h6 := Nat.le_of_dvd (by omega) h5
    omega
  · rw [Nat.mul_comm] at h2
    have h5 := dvd_of_odd_mul h2 (by omega)
    have h6 := Nat.le_of_dvd (by omega) h5
    omega
theorem el_inj_good {h g : Nat} (hg : goodB (g : Int) = true) {i j : Nat} (hij : i < j) (hj : j < g) : el h g i ≠ el h g j := by
  obtain ⟨k, _, e⟩ := goodB_of hg
  obtain rfl : g = 2 ^ k := by omega
  exact el_inj hij hj
theorem el_zero {a : Int} {m : Nat} (h : 0 ≤ a) : a.tmod (m : Int) = ((el a.toNat m 0 : Nat) : Int) := by
  obtain ⟨n, rfl⟩ := Int.eq_ofNat_of_zero_le h
  simp [el, Int.tmod_eq_emod_of_nonneg]
end Go.Proofs.YtcooapflofiolaaDoor
