/- Plain facts on groups and their order: no program in sight. -/
import Derived.Laws.Bits64b
import Derived.Laws.BitsLemmas
import Derived.RowKit
namespace Go.Proofs.YtcooapflofiolaaDoor
open Go Go.RowKit

theorem bits_and_i64_nat (a b : Nat) (ha : a < 9223372036854775808) (hb : b < 9223372036854775808) : bits .and .i64 (a : Int) (b : Int) = ((a &&& b : Nat) : Int) := by
  refine bits_nat .i64 63 (by decide) (fun n h0 h1 => ?_) a b (by simpa using ha) (by simpa using hb) |>.1
  rw [IntKind.wrap_i64]; simp at h1; omega

theorem and_pow (x k : Nat) : x &&& (2 ^ k - 1) = x % 2 ^ k := Nat.and_two_pow_sub_one_eq_mod x k

/-- A good number of groups. -/
def goodB (g : Int) : Bool := decide (1 ≤ g) && (decide (g ≤ 1024) && decide (bits .and .i64 g (g - 1) = 0))

theorem goodB_small : ∀ n : Fin 1025, goodB (n.val : Int) = true → ∃ k : Fin 11, n.val = 2 ^ k.val := by decide +kernel
theorem goodB_pow : ∀ k : Fin 11, goodB ((2 ^ k.val : Nat) : Int) = true := by decide +kernel
theorem goodB_of {g : Int} (h : goodB g = true) : ∃ k : Nat, k ≤ 10 ∧ g = ((2 ^ k : Nat) : Int) := by
  have h1 : 1 ≤ g ∧ g ≤ 1024 := by simp [goodB] at h; omega
  obtain ⟨n, rfl⟩ := Int.eq_ofNat_of_zero_le (show 0 ≤ g by omega)
  obtain ⟨k, hk⟩ := goodB_small ⟨n, by omega⟩ h
  exact ⟨k.val, by omega, by simpa using congrArg (Int.ofNat) hk⟩
theorem goodB_bounds {g : Int} (h : goodB g = true) : 1 ≤ g ∧ g ≤ 1024 := by simp [goodB] at h; omega

/-- The group at a step. -/
def el (h g k : Nat) : Nat := (h + k * (k + 1) / 2) % g
def pre (h g k : Nat) : Nat := (h + (k - 1) * k / 2) % g
theorem tri_step (k : Nat) : (k - 1) * k / 2 + k = k * (k + 1) / 2 := by
  cases k with
  | zero => rfl
  | succ k =>
    have : (k + 1) * (k + 1 + 1) = k * (k + 1) + (k + 1) * 2 := by
      rw [Nat.mul_comm k (k + 1), ← Nat.mul_add]
    rw [this, Nat.add_mul_div_right _ _ (by decide)]; rfl
theorem el_pre (h g k : Nat) : el h g k = (pre h g k + k) % g := by
  unfold el pre; rw [Nat.mod_add_mod, Nat.add_assoc, tri_step]
theorem pre_succ (h g k : Nat) : pre h g (k + 1) = el h g k := by
  unfold el pre; rw [Nat.add_sub_cancel]
theorem pre_zero (h g : Nat) : pre h g 0 = h % g := by simp [pre]
theorem el_lt (h g k : Nat) (hg : 0 < g) : el h g k < g := Nat.mod_lt _ hg
theorem pre_lt (h g k : Nat) (hg : 0 < g) : pre h g k < g := Nat.mod_lt _ hg

/-- All groups, in their order. -/
def seqN (h g : Nat) (n : Nat) : List Int := (List.range n).map fun k => (el h g k : Int)
def seqL (h : Int) (g : Int) : List Int := if goodB g then seqN h.toNat g.toNat g.toNat else []
theorem seqN_succ (h g n : Nat) : seqN h g (n + 1) = seqN h g n ++ [(el h g n : Int)] := by simp [seqN, List.range_succ]
theorem seqN_length (h g n : Nat) : (seqN h g n).length = n := by simp [seqN]
theorem seqN_pre (h g : Nat) {n m : Nat} (hnm : n ≤ m) : seqN h g n <+: seqN h g m := by
  obtain ⟨d, rfl⟩ := Nat.exists_eq_add_of_le hnm
  refine ⟨(List.range d).map fun k => (el h g (n + k) : Int), ?_⟩
  simp [seqN, List.range_add]
theorem seqL_good {h g : Int} (hg : goodB g = true) : seqL h g = seqN h.toNat g.toNat g.toNat := by simp [seqL, hg]
theorem seqL_bad {h g : Int} (hg : goodB g = false) : seqL h g = [] := by simp [seqL, hg]
theorem seqL_len (h g : Int) : (seqL h g).length ≤ 1024 := by
  unfold seqL; split
  · rename_i hg; have := goodB_bounds hg; rw [seqN_length]; omega
  · simp
theorem and_good_i64 {g : Int} (hg : goodB g = true) (x : Nat) (hx : x < 9223372036854775808) : bits .and .i64 (x : Int) (g - 1) = ((x % g.toNat : Nat) : Int) := by
  obtain ⟨k, hk, rfl⟩ := goodB_of hg
  have h2 : 0 < 2 ^ k := Nat.two_pow_pos k
  have h3 : 2 ^ k ≤ 2 ^ 10 := Nat.pow_le_pow_right (by decide) hk
  rw [show (((2 ^ k : Nat) : Int) - 1) = ((2 ^ k - 1 : Nat) : Int) by omega, bits_and_i64_nat _ _ hx (by omega), and_pow, Int.toNat_natCast]
theorem and_good_u64 {g : Int} (hg : goodB g = true) (x : Nat) (hx : x < 18446744073709551616) : bits .and .u64 (x : Int) (g - 1) = ((x % g.toNat : Nat) : Int) := by
  obtain ⟨k, hk, rfl⟩ := goodB_of hg
  have h2 : 0 < 2 ^ k := Nat.two_pow_pos k
  have h3 : 2 ^ k ≤ 2 ^ 10 := Nat.pow_le_pow_right (by decide) hk
  rw [show (((2 ^ k : Nat) : Int) - 1) = ((2 ^ k - 1 : Nat) : Int) by omega, bits_and_u64_nat _ _ hx (by omega), and_pow, Int.toNat_natCast]

/-- How many groups so many keys need. -/
def needF (n : Int) : Int :=
  if n ≤ 7 then 1 else if n ≤ 14 then 2 else if n ≤ 28 then 4 else if n ≤ 56 then 8 else if n ≤ 112 then 16 else if n ≤ 224 then 32 else if n ≤ 448 then 64
  else if n ≤ 896 then 128 else if n ≤ 1792 then 256 else if n ≤ 3584 then 512 else if n ≤ 7168 then 1024 else 0
theorem needF_eq {n : Int} {k : Nat} (hk : k ≤ 10) (h1 : n ≤ 7 * ((2 ^ k : Nat) : Int)) (h2 : k = 0 ∨ 7 * ((2 ^ (k - 1) : Nat) : Int) < n) : needF n = ((2 ^ k : Nat) : Int) := by
  match k, hk with
  | 0, _ | 1, _ | 2, _ | 3, _ | 4, _ | 5, _ | 6, _ | 7, _ | 8, _ | 9, _ | 10, _ => simp at h1 h2; simp [needF]; omega
theorem needF_zero {n : Int} (h : 7168 < n) : needF n = 0 := by simp [needF]; omega
/-- After some rounds. -/
def NeedAt (n : Int) (m : Nat) : Prop := ∃ k : Nat, k ≤ 10 ∧ m = 2 ^ k ∧ (k = 0 ∨ 7 * ((2 ^ (k - 1) : Nat) : Int) < n)
theorem NeedAt.start (n : Int) : NeedAt n 1 := ⟨0, by omega, rfl, .inl rfl⟩
theorem NeedAt.bounds {n : Int} {m : Nat} (h : NeedAt n m) : 1 ≤ m ∧ m ≤ 1024 := by
  obtain ⟨k, hk, rfl, _⟩ := h
  exact ⟨Nat.one_le_two_pow, Nat.pow_le_pow_right (by decide) hk⟩
theorem NeedAt.next {n : Int} {m : Nat} (h : NeedAt n m) (h1 : 7 * (m : Int) < n) (h2 : m * 2 ≤ 1024) : NeedAt n (m * 2) := by
  obtain ⟨k, hk, rfl, _⟩ := h
  refine ⟨k + 1, ?_, by rw [Nat.pow_succ], .inr (by simpa using h1)⟩
  rcases Nat.lt_or_ge 9 k with h3 | h3
  · obtain rfl : k = 10 := by omega
    simp at h2
  · omega
theorem NeedAt.ends {n : Int} {m : Nat} (h : NeedAt n m) (h1 : ¬ 7 * (m : Int) < n) : needF n = m := by
  obtain ⟨k, hk, rfl, h2⟩ := h
  exact needF_eq hk (by omega) h2
theorem NeedAt.over {n : Int} {m : Nat} (h : NeedAt n m) (h1 : 7 * (m : Int) < n) (h2 : ¬ m * 2 ≤ 1024) : needF n = 0 := by
  obtain ⟨k, hk, rfl, _⟩ := h
  refine needF_zero ?_
  have : 2 ^ k ≤ 2 ^ 10 := Nat.pow_le_pow_right (by decide) hk
  match k, hk with
  | 0, _ | 1, _ | 2, _ | 3, _ | 4, _ | 5, _ | 6, _ | 7, _ | 8, _ | 9, _ => simp at h2
  | 10, _ => simpa using h1

/-- The reference's search for a power of two. -/
def PowAt (g : Int) (m : Nat) : Prop := ∃ k : Nat, k ≤ 11 ∧ m = 2 ^ k ∧ ∀ j, j < k → g ≠ ((2 ^ j : Nat) : Int)
theorem PowAt.start (g : Int) : PowAt g 1 := ⟨0, by omega, rfl, fun j hj => by omega⟩
theorem PowAt.bounds {g : Int} {m : Nat} (h : PowAt g m) : 1 ≤ m ∧ m ≤ 2048 := by
  obtain ⟨k, hk, rfl, _⟩ := h
  exact ⟨Nat.one_le_two_pow, Nat.pow_le_pow_right (by decide) hk⟩
theorem PowAt.next {g : Int} {m : Nat} (h : PowAt g m) (h1 : m ≤ 1024) (h2 : (m : Int) ≠ g) : PowAt g (m * 2) := by
  obtain ⟨k, hk, rfl, h3⟩ := h
  refine ⟨k + 1, ?_, by rw [Nat.pow_succ], fun j hj => ?_⟩
  · rcases Nat.lt_or_ge 10 k with h4 | h4
    · obtain rfl : k = 11 := by omega
      simp at h1
    · omega
  · rcases Nat.lt_or_ge j k with h4 | h4
    · exact h3 j h4
    · obtain rfl : j = k := by omega
      exact fun e => h2 e.symm
theorem PowAt.found {g : Int} {m : Nat} (h : PowAt g m) (h1 : m ≤ 1024) (h2 : (m : Int) = g) : goodB g = true := by
  obtain ⟨k, hk, rfl, h3⟩ := h
  rcases Nat.lt_or_ge 10 k with h4 | h4
  · obtain rfl : k = 11 := by omega
    simp at h1
  · rw [← h2]; exact goodB_pow ⟨k, by omega⟩
theorem PowAt.none {g : Int} {m : Nat} (h : PowAt g m) (h1 : ¬ m ≤ 1024) : goodB g = false := by
  obtain ⟨k, hk, rfl, h3⟩ := h
  have hk11 : k = 11 := by
    rcases Nat.lt_or_ge 10 k with h4 | h4
    · omega
    · exact absurd (Nat.pow_le_pow_right (by decide) h4 : 2 ^ k ≤ 2 ^ 10) h1
  subst hk11
  cases hg : goodB g with
  | false => rfl
  | true =>
    obtain ⟨j, hj, rfl⟩ := goodB_of hg
    exact absurd rfl (h3 j (by omega))

/-- The reference's search for a number of groups. -/
def NeedR (n : Int) (m : Nat) : Prop := ∃ k : Nat, k ≤ 11 ∧ m = 2 ^ k ∧ (k = 0 ∨ 7 * ((2 ^ (k - 1) : Nat) : Int) < n)
theorem NeedR.start (n : Int) : NeedR n 1 := ⟨0, by omega, rfl, .inl rfl⟩
theorem NeedR.bounds {n : Int} {m : Nat} (h : NeedR n m) : 1 ≤ m ∧ m ≤ 2048 := by
  obtain ⟨k, hk, rfl, _⟩ := h
  exact ⟨Nat.one_le_two_pow, Nat.pow_le_pow_right (by decide) hk⟩
theorem NeedR.next {n : Int} {m : Nat} (h : NeedR n m) (h1 : 7 * (m : Int) < n) (h2 : m ≤ 1024) : NeedR n (m * 2) := by
  obtain ⟨k, hk, rfl, _⟩ := h
  refine ⟨k + 1, ?_, by rw [Nat.pow_succ], .inr (by simpa using h1)⟩
  rcases Nat.lt_or_ge 10 k with h3 | h3
  · obtain rfl : k = 11 := by omega
    simp at h2
  · omega
theorem NeedR.ends {n : Int} {m : Nat} (h : NeedR n m) (h1 : ¬ 7 * (m : Int) < n) (h2 : m ≤ 1024) : needF n = m := by
  obtain ⟨k, hk, rfl, h3⟩ := h
  refine needF_eq ?_ (by omega) h3
  rcases Nat.lt_or_ge 10 k with h4 | h4
  · obtain rfl : k = 11 := by omega
    simp at h2
  · omega
theorem NeedR.over {n : Int} {m : Nat} (h : NeedR n m) (h2 : ¬ m ≤ 1024) : needF n = 0 := by
  obtain ⟨k, hk, rfl, h3⟩ := h
  have hk11 : k = 11 := by
    rcases Nat.lt_or_ge 10 k with h4 | h4
    · omega
    · exact absurd (Nat.pow_le_pow_right (by decide) h4 : 2 ^ k ≤ 2 ^ 10) h2
  subst hk11
  refine needF_zero ?_
  simpa using h3

/-- The reference's group at a step. -/
def refAt (h i g : Int) : Int := if goodB g && (decide (0 ≤ i) && decide (i < g)) then (el h.toNat g.toNat i.toNat : Int) else 0
theorem refAt_bad {h i g : Int} (hg : goodB g = false) : refAt h i g = 0 := by simp [refAt, hg]
theorem refAt_neg {h i g : Int} (hi : i < 0) : refAt h i g = 0 := by simp [refAt]; intro _ h0; omega
theorem refAt_big {h i g : Int} (hi : g ≤ i) : refAt h i g = 0 := by simp [refAt]; intro _ _ h0; omega
theorem refAt_el {h g : Int} {i : Nat} (hg : goodB g = true) (hi : (i : Int) < g) : refAt h i g = (el h.toNat g.toNat i : Int) := by simp [refAt, hg, hi]
theorem refAt_done {h i g : Int} (hs : ∀ j : Nat, j < (seqL h g).length → (j : Int) ≠ i) : refAt h i g = 0 := by
  cases hg : goodB g with
  | false => exact refAt_bad hg
  | true =>
    have hb := goodB_bounds hg
    rcases Int.lt_or_le i 0 with h1 | h1
    · exact refAt_neg h1
    · rcases Int.lt_or_le i g with h2 | h2
      · exact absurd (by omega) (hs i.toNat (by rw [seqL_good hg, seqN_length]; omega))
      · exact refAt_big h2
theorem refAt_stop {h i g : Int} {q : List Int} {x : Int} (hq : q ++ [x] <+: seqL h g) (hs : (q.length : Int) = i) : refAt h i g = x := by
  cases hg : goodB g with
  | false =>
    rw [seqL_bad hg] at hq
    have := hq.length_le
    simp at this
  | true =>
    have hb := goodB_bounds hg
    rw [seqL_good hg] at hq
    have hl := hq.length_le
    rw [seqN_length] at hl
    simp at hl
    subst hs
    rw [refAt_el hg (by omega)]
    obtain ⟨r, hr⟩ := hq
    have h1 : (seqN h.toNat g.toNat g.toNat)[q.length]? = some x := by rw [← hr]; simp
    simp [seqN, List.getElem?_map, List.getElem?_range (show q.length < g.toNat by omega)] at h1
    exact h1
theorem needF_mk {n : Int} (k : Nat) (hk : k ≤ 10) (h1 : n ≤ 7 * ((2 ^ k : Nat) : Int)) (h2 : k = 0 ∨ 7 * ((2 ^ (k - 1) : Nat) : Int) < n) :
    ∃ k : Fin 11, needF n = ((2 ^ k.val : Nat) : Int) ∧ n ≤ 7 * ((2 ^ k.val : Nat) : Int) ∧ (k.val = 0 ∨ 7 * ((2 ^ (k.val - 1) : Nat) : Int) < n) := ⟨⟨k, by omega⟩, needF_eq hk h1 h2, h1, h2⟩
theorem needF_cases (n : Int) : needF n = 0 ∧ 7168 < n ∨ ∃ k : Fin 11, needF n = ((2 ^ k.val : Nat) : Int) ∧ n ≤ 7 * ((2 ^ k.val : Nat) : Int) ∧ (k.val = 0 ∨ 7 * ((2 ^ (k.val - 1) : Nat) : Int) < n) := by
  by_cases h0 : n ≤ 7
  · exact .inr (needF_mk 0 (by omega) (by simpa using h0) (by exact .inl rfl))
  by_cases h1 : n ≤ 14
  · exact .inr (needF_mk 1 (by omega) (by simpa using h1) (by right; simpa using h0))
  by_cases h2 : n ≤ 28
  · exact .inr (needF_mk 2 (by omega) (by simpa using h2) (by right; simpa using h1))
  by_cases h3 : n ≤ 56
  · exact .inr (needF_mk 3 (by omega) (by simpa using h3) (by right; simpa using h2))
  by_cases h4 : n ≤ 112
  · exact .inr (needF_mk 4 (by omega) (by simpa using h4) (by right; simpa using h3))
  by_cases h5 : n ≤ 224
  · exact .inr (needF_mk 5 (by omega) (by simpa using h5) (by right; simpa using h4))
  by_cases h6 : n ≤ 448
  · exact .inr (needF_mk 6 (by omega) (by simpa using h6) (by right; simpa using h5))
  by_cases h7 : n ≤ 896
  · exact .inr (needF_mk 7 (by omega) (by simpa using h7) (by right; simpa using h6))
  by_cases h8 : n ≤ 1792
  · exact .inr (needF_mk 8 (by omega) (by simpa using h8) (by right; simpa using h7))
  by_cases h9 : n ≤ 3584
  · exact .inr (needF_mk 9 (by omega) (by simpa using h9) (by right; simpa using h8))
  by_cases h10 : n ≤ 7168
  · exact .inr (needF_mk 10 (by omega) (by simpa using h10) (by right; simpa using h9))
  exact .inl ⟨needF_zero (by omega), by omega⟩
theorem needF_bounds (n : Int) : 0 ≤ needF n ∧ needF n ≤ 1024 := by
  rcases needF_cases n with ⟨h, _⟩ | ⟨⟨k, hk⟩, h, _⟩
  · omega
  · have h1 : 2 ^ k ≤ 2 ^ 10 := Nat.pow_le_pow_right (by decide) (by omega)
    have h2 : needF n = ((2 ^ k : Nat) : Int) := h
    rw [h2]
    generalize 2 ^ k = m at *
    omega
/-- So many groups are good; they have seven slots each for all keys; half as many have not. -/
theorem needs_true {n : Int} (h : ¬ 7168 < n) : goodB (needF n) = true ∧ n ≤ 7 * needF n ∧ (needF n = 1 ∨ 7 * (needF n / 2) < n) := by
  rcases needF_cases n with ⟨_, h2⟩ | ⟨⟨k, hk⟩, h1, h2, h3⟩
  · exact absurd h2 h
  · rw [h1]
    refine ⟨goodB_pow ⟨k, hk⟩, h2, ?_⟩
    cases k with
    | zero => left; rfl
    | succ k =>
      right
      rcases h3 with h3 | h3
      · simp at h3
      · have h3' : 7 * ((2 ^ k : Nat) : Int) < n := by simpa using h3
        have : (((2 ^ (k + 1) : Nat) : Int) / 2) = ((2 ^ k : Nat) : Int) := by rw [Nat.pow_succ]; omega
        show 7 * (((2 ^ (k + 1) : Nat) : Int) / 2) < n
        rw [this]; exact h3'
end Go.Proofs.YtcooapflofiolaaDoor
