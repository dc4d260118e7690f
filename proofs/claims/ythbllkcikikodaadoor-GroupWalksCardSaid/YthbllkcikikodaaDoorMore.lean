/- Plain facts on slots written and read, and on sets. -/
import Derived.Test.YthbllkcikikodaaDoorLives
namespace Go.Proofs.YthbllkcikikodaaDoor
open Go Go.RowKit
set_option linter.unusedVariables false
set_option maxRecDepth 100000
set_option linter.unusedSimpArgs false

theorem setOf_bit (p : Nat → Bool) : ∀ (l : List Nat) (k : Nat), k < l.length → (setOf p l).testBit k = p (l.getD k 0)
  | b :: l, 0, _ => by
    simp only [setOf, List.getD_cons_zero]
    rw [Nat.testBit_zero]; cases p b <;> simp <;> omega
  | b :: l, k + 1, h => by
    simp only [setOf, List.getD_cons_succ]
    rw [Nat.testBit_succ, show ((p b).toNat + 2 * setOf p l) / 2 = setOf p l by cases p b <;> simp <;> omega]
    exact setOf_bit p l k (by simpa using h)
theorem bys_st {x k c : Nat} (hc : c < 256) : bys (st x k c) = (bys x).set k c := bys_wd ((B8.bys x).set k hc)
theorem st_lt {x k c : Nat} (hc : c < 256) : st x k c < 18446744073709551616 := wd_lt ((B8.bys x).set k hc)
theorem gt_st_same {x k c : Nat} (hk : k < 8) (hc : c < 256) : gt (st x k c) k = c := by
  unfold gt; rw [bys_st hc]; simp [List.getD_eq_getElem?_getD, bys_len, hk]
theorem gt_st_other {x k c j : Nat} (hc : c < 256) (hjk : j ≠ k) : gt (st x k c) j = gt x j := by
  unfold gt; rw [bys_st hc]; simp [List.getD_eq_getElem?_getD, List.getElem?_set, Ne.symm hjk]
theorem gt_lt (x k : Nat) : gt x k < 256 := by
  unfold gt
  rcases Nat.lt_or_ge k (bys x).length with h | h
  · rw [List.getD_eq_getElem?_getD, List.getElem?_eq_getElem h]; exact bys_lt x _ (List.getElem_mem h)
  · rw [List.getD_eq_getElem?_getD, List.getElem?_eq_none h]; simp
theorem st_back {x k c : Nat} (hx : x < 18446744073709551616) (hk : k < 8) (hc : c < 256) : st (st x k c) k (gt x k) = x := by
  unfold st
  rw [show bys (wd ((bys x).set k c)) = (bys x).set k c from bys_wd ((B8.bys x).set k hc), List.set_set]
  have e : (bys x).set k (gt x k) = bys x := by
    apply List.ext_getElem?
    intro j
    rw [List.getElem?_set]
    split
    · rename_i h; subst h
      have hl : k < (bys x).length := hk
      simp [hl, gt, List.getD_eq_getElem?_getD, List.getElem?_eq_getElem hl]
    · rfl
  rw [e, wd_bys hx]
theorem mch_bit {x h k : Nat} (hk : k < 8) : (mch x h).testBit k = (gt x k == h) := setOf_bit _ _ _ hk
theorem fre_bit {x k : Nat} (hk : k < 8) : (fre x).testBit k = (gt x k == 128 || gt x k == 254) := setOf_bit _ _ _ hk
theorem ful_bit {x k : Nat} (hk : k < 8) : (ful x).testBit k = decide (gt x k < 128) := setOf_bit _ _ _ hk
theorem fre_lt (x : Nat) : fre x < 256 := @setOf_lt _ (bys x)
theorem ful_lt (x : Nat) : ful x < 256 := @setOf_lt _ (bys x)
theorem u8_and (a b : Nat) (ha : a < 256) (hb : b < 256) : bits .and .u8 (a : Int) (b : Int) = ((a &&& b : Nat) : Int) := (bits_nat .u8 8 (by decide) wraps_u8 a b ha hb).1
theorem u8_or (a b : Nat) (ha : a < 256) (hb : b < 256) : bits .or .u8 (a : Int) (b : Int) = ((a ||| b : Nat) : Int) := (bits_nat .u8 8 (by decide) wraps_u8 a b ha hb).2
theorem bit8 (a k : Nat) (ha : a < 256) (hk : k < 8) : bits .and .u8 ((a : Int) / 2 ^ k) 1 = (((a.testBit k).toNat : Nat) : Int) := bit_i ⟨a, ha⟩ ⟨k, hk⟩
/-- Two sets of eight slots are the same if their slots are. -/
theorem set_zero {a : Nat} (ha : a < 256) (h : ∀ k, k < 8 → a.testBit k = false) : a = 0 := by
  apply Nat.eq_of_testBit_eq
  intro j
  rcases Nat.lt_or_ge j 8 with hj | hj
  · rw [h j hj]; simp
  · rw [Nat.testBit_lt_two_pow (Nat.lt_of_lt_of_le ha (Nat.pow_le_pow_right (by decide) hj : 2 ^ 8 ≤ 2 ^ j))]; simp
theorem full_free (x : Nat) : ful x &&& fre x = 0 := by
  refine set_zero (Nat.lt_of_le_of_lt Nat.and_le_left (ful_lt x)) fun k hk => ?_
  rw [Nat.testBit_and, ful_bit hk, fre_bit hk]
  by_cases h : gt x k < 128 <;> simp [h] <;> omega
theorem andnot_u8 (a b : Nat) (h : a &&& b = a) : bits .andNot .u8 (a : Int) (b : Int) = 0 := by
  have e : BitVec.ofInt 8 (a : Int) &&& ~~~BitVec.ofInt 8 (b : Int) = 0#8 := by
    rw [BitVec.ofInt_natCast, BitVec.ofInt_natCast]
    apply BitVec.eq_of_getLsbD_eq
    intro i hi
    have := congrArg (fun n => Nat.testBit n i) h
    simp only [Nat.testBit_and] at this
    rw [BitVec.getLsbD_and, BitVec.getLsbD_not, BitVec.getLsbD_ofNat, BitVec.getLsbD_ofNat]
    cases ha : a.testBit i <;> cases hb : b.testBit i <;> simp_all
  show IntKind.u8.wrap ((BitVec.ofInt 8 (a : Int) &&& ~~~BitVec.ofInt 8 (b : Int)).toNat : Int) = 0
  rw [e]; rfl
theorem emp_free (x : Nat) : bits .andNot .u8 ((mch x 128 : Nat) : Int) ((fre x : Nat) : Int) = 0 := by
  refine andnot_u8 (mch x 128) (fre x) ?_
  apply Nat.eq_of_testBit_eq
  intro j
  show (mch x 128 &&& fre x).testBit j = _
  rcases Nat.lt_or_ge j 8 with hj | hj
  · rw [Nat.testBit_and, mch_bit hj, fre_bit hj]; cases gt x j == 128 <;> simp
  · rw [Nat.testBit_and, Nat.testBit_lt_two_pow (Nat.lt_of_lt_of_le (mch_lt x 128) (Nat.pow_le_pow_right (by decide) hj : 2 ^ 8 ≤ 2 ^ j))]; simp

/-! ### A walk through a set -/
def WalkAt (x k o y : Nat) (l : Int) : Prop := o + y = x ∧ k + cntF y = cntF x ∧ (y ≠ 0 → o < 2 ^ firstF y ∧ l < firstF y)
theorem WalkAt.start {x : Nat} (hx : x < 256) : WalkAt x 0 0 x (-1) := ⟨by omega, by omega, fun _ => ⟨Nat.two_pow_pos _, by omega⟩⟩
theorem WalkAt.ends {x k o y : Nat} {l : Int} (h : WalkAt x k o y l) (h0 : y = 0) : o = x ∧ k = cntF x := by
  subst h0
  have h00 : cntF 0 = 0 := rfl
  have := h.1
  have := h.2.1
  omega
theorem walk_facts : ∀ y : Fin 256, y.val ≠ 0 → y.val = 2 ^ firstF y.val + nextF y.val ∧ (nextF y.val ≠ 0 → firstF y.val < firstF (nextF y.val)) := by decide +kernel
theorem WalkAt.next {x k o y : Nat} {l : Int} (h : WalkAt x k o y l) (hy : y < 256) (h0 : y ≠ 0) :
    l < firstF y ∧ firstF y ≤ 7 ∧ o < 2 ^ firstF y ∧ (nextF y < 256 ∧ nextF y < y) ∧ WalkAt x (k + 1) (o + 2 ^ firstF y) (nextF y) (firstF y) := by
  obtain ⟨h1, h2, h3⟩ := h
  obtain ⟨h4, h5⟩ := h3 h0
  obtain ⟨hn1, hn2, -⟩ := sets_all ⟨y, hy⟩
  obtain ⟨hn3, hn4, hn5⟩ := hn2 h0
  obtain ⟨hw1, hw2⟩ := walk_facts ⟨y, hy⟩ h0
  simp only at hn1 hn3 hn4 hn5 hw1 hw2
  refine ⟨h5, hn5, h4, ⟨hn1, hn3⟩, by omega, by omega, fun hn0 => ?_⟩
  have hlt := hw2 hn0
  have hp : 2 ^ (firstF y + 1) ≤ 2 ^ firstF (nextF y) := Nat.pow_le_pow_right (by decide) hlt
  rw [Nat.pow_succ] at hp
  exact ⟨by omega, by omega⟩
end Go.Proofs.YthbllkcikikodaaDoor
