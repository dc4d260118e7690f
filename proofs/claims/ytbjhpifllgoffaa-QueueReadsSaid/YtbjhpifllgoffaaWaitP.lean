/- Reads that wait for what was heard. -/
import Derived.Test.YtbjhpifllgoffaaLives
import Derived.Test.YtbjhpifllgoffaaRefMaj
import Derived.Test.YtbjhpifllgoffaaOpen
import Derived.Laws.Bits128
namespace Go.Proofs.Ytbjhpifllgoffaa
open Go Go.RowKit Go.Maps Go.Conc
set_option linter.unusedVariables false
set_option linter.unusedSimpArgs false
set_option maxRecDepth 100000
set_option maxHeartbeats 2000000
theorem i64_and15 (n : Int) : bits .and .i64 n 15 = n % 16 := by
  have h127 : (BitVec.ofInt 64 15).toNat = 2 ^ 4 - 1 := by decide
  have key : (BitVec.ofInt 64 n &&& BitVec.ofInt 64 15).toNat = (n % ((2 ^ 64 : Nat) : Int)).toNat % 2 ^ 4 := by
    rw [BitVec.toNat_and, BitVec.toNat_ofInt, h127, Nat.and_two_pow_sub_one_eq_mod]
  show IntKind.i64.wrap ((BitVec.ofInt 64 n &&& BitVec.ofInt 64 15).toNat : Nat) = n % 16
  rw [key, IntWalk.i64_in _ (by omega)]
  omega
theorem i64_and7 (n : Int) : bits .and .i64 n 7 = n % 8 := by
  have h127 : (BitVec.ofInt 64 7).toNat = 2 ^ 3 - 1 := by decide
  have key : (BitVec.ofInt 64 n &&& BitVec.ofInt 64 7).toNat = (n % ((2 ^ 64 : Nat) : Int)).toNat % 2 ^ 3 := by
    rw [BitVec.toNat_and, BitVec.toNat_ofInt, h127, Nat.and_two_pow_sub_one_eq_mod]
  show IntKind.i64.wrap ((BitVec.ofInt 64 n &&& BitVec.ofInt 64 7).toNat : Nat) = n % 8
  rw [key, IntWalk.i64_in _ (by omega)]
  omega
/-! ### what was heard -/
def heardOf (H : List (Int × Int)) : Int → Option Int := H.foldl (fun m x => hear m x.1 x.2) (fun _ => none)
theorem heardOf_snoc (H : List (Int × Int)) (x : Int × Int) : heardOf (H ++ [x]) = hear (heardOf H) x.1 x.2 := by simp [heardOf]
def atL (m : Int → Option Int) (rd n : Int) : Bool := match m n with | some x => decide (rd ≤ x) | none => false
theorem atL_hear (m : Int → Option Int) (f k rd n : Int) : atL (hear m f k) rd n = (atL m rd n || (f == n && decide (rd ≤ k))) := by
  unfold atL hear
  by_cases e : n = f
  · subst e
    rw [if_pos rfl]
    cases h : m n with
    | none => simp
    | some x =>
      simp only [beq_self_eq_true, Bool.true_and]
      by_cases h1 : x < k
      · simp only [if_pos h1]
        rw [Bool.eq_iff_iff]; simp; omega
      · simp only [if_neg h1]
        rw [Bool.eq_iff_iff]; simp; omega
  · rw [if_neg e]
    have e1 : (f == n) = false := by rw [beq_eq_false_iff_ne]; exact fun h => e h.symm
    rw [e1]; simp
theorem atL_heard (rd n : Int) (H : List (Int × Int)) : atL (heardOf H) rd n = H.any fun x => x.1 == n && decide (rd ≤ x.2) := by
  suffices h : ∀ (H : List (Int × Int)) (m : Int → Option Int), atL (H.foldl (fun m x => hear m x.1 x.2) m) rd n = (atL m rd n || H.any fun x => x.1 == n && decide (rd ≤ x.2)) by
    have := h H (fun _ => none)
    simpa [heardOf, atL] using this
  intro H
  induction H with
  | nil => intro m; simp
  | cons x H ih =>
    intro m
    rw [List.foldl_cons, ih, atL_hear, List.any_cons, Bool.or_assoc]
theorem whoB_eq (m : Int → Option Int) (rd self n : Int) : whoB m rd self n = (self == n || atL m rd n) := rfl
/-- The list that the statement makes. -/
def accA (H : List (Int × Int)) (rd : Int) : List Int := 1 :: (H.filter fun x => decide (rd ≤ x.2)).map (·.1)
theorem bI_acc (H : List (Int × Int)) (rd n : Int) : bI (accA H rd) n = whoB (heardOf H) rd 1 n := by
  rw [whoB_eq, atL_heard]
  simp only [bI, accA, List.any_cons, List.any_map, List.any_filter]
  congr 1
  induction H with
  | nil => rfl
  | cons x H ih => rw [List.any_cons, List.any_cons, ih]; simp [Bool.and_comm]
theorem accA_snoc (H : List (Int × Int)) (x : Int × Int) (rd : Int) : accA (H ++ [x]) rd = accA H rd ++ (if rd ≤ x.2 then [x.1] else []) := by
  unfold accA
  rw [List.filter_append, List.map_append]
  by_cases h : rd ≤ x.2 <;> simp [h]
theorem accA_len (H : List (Int × Int)) (rd : Int) : (accA H rd).length ≤ H.length + 1 := by
  simp [accA]
  exact List.length_filter_le _ _
theorem maj_acc (V : List Int) (H : List (Int × Int)) (rd : Int) : majG V (bI (accA H rd)) = rdyF V (heardOf H) 1 rd := by
  unfold rdyF
  exact majG_congr fun x _ => bI_acc H rd x
theorem rdyN_good {f : Int → Bool} : ∀ {l : List Wt} {i : Nat}, i < rdyN f l → f (l.getD i (0, 0, 0)).2.2 = true
  | [], i, h => by simp [rdyN] at h
  | t :: l, i, h => by
    unfold rdyN at h
    by_cases hf : f t.2.2 = true
    · rw [if_pos hf] at h
      cases i with
      | zero => exact hf
      | succ i => exact rdyN_good (l := l) (by omega)
    · rw [if_neg hf] at h; omega
theorem rdyN_all {f : Int → Bool} : ∀ {l : List Wt}, (∀ i, i < l.length → f (l.getD i (0, 0, 0)).2.2 = true) → rdyN f l = l.length
  | [], _ => rfl
  | t :: l, h => by
    unfold rdyN
    have h0 := h 0 (by simp)
    have e : f t.2.2 = true := h0
    rw [if_pos e, rdyN_all (l := l) fun i hi => h (i + 1) (by simpa using hi)]
    rfl
/-- The reads that wait: the i-th one asks for 100 + i. -/
def Lw (L : List Wt) (ws : List Int) : Prop := L.length = ws.length ∧ (∀ i, i < L.length → L.getD i (0, 0, 0) = ((i : Int), 100 + (i : Int), ws.getD i 0)) ∧ ∀ k ∈ ws, 0 ≤ k ∧ k ≤ 15
theorem Lw.nil : Lw [] [] := ⟨rfl, fun i h => by simp at h, fun k h => by cases h⟩
theorem Lw.snoc {L : List Wt} {ws : List Int} (h : Lw L ws) {k : Int} (hk : 0 ≤ k ∧ k ≤ 15) : Lw (L ++ [((L.length : Int), 100 + (L.length : Int), k)]) (ws ++ [k]) := by
  obtain ⟨h1, h2, h3⟩ := h
  refine ⟨by simp [h1], fun i hi => ?_, fun x hx => ?_⟩
  · simp at hi
    by_cases e : i < L.length
    · have := h2 i e
      rw [List.getD_eq_getElem?_getD, List.getElem?_append_left e, ← List.getD_eq_getElem?_getD, this, List.getD_eq_getElem?_getD (l := ws ++ [k]), List.getElem?_append_left (by omega), ← List.getD_eq_getElem?_getD]
    · have e2 : i = L.length := by omega
      subst e2
      simp [List.getD_eq_getElem?_getD, h1]
  · rcases List.mem_append.1 hx with hx | hx
    · exact h3 x hx
    · rw [List.mem_singleton] at hx; subst hx; exact hk
theorem Lw.add {L : List Wt} {ws : List Int} (h : Lw L ws) (hl : L.length < 1000) {k : Int} (hk : ∀ x, ws.getLast? = some x → x ≤ k) : addB L k = true := by
  obtain ⟨h1, h2, h3⟩ := h
  unfold addB
  rw [decide_eq_true hl, Bool.true_and]
  cases e : L.getLast? with
  | none => rfl
  | some t =>
    have hne : L ≠ [] := by intro h; rw [h] at e; cases e
    have hp : 0 < L.length := List.length_pos_iff.2 hne
    have h4 := h2 (L.length - 1) (by omega)
    rw [List.getLast?_eq_getElem?] at e
    rw [List.getD_eq_getElem?_getD, e] at h4
    simp only [Option.getD_some] at h4
    have h5 : ws.getLast? = some (ws.getD (L.length - 1) 0) := by
      rw [List.getLast?_eq_getElem?, ← h1, List.getD_eq_getElem?_getD, List.getElem?_eq_getElem (by omega)]; rfl
    have := hk _ h5
    rw [h4]
    simpa using this
theorem rcs_at (l : List Wt) (k j : Nat) (hk : k < l.length) (hj : j < 2) : (rcs l)[k * 2 + j]? = (rc (l.getD k (0, 0, 0)))[j]? := by
  induction l generalizing k with
  | nil => simp at hk
  | cons x l ih =>
    unfold rcs
    rw [List.flatMap_cons]
    cases k with
    | zero => rw [List.getElem?_append_left (by simp [rc]; omega)]; simp
    | succ k =>
      rw [List.getElem?_append_right (by simp [rc]; omega)]
      have := ih k (by simpa using hk)
      have e : (k + 1) * 2 + j - (rc x).length = k * 2 + j := by simp [rc]; omega
      rw [e]
      simpa [rcs] using this
/-- Pairs in a row of numbers. -/
def hcs (H : List (Int × Int)) : List Value := H.flatMap fun x => [.int .i64 x.1, .int .i64 x.2]
theorem hcs_snoc (H : List (Int × Int)) (x : Int × Int) : hcs (H ++ [x]) = hcs H ++ [.int .i64 x.1, .int .i64 x.2] := by simp [hcs]
theorem hcs_at (H : List (Int × Int)) (k : Nat) (hk : k < H.length) : (hcs H)[2 * k]? = some (.int .i64 (H.getD k (0, 0)).1) ∧ (hcs H)[2 * k + 1]? = some (.int .i64 (H.getD k (0, 0)).2) := by
  induction H generalizing k with
  | nil => simp at hk
  | cons x H ih =>
    unfold hcs
    rw [List.flatMap_cons]
    cases k with
    | zero => exact ⟨rfl, rfl⟩
    | succ k =>
      have := ih k (by simpa using hk)
      rw [List.getElem?_append_right (by simp; omega), List.getElem?_append_right (by simp; omega)]
      have e1 : 2 * (k + 1) - 2 = 2 * k := by omega
      have e2 : 2 * (k + 1) + 1 - 2 = 2 * k + 1 := by omega
      simpa [e1, e2, hcs] using this
end Go.Proofs.Ytbjhpifllgoffaa
