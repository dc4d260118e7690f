/- Rows of numbers that came in; what a majority has, of any list. -/
import Derived.Test.YtlcdidmhokbkfaaFns
import Derived.OpenShut
import Derived.ChangeOld
namespace Go.Proofs.Ytlcdidmhokbkfaa
open Go Go.RowKit Go.Shelf Go.Sort
set_option linter.unusedVariables false
set_option linter.unusedSimpArgs false
set_option maxRecDepth 100000
/-- A slice of numbers that came in. -/
def IsRow (w : World) (a : Option Addr) (len cap : Nat) (zs : List Int) : Prop :=
  (a = none ∧ len = 0 ∧ cap = 0 ∧ zs = []) ∨
  ∃ x, a = some x ∧ len ≤ cap ∧ cap ≤ maxLen ∧ zs.length = cap ∧ (∀ i, i < zs.length → w.cell? (x.add i) = some (.int .i64 (zs.getD i 0))) ∧ ∀ n ∈ zs, (Lit.int .i64 n).wf = true
theorem IsRow.len {w : World} {a : Option Addr} {len cap : Nat} {zs : List Int} (h : IsRow w a len cap zs) : len ≤ zs.length := by
  rcases h with ⟨_, rfl, _, rfl⟩ | ⟨x, rfl, hl, hm, hz, hcell, hwz⟩
  · simp
  · omega
theorem IsRow.whole {w : World} {a : Option Addr} {len cap : Nat} {zs : List Int} (h : IsRow w a len cap zs) (hk : 0 < len) : ∃ (b off : Nat), a = some ⟨b, off, none⟩ ∧ (∀ j, j < zs.length → w.cell? ⟨b, off + j, none⟩ = some (.int .i64 (zs.getD j 0))) ∧ b < w.heap.size := by
  rcases h with ⟨_, rfl, _, _⟩ | ⟨x, rfl, hl, hm, hz, hcell, hwz⟩
  · omega
  · obtain ⟨b, off, spot⟩ := x
    have hc00 := hcell 0 (by omega)
    have hspot : spot = none := by simpa [Addr.add] using World.cell?_spot hc00
    subst hspot
    have hall : ∀ j, j < zs.length → w.cell? ⟨b, off + j, none⟩ = some (.int .i64 (zs.getD j 0)) := fun j hj => by
      have hadd : (⟨b, off, none⟩ : Addr).add j = ⟨b, off + j, none⟩ := by unfold Addr.add; split <;> simp_all
      rw [← hadd]; exact hcell j hj
    refine ⟨b, off, rfl, hall, ?_⟩
    have hc0 := hall 0 (by omega)
    unfold World.cell? at hc0
    cases e : w.heap[b]? with
    | none => simp [e] at hc0
    | some o => exact (Array.getElem?_eq_some_iff.1 e).1
theorem commit_none (a : Option Addr) (c : Nat) (w : World) : Calls Try.prog 14 #[.slice a 0 c] w fun e w' => e = .returned (.int .i64 0) ∧ w = w' := by
  go_enter Try.func14, Try.ntmps14
  go_wp2
  go_ret
  exact ⟨rfl, rfl⟩
theorem take_snoc (z : List Int) (k : Nat) (h : k < z.length) : z.take (k + 1) = z.take k ++ [z.getD k 0] := by
  rw [List.take_succ_eq_append_getElem h]; simp [List.getD_eq_getElem?_getD, List.getElem?_eq_getElem h]
def bI (l : List Int) (n : Int) : Bool := l.any (· == n)
def cL (l : List Int) (n : Int) : Nat := l.countP (fun x => decide (n ≤ x))
def cA (l : List Int) (n : Int) : Nat := l.countP (fun x => decide (n < x))
theorem bI_snoc (l : List Int) (x n : Int) : bI (l ++ [x]) n = (bI l n || x == n) := by simp [bI]
theorem cL_snoc (l : List Int) (x n : Int) : cL (l ++ [x]) n = cL l n + if n ≤ x then 1 else 0 := by simp [cL, List.countP_append, List.countP_cons]
theorem cA_snoc (l : List Int) (x n : Int) : cA (l ++ [x]) n = cA l n + if n < x then 1 else 0 := by simp [cA, List.countP_append, List.countP_cons]
theorem cL_le (l : List Int) (n : Int) : cL l n ≤ l.length := List.countP_le_length
theorem cA_le (l : List Int) (n : Int) : cA l n ≤ l.length := List.countP_le_length
section
variable (l : List Int) (h : 0 < l.length)
theorem sorted_get (i j : Nat) (hij : i ≤ j) (hj : j < (l.mergeSort fun x y => decide (x ≤ y)).length) : (l.mergeSort fun x y => decide (x ≤ y))[i]'(by omega) ≤ (l.mergeSort fun x y => decide (x ≤ y))[j] := by
  have hp := List.pairwise_mergeSort (le := fun (x y : Int) => decide (x ≤ y)) (fun a b c h1 h2 => by simp at *; omega) (fun a b => by simp; omega) l
  rcases Nat.lt_or_eq_of_le hij with hlt | rfl
  · have := List.pairwise_iff_getElem.1 hp i j (by omega) hj hlt
    simpa using this
  · exact Int.le_refl _
include h
theorem cmt_eq : ∃ hi : l.length - (l.length / 2 + 1) < (l.mergeSort fun x y => decide (x ≤ y)).length, cmt l = (l.mergeSort fun x y => decide (x ≤ y))[l.length - (l.length / 2 + 1)] := by
  have hi : l.length - (l.length / 2 + 1) < (l.mergeSort fun x y => decide (x ≤ y)).length := by rw [List.length_mergeSort]; omega
  exact ⟨hi, by unfold cmt; rw [List.getD_eq_getElem?_getD, List.getElem?_eq_getElem hi]; rfl⟩
theorem cmt_in : bI l (cmt l) = true := by
  obtain ⟨hi, e⟩ := cmt_eq l h
  have hm : cmt l ∈ l := by rw [e]; exact (List.mergeSort_perm l _).subset (List.getElem_mem hi)
  simp only [bI, List.any_eq_true, beq_iff_eq]
  exact ⟨_, hm, rfl⟩
theorem cmt_least : l.length / 2 + 1 ≤ cL l (cmt l) := by
  obtain ⟨hi, e⟩ := cmt_eq l h
  have hp := (List.mergeSort_perm l (fun x y => decide (x ≤ y))).countP_eq (fun x => decide (cmt l ≤ x))
  unfold cL
  rw [← hp]
  have hl := List.length_mergeSort (le := fun (x y : Int) => decide (x ≤ y)) l
  generalize hs : (l.mergeSort fun x y => decide (x ≤ y)) = s at *
  have hd : (s.drop (l.length - (l.length / 2 + 1))).countP (fun x => decide (cmt l ≤ x)) = (s.drop (l.length - (l.length / 2 + 1))).length := by
    rw [List.countP_eq_length]
    intro a ha
    obtain ⟨j, hj, rfl⟩ := List.getElem_of_mem ha
    rw [List.getElem_drop, e]
    rw [List.length_drop] at hj
    have := sorted_get l (l.length - (l.length / 2 + 1)) (l.length - (l.length / 2 + 1) + j) (by omega) (by rw [hs]; omega)
    simp only [hs] at this
    simpa using this
  have h2 : s.countP (fun x => decide (cmt l ≤ x)) = (s.take (l.length - (l.length / 2 + 1))).countP (fun x => decide (cmt l ≤ x)) + (s.drop (l.length - (l.length / 2 + 1))).countP (fun x => decide (cmt l ≤ x)) := by
    rw [← List.countP_append, List.take_append_drop]
  rw [List.length_drop] at hd
  omega
theorem cmt_above : cA l (cmt l) < l.length / 2 + 1 := by
  obtain ⟨hi, e⟩ := cmt_eq l h
  have hp := (List.mergeSort_perm l (fun x y => decide (x ≤ y))).countP_eq (fun x => decide (cmt l < x))
  unfold cA
  rw [← hp]
  have hl := List.length_mergeSort (le := fun (x y : Int) => decide (x ≤ y)) l
  generalize hs : (l.mergeSort fun x y => decide (x ≤ y)) = s at *
  have hd : (s.take (l.length - (l.length / 2 + 1) + 1)).countP (fun x => decide (cmt l < x)) = 0 := by
    rw [List.countP_eq_zero]
    intro a ha
    obtain ⟨j, hj, rfl⟩ := List.getElem_of_mem ha
    rw [List.getElem_take, e]
    rw [List.length_take] at hj
    have := sorted_get l j (l.length - (l.length / 2 + 1)) (by omega) (by rw [hs]; omega)
    simp only [hs] at this
    simpa using this
  have h2 : s.countP (fun x => decide (cmt l < x)) = (s.take (l.length - (l.length / 2 + 1) + 1)).countP (fun x => decide (cmt l < x)) + (s.drop (l.length - (l.length / 2 + 1) + 1)).countP (fun x => decide (cmt l < x)) := by
    rw [← List.countP_append, List.take_append_drop]
  have h3 := List.countP_le_length (p := fun x => decide (cmt l < x)) (l := s.drop (l.length - (l.length / 2 + 1) + 1))
  rw [List.length_drop] at h3
  omega
end
end Go.Proofs.Ytlcdidmhokbkfaa
