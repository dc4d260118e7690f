/- What a majority has, of a list that is moved or turned; two rows of the call's own, apart. -/
import Derived.Test.YtlcdidmhokbkfaaApp
import Derived.Maps.AppendAt
namespace Go.Proofs.Ytlcdidmhokbkfaa
open Go Go.RowKit Go.Shelf Go.Sort
set_option linter.unusedVariables false
set_option linter.unusedSimpArgs false
theorem cL_cA {l : List Int} {x y : Int} (h : x < y) : cL l y ≤ cA l x := by
  unfold cL cA
  apply List.countP_mono_left
  intro a _ ha
  simp at ha ⊢
  omega
theorem cmt_only {l : List Int} {x y q : Int} {m : Nat} (h1 : m ≤ cL l x) (h2 : cA l x < m) (h3 : m ≤ cL l y) (h4 : cA l y < m) : x = y := by
  rcases Int.lt_trichotomy x y with h | h | h
  · have := cL_cA (l := l) h; omega
  · exact h
  · have := cL_cA (l := l) h; omega
theorem cmt_reverse (l : List Int) (h : 0 < l.length) : cmt l.reverse = cmt l := by
  have h1 := cmt_least l h
  have h2 := cmt_above l h
  have h3 := cmt_least l.reverse (by simpa using h)
  have h4 := cmt_above l.reverse (by simpa using h)
  have e1 : cL l.reverse (cmt l.reverse) = cL l (cmt l.reverse) := by unfold cL; exact List.countP_reverse
  have e2 : cA l.reverse (cmt l.reverse) = cA l (cmt l.reverse) := by unfold cA; exact List.countP_reverse
  rw [e1, List.length_reverse] at h3
  rw [e2, List.length_reverse] at h4
  exact cmt_only (q := 0) h3 h4 h1 h2
theorem cmt_up (l : List Int) (h : 0 < l.length) : cmt (l.map (· + 1)) = cmt l + 1 := by
  have h1 := cmt_least l h
  have h2 := cmt_above l h
  have h3 := cmt_least (l.map (· + 1)) (by simpa using h)
  have h4 := cmt_above (l.map (· + 1)) (by simpa using h)
  rw [List.length_map] at h3 h4
  have e1 : cL (l.map (· + 1)) (cmt l + 1) = cL l (cmt l) := by unfold cL; rw [List.countP_map]; congr 1; funext x; simp
  have e2 : cA (l.map (· + 1)) (cmt l + 1) = cA l (cmt l) := by unfold cA; rw [List.countP_map]; congr 1; funext x; simp
  rw [← e1] at h1
  rw [← e2] at h2
  exact cmt_only (q := 0) h3 h4 h1 h2
theorem cmt_one (n : Int) : cmt [n] = n := by simp [cmt, List.mergeSort]
theorem cmt_mem (l : List Int) (h : 0 < l.length) : cmt l ∈ l := by
  obtain ⟨hi, e⟩ := cmt_eq l h
  rw [e]; exact (List.mergeSort_perm l _).subset (List.getElem_mem hi)
/-- No block of one is a block of the other. -/
def Ap (v u : Value) : Prop := ∀ g, v.ownBlock = some g → u.ownBlock ≠ some g
theorem Ap.symm {v u : Value} (h : Ap v u) : Ap u v := fun g h1 h2 => h g h2 h1
theorem own_lt {w : World} {base : Nat} {e : TypeId} {size n : Nat} {v : Value} {xs : List Value} (h : w.ownsRow base e size v n xs) {j : Nat} (ej : v.ownBlock = some j) : j < w.heap.size := by
  rcases h.2 with ⟨rfl, _⟩ | ⟨g, cap, cur, rfl, hb, hg, _⟩
  · simp [Value.ownBlock] at ej
  · obtain rfl : g = j := by simpa [Value.ownBlock] using ej
    exact (Array.getElem?_eq_some_iff.1 hg).1
/-- What an append does to two rows that are apart. -/
theorem apart_step {W w1 : World} {base n k m : Nat} {v v' u : Value} {xs ys zs : List Value} {tmp : Obj} (h1 : W.ownsRow base 3 1 v n xs) (h2 : W.ownsRow base 3 1 u k ys) (hap : Ap v u)
    (hown : w1.ownsRow base 3 1 v' m zs) (hgrow : (W.alloc tmp).grownBy w1 v.ownBlock) (hat : v'.ownBlock = v.ownBlock ∨ v'.ownBlock = some (W.alloc tmp).heap.size) (hb : base ≤ W.heap.size) :
    w1.ownsRow base 3 1 u k ys ∧ Ap v' u ∧ Below base W w1 := by
  refine ⟨(h2.alloc tmp).kept hgrow ?_, ?_, ((Below.refl base W).alloc hb tmp).grown hgrow (by simp; omega) (fun j ej => own_blk h1 ej)⟩
  · cases hu : u.ownBlock with
    | none => first | exact .inl rfl | exact .inl hu | simp
    | some g => right; intro hv; exact hap g hv.symm (by rw [hu])
  · intro g hg hu
    rcases hat with e | e
    · exact hap g (by rw [← e]; exact hg) hu
    · rw [e] at hg
      have := own_lt h2 hu
      simp at hg
      omega
end Go.Proofs.Ytlcdidmhokbkfaa
