/- What a majority is, by itself. -/
import Derived.Test.YtedifbdjcebefaaMeetPlain
namespace Go.Proofs.Ytedifbdjcebefaa
open Go Go.RowKit
set_option linter.unusedVariables false
set_option linter.unusedSimpArgs false
theorem cnt_self (V : List Int) : cnt V V = V.length := by
  unfold cnt
  rw [List.countP_eq_length]
  intro x hx
  exact bI_mem.2 hx
theorem maj_self {V : List Int} (h : V ≠ []) : majB V V = true := by
  unfold majB
  rw [cnt_self]
  have : 0 < V.length := List.length_pos_iff.2 h
  exact decide_eq_true (by omega)
theorem cnt_none {V A : List Int} (h : ∀ x ∈ V, bI A x = false) : cnt A V = 0 := by
  unfold cnt
  rw [List.countP_eq_zero]
  intro x hx
  rw [h x hx]; simp
theorem maj_none {V A : List Int} (h : ∀ x ∈ V, bI A x = false) : majB V A = false := by
  unfold majB
  rw [cnt_none h]
  exact decide_eq_false (by omega)
theorem maj_learners {V L : List Int} (h : meetB V L = false) : majB V L = false := maj_none fun x hx => by
  cases e : bI L x with
  | false => rfl
  | true => exact absurd hx (meet_not h (bI_mem.1 e))
theorem maj_nil (V : List Int) : majB V [] = false := maj_none fun x _ => rfl
theorem cnt_le (V A : List Int) (y : Int) : cnt A V ≤ cnt (A ++ [y]) V := by
  unfold cnt
  refine List.countP_mono_left fun x _ h => ?_
  rw [bI_mem] at h ⊢
  exact List.mem_append_left _ h
theorem maj_more {V A : List Int} (y : Int) (h : majB V A = true) : majB V (A ++ [y]) = true := by
  unfold majB at h ⊢
  have := of_decide_eq_true h
  have := cnt_le V A y
  exact decide_eq_true (by omega)
theorem maj_other {V A : List Int} {y : Int} (h : bI V y = false) : majB V (A ++ [y]) = majB V A := by
  have : cnt (A ++ [y]) V = cnt A V := by
    unfold cnt
    refine List.countP_congr fun x hx => ?_
    rw [bI_mem, bI_mem, List.mem_append, List.mem_singleton]
    constructor
    · rintro (h1 | rfl)
      · exact h1
      · exact absurd hx (bI_not.1 h)
    · exact .inl
  unfold majB
  rw [this]
theorem maj_from (w2 : World) (a : Option Addr) (n c : Nat) (V : List Int) (u : Value) (b : Option Addr) (m d : Nat) (A : List Int) (W : World) (hV : Rd w2 a n V) (hA : Rd w2 b m A) (hn : n ≤ 1000) (hm : m ≤ 1000) (hr : V.Pairwise (· < ·)) (hu : ∃ x y z, u = .slice x y z) (hW : Below w2.heap.size w2 W) :
    Calls Try.prog 18 #[.agg #[.slice a n c, u], .slice b m d] W fun e w' => e = .returned (.bool (majB V A)) ∧ Below w2.heap.size w2 w' :=
  (maj_any a n c V u b m d A W (hV.keep (Nat.le_refl _) hW) (hA.keep (Nat.le_refl _) hW) hn hm hr hu).mono fun e w' ⟨he, hb⟩ => ⟨he, hW.trans (hb.mono hW.size)⟩
theorem chas_from (w2 : World) (a : Option Addr) (n c : Nat) (l : List Int) (x : Int) (W : World) (hR : Rd w2 a n l) (hb : n ≤ 1000) (hW : Below w2.heap.size w2 W) : Calls Try.prog 19 #[.slice a n c, .int .i64 x] W fun e w' => e = .returned (.bool (bI l x)) ∧ Below w2.heap.size w2 w' :=
  (chas_any a n c l x W (hR.keep (Nat.le_refl _) hW) hb).mono fun e w' ⟨he, hw⟩ => ⟨he, hw ▸ hW⟩
theorem lives_from (w2 W : World) (hW : Below w2.heap.size w2 W) : Calls Try.prog 9 #[] W fun e w' => e = .returned (.bool true) ∧ Below w2.heap.size w2 w' :=
  (lives_any W).mono fun e w' ⟨he, hb⟩ => ⟨he, hW.trans (hb.mono hW.size)⟩
theorem own_empty (w : World) : (w.alloc (.cells #[] 3)).ownsRow w.heap.size 3 1 (.slice (some ⟨w.heap.size, 0, none⟩) 0 0) 0 [] :=
  ⟨rfl, .inr ⟨w.heap.size, 0, #[], rfl, Nat.le_refl _, heap_alloc_new w _, Nat.le_refl _, by simp [maxLen], rfl, rfl⟩⟩
end Go.Proofs.Ytedifbdjcebefaa
