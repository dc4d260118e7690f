/- Plain laws of lists with one more, and without one. -/
import Derived.Test.YtedifbdjcebefaaChg2
namespace Go.Proofs.Ytedifbdjcebefaa
set_option linter.unusedVariables false
set_option linter.unusedSimpArgs false
theorem bI_mem {l : List Int} {x : Int} : bI l x = true ↔ x ∈ l := by simp [bI]
theorem bI_not {l : List Int} {x : Int} : bI l x = false ↔ x ∉ l := by rw [← Bool.not_eq_true, bI_mem]
theorem woL_id {l : List Int} {x : Int} (h : x ∉ l) : woL l x = l := by
  unfold woL
  rw [List.filter_eq_self]
  intro y hy
  simp only [bne_iff_ne, ne_eq]
  rintro rfl
  exact h hy
theorem woL_zero {l : List Int} (h : risesB l = true) : woL l 0 = l := woL_id fun h0 => by
  have := (rises_pw h).2 0 h0; omega
theorem filter_lt_take {l : List Int} (x : Int) (h : l.Pairwise (· < ·)) : l.take (l.countP (· < x)) = l.filter (· < x) ∧ l.drop (l.countP (· < x)) = l.filter (fun y => !decide (y < x)) := by
  induction l with
  | nil => simp
  | cons y l ih =>
    rw [List.pairwise_cons] at h
    obtain ⟨i1, i2⟩ := ih h.2
    by_cases hy : y < x
    · simp only [List.countP_cons, List.filter_cons, hy, decide_true, if_true, List.take_succ_cons, List.drop_succ_cons, i1, i2]
      simp
    · have h0 : ∀ z ∈ l, ¬ z < x := fun z hz => by have := h.1 z hz; omega
      have hc : l.countP (fun z => decide (z < x)) = 0 := by rw [List.countP_eq_zero]; intro z hz; simpa using h0 z hz
      have hf : l.filter (fun z => decide (z < x)) = [] := by rw [List.filter_eq_nil_iff]; intro z hz; simpa using h0 z hz
      have hf2 : l.filter (fun z => !decide (z < x)) = l := by rw [List.filter_eq_self]; intro z hz; simpa using h0 z hz
      simp only [List.countP_cons, List.filter_cons, hy, decide_false, hc, hf, hf2]
      simp
theorem withL_eq {l : List Int} {x : Int} (h : l.Pairwise (· < ·)) : withL l x = l.filter (· < x) ++ ([x] ++ l.filter (fun y => !decide (y < x))) := by
  unfold withL inL
  rw [(filter_lt_take x h).1, (filter_lt_take x h).2]
theorem snoc_ind {P : List Int → Prop} (h0 : P []) (hs : ∀ l y, P l → P (l ++ [y])) (l : List Int) : P l := by
  have : ∀ n, ∀ l : List Int, l.length = n → P l := by
    intro n
    induction n with
    | zero => intro l hl; rw [List.eq_nil_of_length_eq_zero hl]; exact h0
    | succ n ih =>
      intro l hl
      have hne : l ≠ [] := by rintro rfl; simp at hl
      rw [← List.dropLast_concat_getLast hne]
      exact hs _ _ (ih _ (by simp [hl]))
  exact this _ l rfl
theorem wiP_eq (x : Int) (l : List Int) : l.Pairwise (· < ·) → x ∉ l →
    wiP l x = if l.any (fun y => decide (x < y)) then (l.filter (· < x) ++ ([x] ++ l.filter (fun y => !decide (y < x))), true) else (l, false) := by
  refine snoc_ind (P := fun l => l.Pairwise (· < ·) → x ∉ l → wiP l x = if l.any (fun y => decide (x < y)) then (l.filter (· < x) ++ ([x] ++ l.filter (fun y => !decide (y < x))), true) else (l, false)) ?_ ?_ l
  · intro _ _; rfl
  · intro l y ih hp hx
    rw [List.pairwise_append] at hp
    have hxl : x ∉ l := fun h => hx (List.mem_append_left _ h)
    have hxy : x ≠ y := fun h => hx (by rw [h]; simp)
    rw [wiP_snoc, ih hp.1 hxl]
    have hly : ∀ z ∈ l, z < y := fun z hz => hp.2.2 z hz y (by simp)
    by_cases hlt : x < y
    · have hny : ¬ y < x := by omega
      cases hA : l.any (fun y => decide (x < y)) with
      | true => simp [wiS, hA, hlt, hny, List.filter_cons]
      | false =>
        have hall : ∀ z ∈ l, z < x := fun z hz => by
          have h1 : ¬ x < z := by
            intro h
            have : l.any (fun y => decide (x < y)) = true := by rw [List.any_eq_true]; exact ⟨z, hz, by simpa using h⟩
            rw [hA] at this; cases this
          have h2 : z ≠ x := fun h => hxl (h ▸ hz)
          omega
        have hf : l.filter (fun z => decide (z < x)) = l := by rw [List.filter_eq_self]; intro z hz; simpa using hall z hz
        have hf2 : l.filter (fun z => !decide (z < x)) = [] := by rw [List.filter_eq_nil_iff]; intro z hz; simpa using hall z hz
        simp [wiS, hA, hlt, hny, List.filter_cons, hf, hf2]
    · have hA : l.any (fun y => decide (x < y)) = false := by
        rw [← Bool.not_eq_true, List.any_eq_true]
        rintro ⟨z, hz, h⟩
        have := hly z hz
        simp at h; omega
      simp [wiS, hA, hlt]
theorem wiR_eq {l : List Int} {x : Int} (h : l.Pairwise (· < ·)) (hx : x ∉ l) : wiR l x = withL l x := by
  rw [withL_eq h, wiR, wiP_eq x l h hx]
  cases hA : l.any (fun y => decide (x < y)) with
  | true => simp
  | false =>
    have hall : ∀ z ∈ l, z < x := fun z hz => by
      have h1 : ¬ x < z := by
        intro h
        have : l.any (fun y => decide (x < y)) = true := by rw [List.any_eq_true]; exact ⟨z, hz, by simpa using h⟩
        rw [hA] at this; cases this
      have h2 : z ≠ x := fun h => hx (h ▸ hz)
      omega
    have hf : l.filter (fun z => decide (z < x)) = l := by rw [List.filter_eq_self]; intro z hz; simpa using hall z hz
    have hf2 : l.filter (fun z => !decide (z < x)) = [] := by rw [List.filter_eq_nil_iff]; intro z hz; simpa using hall z hz
    rw [hf, hf2]; simp
theorem woL_none {l : List Int} {x : Int} (h : l.Pairwise (· < ·)) (hx : x ∈ l) : woL l x = [] ↔ l.length = 1 := by
  constructor
  · intro hw
    have hall : ∀ y ∈ l, y = x := fun y hy => by
      by_cases e : y = x
      · exact e
      · exfalso
        have : y ∈ woL l x := by unfold woL; rw [List.mem_filter]; exact ⟨hy, by simpa using e⟩
        rw [hw] at this; cases this
    match l, h, hall, hx with
    | [], _, _, hx => cases hx
    | [_], _, _, _ => rfl
    | a :: b :: r, h, hall, _ =>
      rw [List.pairwise_cons] at h
      have h1 := h.1 b (by simp)
      have h2 := hall a (by simp)
      have h3 := hall b (by simp)
      omega
  · intro hl
    match l, hl, hx with
    | [a], _, hx =>
      rw [List.mem_singleton] at hx
      simp [woL, hx]
theorem meet_not {V L : List Int} (h : meetB V L = false) {x : Int} (hl : x ∈ L) : x ∉ V := fun hv => by
  have : meetB V L = true := by
    simp only [meetB, List.any_eq_true]
    exact ⟨x, hv, bI_mem.2 hl⟩
  rw [h] at this; cases this
end Go.Proofs.Ytedifbdjcebefaa
