/- Two majorities of members that are one change apart have a voter in common. -/
import Derived.Test.YtedifbdjcebefaaSrt
namespace Go.Proofs.Ytedifbdjcebefaa
set_option linter.unusedVariables false
set_option linter.unusedSimpArgs false
theorem count_disj {p q : Int → Bool} {l : List Int} (h : ∀ x ∈ l, ¬ (p x = true ∧ q x = true)) : l.countP p + l.countP q ≤ l.length := by
  induction l with
  | nil => simp
  | cons y l ih =>
    have h1 := ih (fun x hx => h x (by simp [hx]))
    have h2 := h y (by simp)
    rw [List.countP_cons, List.countP_cons, List.length_cons]
    cases hp : p y <;> cases hq : q y <;> simp_all <;> omega
theorem count_split (p r : Int → Bool) (l : List Int) : l.countP p = (l.filter r).countP p + (l.filter (fun x => !r x)).countP p := by
  induction l with
  | nil => simp
  | cons y l ih =>
    simp only [List.filter_cons, List.countP_cons]
    cases hr : r y <;> simp [hr, List.countP_cons, ih] <;> omega
theorem len_split (r : Int → Bool) (l : List Int) : l.length = (l.filter r).length + (l.filter (fun x => !r x)).length := by
  have := count_split (fun _ => true) r l
  simpa [List.countP_eq_length.2] using this
theorem withL_count (p : Int → Bool) {l : List Int} (h : l.Pairwise (· < ·)) (x : Int) : (withL l x).countP p = l.countP p + (if p x then 1 else 0) := by
  rw [withL_eq h, count_split p (fun y => decide (y < x)) l, List.countP_append, List.countP_append, List.countP_singleton]
  omega
theorem withL_mem {l : List Int} (h : l.Pairwise (· < ·)) {x y : Int} : y ∈ withL l x ↔ y = x ∨ y ∈ l := by
  rw [withL_eq h]
  simp only [List.mem_append, List.mem_filter, List.mem_singleton, decide_eq_true_eq, Bool.not_eq_true', decide_eq_false_iff_not]
  constructor
  · rintro (⟨h1, _⟩ | rfl | ⟨h1, _⟩)
    · exact .inr h1
    · exact .inl rfl
    · exact .inr h1
  · rintro (rfl | h1)
    · exact .inr (.inl rfl)
    · by_cases h2 : y < x
      · exact .inl ⟨h1, h2⟩
      · exact .inr (.inr ⟨h1, h2⟩)
theorem woL_mem {l : List Int} {x y : Int} : y ∈ woL l x ↔ y ∈ l ∧ y ≠ x := by simp [woL, List.mem_filter]
theorem rising_one {l : List Int} (h : l.Pairwise (· < ·)) (x : Int) : (l.filter fun y => !(y != x)).length ≤ 1 := by
  have hs : (l.filter fun y => !(y != x)).Pairwise (· < ·) := h.sublist List.filter_sublist
  have hm : ∀ y ∈ l.filter (fun y => !(y != x)), y = x := fun y hy => by simpa using (List.mem_filter.1 hy).2
  generalize l.filter (fun y => !(y != x)) = r at *
  match r, hs, hm with
  | [], _, _ => simp
  | [_], _, _ => simp
  | a :: b :: r, hs, hm =>
    have h1 := hm a (by simp)
    have h2 := hm b (by simp)
    rw [List.pairwise_cons] at hs
    have := hs.1 b (by simp)
    omega
theorem count_le_len (p : Int → Bool) (l : List Int) : l.countP p ≤ l.length := List.countP_le_length
/-- The voters behind a change that went well. -/
theorem outV_cases {V L : List Int} {k n : Int} (h : errC V L k n = 0) : goodB V L = true ∧ 1 ≤ n ∧ n ≤ 9 ∧
    ((outV V L k n = withL V n ∧ n ∉ V ∧ (k = 1 ∨ k = 3)) ∨ (outV V L k n = V ∧ n ∉ V ∧ k = 2) ∨ (outV V L k n = woL V n ∧ woL V n ≠ [] ∧ k = 4)) := by
  have h0 := h
  unfold errC at h
  split at h
  · cases h
  rename_i hb
  have hg : goodB V L = true := by
    cases e : goodB V L with
    | true => rfl
    | false => exact absurd (.inl e) hb
  have hp := good_parts hg
  refine ⟨hg, by omega, by omega, ?_⟩
  unfold outV
  rw [if_pos h0]
  split at h
  · rename_i hk
    split at h
    · cases h
    rename_i hvl
    have hv : n ∉ V := fun hm => hvl (by rw [bI_mem.2 hm]; rfl)
    rcases hk with rfl | rfl
    · left
      exact ⟨by rw [if_pos (.inl rfl), woL_id hv], hv, .inl rfl⟩
    · right; left
      exact ⟨by rw [if_neg (by omega), woL_id hv], hv, rfl⟩
  · split at h
    · rename_i hk12 hk3
      subst hk3
      split at h
      · rename_i hl
        have hv : n ∉ V := meet_not hp.2.2.2 (bI_mem.1 hl)
        left
        exact ⟨by rw [if_pos (.inr rfl), woL_id hv], hv, .inr rfl⟩
      · cases h
    · split at h
      · rename_i hk12 hk3 hk4
        subst hk4
        split at h
        · split at h
          · cases h
          · rename_i hw
            right; right
            exact ⟨by rw [if_neg (by omega)], hw, rfl⟩
        · cases h
      · cases h
theorem withL_rises {l : List Int} (h : l.Pairwise (· < ·)) {x : Int} (hx : x ∉ l) : (withL l x).Pairwise (· < ·) := by
  rw [withL_eq h, List.pairwise_append]
  refine ⟨h.sublist List.filter_sublist, ?_, ?_⟩
  · rw [List.pairwise_append]
    refine ⟨by simp, h.sublist List.filter_sublist, fun a ha b hb => ?_⟩
    rw [List.mem_singleton] at ha
    subst ha
    have h1 := List.mem_filter.1 hb
    have h2 : b ≠ a := fun e => hx (e ▸ h1.1)
    have h3 := h1.2
    simp at h3
    omega
  · intro a ha b hb
    have h1 := (List.mem_filter.1 ha).2
    simp at h1
    rcases List.mem_append.1 hb with hb | hb
    · rw [List.mem_singleton] at hb; rw [hb]; exact h1
    · have h2 := (List.mem_filter.1 hb).2
      simp at h2
      omega
theorem outV_rises {V L : List Int} {k n : Int} (h : errC V L k n = 0) : (outV V L k n).Pairwise (· < ·) := by
  obtain ⟨hg, h1, h9, hc⟩ := outV_cases h
  have hr := (rises_pw (good_parts hg).2.1).1
  rcases hc with ⟨ho, hv, _⟩ | ⟨ho, hv, _⟩ | ⟨ho, hw, _⟩
  · rw [ho]; exact withL_rises hr hv
  · rw [ho]; exact hr
  · rw [ho]; exact hr.sublist List.filter_sublist
theorem majB_lt {V A : List Int} (h : majB V A = true) : V.length / 2 < V.countP (bI A) := of_decide_eq_true h
theorem meets {V L A B : List Int} {k n : Int} (h : errC V L k n = 0) (hA : majB V A = true) (hB : majB (outV V L k n) B = true) : ∃ x ∈ A, bI V x = true ∧ bI (outV V L k n) x = true ∧ bI B x = true := by
  obtain ⟨hg, h1, h9, hc⟩ := outV_cases h
  have hp := good_parts hg
  have hr := (rises_pw hp.2.1).1
  have hA := majB_lt hA
  have hB := majB_lt hB
  by_cases hex : ∃ x ∈ A, bI V x = true ∧ bI (outV V L k n) x = true ∧ bI B x = true
  · exact hex
  exfalso
  have hno : ∀ x, x ∈ V → x ∈ outV V L k n → ¬ (bI A x = true ∧ bI B x = true) := fun x hv ho hab => hex ⟨x, bI_mem.1 hab.1, bI_mem.2 hv, bI_mem.2 ho, hab.2⟩
  rcases hc with ⟨ho, hv, _⟩ | ⟨ho, hv, _⟩ | ⟨ho, hw, _⟩
  · rw [ho] at hB hno
    have hd := count_disj (p := bI A) (q := bI B) (l := V) (fun x hx => hno x hx ((withL_mem hr).2 (.inr hx)))
    rw [withL_count _ hr, withL_len] at hB
    split at hB <;> omega
  · rw [ho] at hB hno
    have hd := count_disj (p := bI A) (q := bI B) (l := V) (fun x hx => hno x hx hx)
    omega
  · rw [ho] at hB hno
    have hd := count_disj (p := bI A) (q := bI B) (l := woL V n) (fun x hx => hno x (woL_mem.1 hx).1 hx)
    have hs := count_split (bI A) (fun y => y != n) V
    have hl := len_split (fun y => y != n) V
    have ho1 := rising_one hr n
    have hcl := count_le_len (bI A) (V.filter fun y => !(y != n))
    have e : V.filter (fun y => y != n) = woL V n := rfl
    rw [e] at hs hl
    omega
end Go.Proofs.Ytedifbdjcebefaa
