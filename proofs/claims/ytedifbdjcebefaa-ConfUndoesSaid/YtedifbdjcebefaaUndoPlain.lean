/- A change taken back: plain. -/
import Derived.Test.YtedifbdjcebefaaMemPlain
namespace Go.Proofs.Ytedifbdjcebefaa
open Go Go.RowKit
set_option linter.unusedVariables false
set_option linter.unusedSimpArgs false
theorem rises_of {l : List Int} (h : l.Pairwise (· < ·)) (hb : ∀ y ∈ l, 1 ≤ y ∧ y ≤ 9) : risesB l = true := by
  unfold risesB upB
  rw [List.all_eq_true]
  intro i hi
  rw [List.mem_range] at hi
  have hm : l.getD i 0 ∈ l := by
    rw [List.getD_eq_getElem?_getD, List.getElem?_eq_getElem hi]; simp
  have h1 := hb _ hm
  simp only [okB, Bool.and_eq_true, decide_eq_true_eq, Bool.or_eq_true, beq_iff_eq]
  refine ⟨h1, ?_⟩
  rcases Nat.eq_zero_or_pos i with rfl | h0
  · exact .inl rfl
  · right
    have := List.pairwise_iff_getElem.1 h (i - 1) i (by omega) hi (by omega)
    rw [List.getD_eq_getElem?_getD, List.getD_eq_getElem?_getD, List.getElem?_eq_getElem hi, List.getElem?_eq_getElem (show i - 1 < l.length by omega)]
    simpa using this
theorem woL_withL {l : List Int} {x : Int} (h : x ∉ l) : woL (withL l x) x = l := by
  have h1 : woL (l.take (l.countP (· < x))) x = l.take (l.countP (· < x)) := woL_id (fun hm => h (List.mem_of_mem_take hm))
  have h2 : woL (l.drop (l.countP (· < x))) x = l.drop (l.countP (· < x)) := woL_id (fun hm => h (List.mem_of_mem_drop hm))
  have h3 : woL (withL l x) x = woL (l.take (l.countP (· < x))) x ++ (woL [x] x ++ woL (l.drop (l.countP (· < x))) x) := by
    unfold withL inL woL
    rw [List.filter_append, List.filter_append]
  have h4 : woL [x] x = [] := by simp [woL]
  rw [h3, h1, h2, h4, List.nil_append, List.take_append_drop]
/-- All that is sure of a change that went well. -/
structure Went (V L X Y : List Int) (k n : Int) : Prop where
  good : goodB X Y = true
  lens : X.length + Y.length ≤ V.length + L.length + 1
  back : k = 1 ∨ k = 2 → errC X Y 4 n = 0 ∧ outV X Y 4 n = V ∧ outL X Y 4 n = L
  there : k = 3 → bI (srt (X ++ Y)) n = true
  gone : k = 4 → bI (srt (X ++ Y)) n = false
  kinds : k = 1 ∨ k = 2 ∨ k = 3 ∨ k = 4
theorem bI_srt (l : List Int) (x : Int) : bI (srt l) x = bI l x := by
  cases e : bI l x with
  | true => rw [bI_mem] at e ⊢; exact List.mem_mergeSort.2 e
  | false => rw [bI_not] at e ⊢; exact fun h => e (List.mem_mergeSort.1 h)
theorem meet_of {X Y : List Int} (h : ∀ x ∈ X, x ∉ Y) : meetB X Y = false := by
  unfold meetB
  rw [← Bool.not_eq_true, List.any_eq_true]
  rintro ⟨x, hx, hy⟩
  exact h x hx (bI_mem.1 hy)
theorem good_of {X Y : List Int} (h0 : X ≠ []) (h1 : risesB X = true) (h2 : risesB Y = true) (h3 : ∀ x ∈ X, x ∉ Y) : goodB X Y = true := by
  unfold goodB
  rw [decide_eq_true h0, h1, h2, meet_of h3]; rfl
theorem withL_ne (l : List Int) (x : Int) : withL l x ≠ [] := by
  intro h
  have := congrArg List.length h
  rw [withL_len] at this
  simp at this
theorem rises_with {l : List Int} {x : Int} (h : risesB l = true) (h1 : 1 ≤ x) (h9 : x ≤ 9) (hx : x ∉ l) : risesB (withL l x) = true :=
  rises_of (withL_rises (rises_pw h).1 hx) fun y hy => by
    rcases (withL_mem (rises_pw h).1).1 hy with rfl | hy
    · exact ⟨h1, h9⟩
    · exact (rises_pw h).2 y hy
theorem rises_wo {l : List Int} {x : Int} (h : risesB l = true) : risesB (woL l x) = true :=
  rises_of ((rises_pw h).1.sublist List.filter_sublist) fun y hy => (rises_pw h).2 y (woL_mem.1 hy).1
theorem back_of {X Y V L : List Int} {n : Int} (hg : goodB X Y = true) (h1 : 1 ≤ n) (h9 : n ≤ 9) (hb : (bI X n || bI Y n) = true) (hV : woL X n = V) (hne : V ≠ []) (hL : woL Y n = L) : errC X Y 4 n = 0 ∧ outV X Y 4 n = V ∧ outL X Y 4 n = L := by
  have he : errC X Y 4 n = 0 := by
    unfold errC
    rw [if_neg (by rw [hg]; simp; omega), if_neg (by omega), if_neg (by omega), if_pos rfl, if_pos hb, hV, if_neg hne]
  refine ⟨he, ?_, ?_⟩
  · unfold outV; rw [he, if_pos rfl, if_neg (by omega), hV]
  · unfold outL; rw [he, if_pos rfl, if_neg (by omega), hL]
theorem went {V L : List Int} {k n : Int} (h : errC V L k n = 0) : Went V L (outV V L k n) (outL V L k n) k n := by
  have h0 := h
  have hout : outL V L k n = if k = 2 then withL (woL L n) n else woL L n := by unfold outL; rw [if_pos h0]
  obtain ⟨hg, h1, h9, hc⟩ := outV_cases h
  have hp := good_parts hg
  have hrV := (rises_pw hp.2.1).1
  have hrL := (rises_pw hp.2.2.1).1
  have hdis : ∀ x ∈ V, x ∉ L := fun x hx hy => meet_not hp.2.2.2 hy hx
  have hwl := woL_len L n
  have hwv := woL_len V n
  have hnl : k = 1 ∨ k = 2 → n ∉ L := by
    intro hk hm
    unfold errC at h
    rw [if_neg (by rw [hg]; simp; omega), if_pos hk, if_pos (by rw [bI_mem.2 hm]; simp)] at h
    cases h
  have hl3 : k = 3 → n ∈ L := by
    intro hk
    unfold errC at h
    rw [if_neg (by rw [hg]; simp; omega), if_neg (by omega), if_pos hk] at h
    split at h
    · rename_i hl; exact bI_mem.1 hl
    · cases h
  rcases hc with ⟨ho, hv, hk⟩ | ⟨ho, hv, rfl⟩ | ⟨ho, hw, rfl⟩
  · rw [ho]
    have hY : outL V L k n = woL L n := by rw [hout, if_neg (by omega)]
    rw [hY]
    have hgd : goodB (withL V n) (woL L n) = true := good_of (withL_ne _ _) (rises_with hp.2.1 h1 h9 hv) (rises_wo hp.2.2.1) fun x hx hy => by
      rcases (withL_mem hrV).1 hx with rfl | hx
      · exact (woL_mem.1 hy).2 rfl
      · exact hdis x hx (woL_mem.1 hy).1
    refine ⟨hgd, by rw [withL_len]; omega, ?_, ?_, ?_, by omega⟩
    · intro hk2
      exact back_of hgd h1 h9 (by rw [bI_mem.2 ((withL_mem hrV).2 (.inl rfl))]; rfl) (woL_withL hv) hp.1 (by rw [woL_id (hnl hk2), woL_id (hnl hk2)])
    · intro _
      rw [bI_srt, bI_mem]
      exact List.mem_append_left _ ((withL_mem hrV).2 (.inl rfl))
    · intro hk4; omega
  · rw [ho]
    have hnL := hnl (.inr rfl)
    have hY : outL V L 2 n = withL L n := by rw [hout, if_pos rfl, woL_id hnL]
    rw [hY]
    have hgd : goodB V (withL L n) = true := good_of hp.1 hp.2.1 (rises_with hp.2.2.1 h1 h9 hnL) fun x hx hy => by
      rcases (withL_mem hrL).1 hy with rfl | hy
      · exact hv hx
      · exact hdis x hx hy
    refine ⟨hgd, by rw [withL_len]; omega, ?_, by intro hk; omega, by intro hk; omega, by omega⟩
    intro _
    exact back_of hgd h1 h9 (by rw [bI_mem.2 ((withL_mem hrL).2 (.inl rfl))]; simp) (woL_id hv) hp.1 (woL_withL hnL)
  · rw [ho]
    have hY : outL V L 4 n = woL L n := by rw [hout, if_neg (by omega)]
    rw [hY]
    have hgd : goodB (woL V n) (woL L n) = true := good_of hw (rises_wo hp.2.1) (rises_wo hp.2.2.1) fun x hx hy => hdis x (woL_mem.1 hx).1 (woL_mem.1 hy).1
    refine ⟨hgd, by omega, by intro hk; omega, by intro hk; omega, ?_, by omega⟩
    intro _
    rw [bI_srt, bI_not]
    intro hm
    rcases List.mem_append.1 hm with hm | hm
    · exact (woL_mem.1 hm).2 rfl
    · exact (woL_mem.1 hm).2 rfl
theorem out_nil {V L : List Int} {k n : Int} (h : errC V L k n ≠ 0) : outV V L k n = [] ∧ outL V L k n = [] := by
  unfold outV outL
  rw [if_neg h, if_neg h]; exact ⟨rfl, rfl⟩
theorem held_below4 {A B C D : Prop} {m : Nat} {w W : World} (h : A ∧ B ∧ C ∧ D ∧ Below m w W) : Below m w W := h.2.2.2.2
end Go.Proofs.Ytedifbdjcebefaa
