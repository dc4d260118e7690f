/- One member's change by the document, whatever comes in. -/
import Derived.Test.YtedifbdjcebefaaRChg
namespace Go.Proofs.Ytedifbdjcebefaa
open Go Go.RowKit Go.Shelf Go.Sort
set_option linter.unusedVariables false
set_option linter.unusedSimpArgs false
set_option maxRecDepth 100000
set_option maxHeartbeats 2000000
theorem refchg_bad (a : Option Addr) (n c : Nat) (V : List Int) (b : Option Addr) (m d : Nat) (L : List Int) (kind node : Int) (w : World) (hV : Rd w a n V) (hL : Rd w b m L) (hn : n ≤ 9223372036854775807) (hm : m ≤ 9223372036854775807)
    (hbad : goodB V L = false ∨ kind < 1 ∨ 4 < kind ∨ node < 1 ∨ 9 < node) :
    Calls Try.prog 11 #[.agg #[.slice a n c, .slice b m d], .int .i64 kind, .int .i64 node] w (Got w (outV V L kind node) (outL V L kind node) (errC V L kind node)) := by
  have L0 := Lib.hid (cw_below w (.slice a n c) (.slice b m d))
  have CA := Lib.hid (cw_a w (.slice a n c) (.slice b m d))
  have CR := Lib.hid (cw_b w (.slice a n c) (.slice b m d))
  have R1 := Lib.hid (hV.keep (Nat.le_refl _) L0.out)
  have R2 := Lib.hid (hL.keep (Nat.le_refl _) L0.out)
  have HE : Hid (errC V L kind node = 2) := by
    show _ = _
    unfold errC
    split
    · rfl
    · rename_i h
      have hk : kind < 1 ∨ 4 < kind := by
        rcases hbad with h1 | h1 | h1 | h1 | h1
        · exact absurd (.inl h1) h
        · exact .inl h1
        · exact .inr h1
        · exact absurd (.inr (.inl h1)) h
        · exact absurd (.inr (.inr h1)) h
      rw [if_neg (by omega), if_neg (by omega), if_neg (by omega)]
  have HO1 : Hid (outV V L kind node = []) := by show _ = _; rw [outV, HE.out]; rfl
  have HO2 : Hid (outL V L kind node = []) := by show _ = _; rw [outL, HE.out]; rfl
  have HX : Hid ((goodB V L = false) ∨ (goodB V L = true ∧ decide (kind < 1) = true) ∨ (goodB V L = true ∧ decide (kind < 1) = false ∧ decide (4 < kind) = true) ∨ (goodB V L = true ∧ decide (kind < 1) = false ∧ decide (4 < kind) = false ∧ decide (node < 1) = true) ∨ (goodB V L = true ∧ decide (kind < 1) = false ∧ decide (4 < kind) = false ∧ decide (node < 1) = false ∧ decide (9 < node) = true)) := by
    show _ ∨ _
    cases hg : goodB V L with
    | false => exact .inl rfl
    | true =>
      right
      by_cases k1 : kind < 1
      · exact .inl ⟨rfl, decide_eq_true k1⟩
      right
      by_cases k4 : 4 < kind
      · exact .inl ⟨rfl, decide_eq_false k1, decide_eq_true k4⟩
      right
      by_cases h1 : node < 1
      · exact .inl ⟨rfl, decide_eq_false k1, decide_eq_false k4, decide_eq_true h1⟩
      · refine .inr ⟨rfl, decide_eq_false k1, decide_eq_false k4, decide_eq_false h1, decide_eq_true ?_⟩
        rcases hbad with h | h | h | h | h
        · rw [hg] at h; cases h
        · exact absurd h k1
        · exact absurd h k4
        · exact absurd h h1
        · exact h
  have hca := CA.out.c0
  have hcb := CA.out.c1
  clear hV hL hbad
  go_enter Try.func11, Try.ntmps11
  go_wp2_with fail
  refine (refgood_any a n c V b m d L _ R1.out R2.out hn hm).mono ?_
  rintro e w1 ⟨rfl, hb⟩
  have L1 := Lib.hid (L0.out.trans (hb.mono L0.out.size))
  have CR1 := Lib.hid (CR.out.below (Nat.le_refl _) hb)
  clear hb R1 R2 CA CR L0 hca hcb
  have r0 := CR1.out.c0
  have r1 := CR1.out.c1
  have rf0 := CR1.out.frozen 0
  have rf1 := CR1.out.frozen 1
  have CZ := Lib.hid ((CR1.out.s0 nilS).s1 nilS)
  have BZ : Hid (Below w.heap.size w ((w1.setCell ⟨w.heap.size + 1, 0, none⟩ nilS).setCell ⟨w.heap.size + 1, 1, none⟩ nilS)) := (L1.out.setCell (p := ⟨w.heap.size + 1, 0, none⟩) (Nat.le_succ _) _).setCell (p := ⟨w.heap.size + 1, 1, none⟩) (Nat.le_succ _) _
  rcases HX.out with hg | ⟨hg, h1⟩ | ⟨hg, h1, h9⟩ | ⟨hg, h1, h9, h8⟩ | ⟨hg, h1, h9, h8, h7⟩
  all_goals (
    rw [hg]
    clear hg HX
    go_wp2_with fail
    generalize ((w1.setCell ⟨w.heap.size + 1, 0, none⟩ nilS).setCell ⟨w.heap.size + 1, 1, none⟩ nilS) = wz at *
    have f0 := CZ.out.c0
    have f1 := CZ.out.c1
    refine bodyPost_ret (v := .tuple #[.agg #[.slice none 0 0, .slice none 0 0], .int .i64 2]) (by simp [results, Try.results11, go_sem, f0, f1]) rfl ⟨none, 0, 0, none, 0, 0, by rw [HE.out], by rw [HO1.out]; exact ⟨rfl, .inl rfl⟩, by rw [HO2.out]; exact ⟨rfl, .inl rfl⟩, BZ.out⟩)
theorem refchg_any (a : Option Addr) (n c : Nat) (V : List Int) (b : Option Addr) (m d : Nat) (L : List Int) (kind node : Int) (w : World) (hV : Rd w a n V) (hL : Rd w b m L) (hn : n ≤ 9223372036854775807) (hm : m ≤ 9223372036854775807) :
    Calls Try.prog 11 #[.agg #[.slice a n c, .slice b m d], .int .i64 kind, .int .i64 node] w (Got w (outV V L kind node) (outL V L kind node) (errC V L kind node)) := by
  by_cases hbad : goodB V L = false ∨ kind < 1 ∨ 4 < kind ∨ node < 1 ∨ 9 < node
  · exact refchg_bad a n c V b m d L kind node w hV hL hn hm hbad
  · have hg : goodB V L = true := by
      cases h : goodB V L with
      | true => rfl
      | false => exact absurd (.inl h) hbad
    rcases (show kind = 1 ∨ kind = 2 ∨ kind = 3 ∨ kind = 4 by omega) with rfl | rfl | rfl | rfl
    · exact refchg_1 a n c V b m d L node w hV hL (by have := rises_len (good_parts hg).2.1; have := hV.1; omega) (by have := rises_len (good_parts hg).2.2.1; have := hL.1; omega) hg (by omega) (by omega)
    · exact refchg_2 a n c V b m d L node w hV hL (by have := rises_len (good_parts hg).2.1; have := hV.1; omega) (by have := rises_len (good_parts hg).2.2.1; have := hL.1; omega) hg (by omega) (by omega)
    · exact refchg_3 a n c V b m d L node w hV hL (by have := rises_len (good_parts hg).2.1; have := hV.1; omega) (by have := rises_len (good_parts hg).2.2.1; have := hL.1; omega) hg (by omega) (by omega)
    · exact refchg_4 a n c V b m d L node w hV hL (by have := rises_len (good_parts hg).2.1; have := hV.1; omega) (by have := rises_len (good_parts hg).2.2.1; have := hL.1; omega) hg (by omega) (by omega)
end Go.Proofs.Ytedifbdjcebefaa
