/- What is sure of members, sorted. -/
import Derived.Test.YtedifbdjcebefaaCat
namespace Go.Proofs.Ytedifbdjcebefaa
open Go Go.RowKit
set_option linter.unusedVariables false
set_option linter.unusedSimpArgs false
theorem wantN_le (n : Int) : 1 ≤ wantN n ∧ wantN n ≤ 9 := by unfold wantN; split <;> (try split) <;> omega
theorem good_upTo {k : Nat} (h1 : 1 ≤ k) (h9 : k ≤ 9) : goodB (upTo k) [] = true := by
  rcases (show k = 1 ∨ k = 2 ∨ k = 3 ∨ k = 4 ∨ k = 5 ∨ k = 6 ∨ k = 7 ∨ k = 8 ∨ k = 9 by omega) with rfl | rfl | rfl | rfl | rfl | rfl | rfl | rfl | rfl <;> decide
theorem upTo_length (k : Nat) : (upTo k).length = k := by simp [upTo]
theorem upTo_getD {k i : Nat} (h : i < k) : (upTo k).getD i 0 = ((i + 1 : Nat) : Int) := by
  simp [upTo, List.getD_eq_getElem?_getD, h]
theorem srt_upTo {k : Nat} (h1 : 1 ≤ k) (h9 : k ≤ 9) : srt (upTo k ++ []) = upTo k := by
  rw [List.append_nil]
  exact srt_rising (rises_pw (good_parts (good_upTo h1 h9)).2.1).1
theorem mem_from (w2 : World) (a : Option Addr) (n c : Nat) (V : List Int) (b : Option Addr) (m d : Nat) (L : List Int) (W : World) (hV : Rd w2 a n V) (hL : Rd w2 b m L) (hn : n ≤ 400) (hm : m ≤ 400) (hW : Below w2.heap.size w2 W) :
    Calls Try.prog 21 #[.agg #[.slice a n c, .slice b m d]] W fun e w' => ∃ a' n' c', e = .returned (.slice a' n' c') ∧ Rd w' a' n' (srt (V ++ L)) ∧ Below w2.heap.size w2 w' :=
  (mem_any a n c V b m d L W (hV.keep (Nat.le_refl _) hW) (hL.keep (Nat.le_refl _) hW) hn hm).mono fun e w' ⟨a', n', c', he, hr, hb⟩ => ⟨a', n', c', he, hr, hW.trans (hb.mono hW.size)⟩
theorem refgood_from (w2 : World) (a : Option Addr) (n c : Nat) (V : List Int) (b : Option Addr) (m d : Nat) (L : List Int) (W : World) (hV : Rd w2 a n V) (hL : Rd w2 b m L) (hn : n ≤ 9223372036854775807) (hm : m ≤ 9223372036854775807) (hW : Below w2.heap.size w2 W) :
    Calls Try.prog 20 #[.agg #[.slice a n c, .slice b m d]] W fun e w' => e = .returned (.bool (goodB V L)) ∧ Below w2.heap.size w2 w' :=
  (refgood_any a n c V b m d L W (hV.keep (Nat.le_refl _) hW) (hL.keep (Nat.le_refl _) hW) hn hm).mono fun e w' ⟨he, hb⟩ => ⟨he, hW.trans (hb.mono hW.size)⟩
end Go.Proofs.Ytedifbdjcebefaa
