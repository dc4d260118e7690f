/- Gathered, sorted, compacted. -/
import Derived.Test.YtedifbdjcebefaaVals
import Derived.Shelf.SlicesG.CompactI
import Derived.Shelf.Slices.In.SortNone
namespace Go.Proofs.Ytedifbdjcebefaa
open Go Go.RowKit Go.Shelf Go.Sort
set_option linter.unusedVariables false
set_option linter.unusedSimpArgs false
set_option maxRecDepth 100000
set_option maxHeartbeats 2000000
shelf_lay_g SlLaysN.n43 Slgn 43 at Try 28 as Try.laysCompact
abbrev srt (l : List Int) : List Int := l.mergeSort fun x y => decide (x ≤ y)
theorem srt_len (l : List Int) : (srt l).length = l.length := List.length_mergeSort _
theorem srt_own (base n : Nat) (v : Value) (l : List Int) (w : World) (hrow : w.ownsRow base 3 1 v n (l.map (Value.int .i64))) (hn : n ≤ 1000) :
    Calls Try.prog 43 #[v] w fun e w' => e = .returned (.tuple #[]) ∧ w'.ownsRow base 3 1 v n ((srt l).map (Value.int .i64)) ∧ Below base w w' := by
  have hl : l.length = n := by have := hrow.1; simpa using this
  rcases hrow.2 with ⟨rfl, h0⟩ | ⟨g, cap, cur, rfl, hb, hg, h2, h3, h4, h5⟩
  · subst h0
    have hl0 : l = [] := List.eq_nil_of_length_eq_zero hl
    subst hl0
    refine (Any.slices_Sort_int_none Try.laysSort none 0 w).mono ?_
    rintro e w' ⟨rfl, rfl⟩
    exact ⟨rfl, by simpa using hrow, Below.refl _ _⟩
  · subst hl
    have hH := holds_own (n := l.length) hg (by omega) rfl (by simpa using h5)
    refine (Any.slices_Sort_int Try.laysSort g 0 cap l w hH (Array.getElem?_eq_some_iff.1 hg).1 (by omega)).mono ?_
    rintro e w' ⟨rfl, q, os, rfl⟩
    refine ⟨rfl, ownsRow_sortedI (srt_len l) hb hg h2 h3 (by simpa using h4), ⟨rfl, rfl, rfl, ?_, fun k hk => ?_⟩⟩
    · have := (grownBy_sortedI (w := w) (g := g) (n := q) (os := os) (srt l).toArray).size
      exact this
    · exact (grownBy_sortedI (w := w) (g := g) (n := q) (os := os) (srt l).toArray).block k (by have := (Array.getElem?_eq_some_iff.1 hg).1; omega) (fun e => by cases e; omega)
theorem collect_any (Bs : Nat) (a : Option Addr) (k c : Nat) (l : List Int) (hk : k ≤ 1000) (w : World) (hBs : w.heap[Bs]? = some (.cells #[.slice a k c] 22 (0, 0))) (hR : Rd w a k l) :
    Calls Try.prog 42 #[.func (.func 44) #[] #[.pointer (some ⟨Bs, 0, none⟩)]] w (Gath w l) := by
  have C := Lib.hid (app_any Bs a k c l hk w hBs hR)
  clear hBs hR
  go_enter Try.func42, Try.ntmps42
  go_wp2_with fail
  refine C.out.mono ?_
  rintro e w' ⟨v, rfl, hrow, hb⟩
  have H1 := Lib.hid hrow
  have H2 := Lib.hid hb
  clear hrow hb C
  obtain ⟨a', c', rfl⟩ := own_sl H1.out
  go_wp2_with fail
  go_ret
  exact ⟨_, rfl, H1.out, H2.out⟩
theorem sorted_any (Bs : Nat) (a : Option Addr) (k c : Nat) (l : List Int) (hk : k ≤ 1000) (w : World) (hBs : w.heap[Bs]? = some (.cells #[.slice a k c] 22 (0, 0))) (hR : Rd w a k l) :
    Calls Try.prog 29 #[.func (.func 44) #[] #[.pointer (some ⟨Bs, 0, none⟩)]] w (Gath w (srt l)) := by
  have hl := hR.1
  have C := Lib.hid (collect_any Bs a k c l hk w hBs hR)
  have HL := Lib.hid hl
  clear hBs hR hl
  go_enter Try.func29, Try.ntmps29
  go_wp2_with fail
  refine C.out.mono ?_
  rintro e w' ⟨v, rfl, hrow, hb⟩
  have H1 := Lib.hid hrow
  have H2 := Lib.hid hb
  clear hrow hb C
  obtain ⟨a', c', rfl⟩ := own_sl H1.out
  go_wp2_with fail
  refine (srt_own w.heap.size l.length _ l _ H1.out (by rw [HL.out]; exact hk)).mono ?_
  rintro e w2 ⟨rfl, hrow, hb⟩
  have H3 := Lib.hid hrow
  have H4 := Lib.hid (H2.out.trans hb)
  clear hrow hb
  go_wp2_with fail
  go_ret
  refine ⟨_, rfl, ?_, H4.out⟩
  have := H3.out
  rwa [srt_len]
theorem compact_rising {l : List Int} (h : l.Pairwise (· < ·)) : Lib.compact l = l := by
  have hk : ∀ j, j < l.length → Lib.keeps l.toArray j = true := by
    intro j hj
    unfold Lib.keeps
    rw [decide_eq_true_iff]
    rcases Nat.eq_zero_or_pos j with rfl | h0
    · exact .inl rfl
    · right
      rw [getElem!_pos l.toArray j (by simpa using hj), getElem!_pos l.toArray (j - 1) (by simp; omega)]
      have := List.pairwise_iff_getElem.1 h (j - 1) j (by omega) hj (by omega)
      simp only [List.getElem_toArray]
      omega
  unfold Lib.compact Lib.compactUpTo
  rw [List.filter_eq_self.2 (fun j hj => hk j (List.mem_range.1 hj))]
  apply List.ext_getElem (by simp)
  intro j h1 h2
  simp [List.getElem?_eq_getElem h2]
theorem srt_rising {l : List Int} (h : l.Pairwise (· < ·)) : srt l = l :=
  List.mergeSort_of_pairwise (List.Pairwise.imp (fun h => by simpa using Int.le_of_lt h) h)
theorem compact_any (base n : Nat) (v : Value) (l : List Int) (w : World) (hrow : w.ownsRow base 3 1 v n (l.map (Value.int .i64))) (hn : n ≤ 1000) (hr : l.Pairwise (· < ·)) :
    Calls Try.prog 28 #[v] w fun e w' => e = .returned v ∧ (∃ a c, v = .slice a n c ∧ Rd w' a n l) ∧ Below base w w' := by
  have hl : l.length = n := by have := hrow.1; simpa using this
  rcases hrow.2 with ⟨rfl, h0⟩ | ⟨g, cap, cur, rfl, hb, hg, h2, h3, h4, h5⟩
  · subst h0
    refine (AnyG.slices_Compact_int_empty Try.laysCompact none 0 w).mono ?_
    rintro e w' ⟨rfl, rfl⟩
    exact ⟨rfl, ⟨none, 0, rfl, hl, .inl rfl⟩, Below.refl _ _⟩
  · subst hl
    have hH := holds_own (n := l.length) hg (by omega) rfl (by simpa using h5)
    refine (AnyG.slices_Compact_int Try.laysCompact g 0 cap l w hH (by omega) h2).mono ?_
    rintro e w' ⟨rfl, q, rfl⟩
    rw [compact_rising hr, Nat.sub_self, List.replicate_zero, List.append_nil]
    have hH2 := holds_putRow (Value.int .i64) (Sort.ahead w q) g 0 l.toArray l.toArray (fun j hj => hH j hj) rfl
    exact ⟨rfl, ⟨_, _, rfl, holds_rd hH2 (by simp) (by simp)⟩, below_putRow _ _ _ _ _ _ hb⟩
/-- How many of a list's are there. -/
def cnt (A V : List Int) : Nat := V.countP (bI A)
def majB (V A : List Int) : Bool := decide (V.length / 2 < cnt A V)
theorem cnt_snoc (A V : List Int) (y : Int) : cnt A (V ++ [y]) = cnt A V + (if bI A y then 1 else 0) := by
  unfold cnt; rw [List.countP_append, List.countP_singleton]
theorem maj_any (a : Option Addr) (n c : Nat) (V : List Int) (u : Value) (b : Option Addr) (m d : Nat) (A : List Int) (w : World) (hV : Rd w a n V) (hA : Rd w b m A) (hn : n ≤ 1000) (hm : m ≤ 1000) (hr : V.Pairwise (· < ·)) (hu : ∃ x y z, u = .slice x y z) :
    Calls Try.prog 18 #[.agg #[.slice a n c, u], .slice b m d] w fun e w' => e = .returned (.bool (majB V A)) ∧ Below w.heap.size w w' := by
  obtain ⟨ux, uy, uz, rfl⟩ := hu
  have L1 : Hid (Below w.heap.size w ((w.alloc (.cells #[.slice a n c, .slice ux uy uz] 24)).alloc (.cells #[.slice a n c] 22))) := ((Below.refl _ w).alloc (Nat.le_refl _) _).alloc (by simp) _
  have R1 := Lib.hid (hV.keep (Nat.le_refl _) L1.out)
  have R2 := Lib.hid (hA.keep (Nat.le_refl _) L1.out)
  have HL := Lib.hid hV.1
  have HA := Lib.hid hA.1
  have HR := Lib.hid hr
  clear hV hA hr
  go_enter Try.func18, Try.ntmps18
  go_wp2_with fail
  refine (vals_any a n c _).mono ?_
  rintro e w1 ⟨rfl, hw1⟩
  have hz : (w.alloc (.cells #[.slice a n c, .slice ux uy uz] 24)).heap.size = w.heap.size + 1 := by simp
  have hB : w1.heap[w.heap.size + 1]? = some (.cells #[.slice a n c] 22 (0, 0)) := by
    rw [hw1, ← hz]; exact heap_alloc_new _ _
  rw [← hw1] at L1 R1 R2
  rw [hz]
  have HB := Lib.hid hB
  clear hB hw1 hz
  go_wp2_with fail
  refine (sorted_any (w.heap.size + 1) a n c V hn w1 HB.out R1.out).mono ?_
  rintro e w2 ⟨v, rfl, hrow, hb⟩
  rw [srt_rising HR.out, HL.out] at hrow
  have L2 := Lib.hid (L1.out.trans (hb.mono L1.out.size))
  have R3 := Lib.hid (R2.out.keep (Nat.le_refl _) hb)
  have H1 := Lib.hid hrow
  have HB12 := Lib.hid hb
  clear hrow hb
  obtain ⟨a', c', rfl⟩ := own_sl H1.out
  go_wp2_with fail
  refine (compact_any w1.heap.size n _ V w2 H1.out hn HR.out).mono ?_
  rintro e w3 ⟨rfl, ⟨a2, c2, he, hRd⟩, hb⟩
  cases he
  have L3 := Lib.hid (L2.out.trans (hb.mono L1.out.size))
  have R4 : Hid (Rd w3 b m A) := by
    show Rd _ _ _ _
    have h1 : Rd w1 b m A := R2.out
    exact h1.keep (Nat.le_refl _) (HB12.out.trans hb)
  have R5 := Lib.hid hRd
  clear hb hRd H1 R3 R2 R1
  go_wp2_with fail
  go_loop [6, 16] (fun cv iv => ∃ k : Nat, k ≤ n ∧ iv = .int .i64 k ∧ cv = .int .i64 (cnt A (V.take k) : Nat)) (fun _ iv => n - (intOf iv).toNat)
  case atStart => exact ⟨0, by omega, rfl, rfl⟩
  case round =>
    obtain ⟨k, hk, rfl, rfl⟩ := hrel
    have hck : cnt A (V.take k) ≤ 1000 := by
      have := List.countP_le_length (p := bI A) (l := V.take k)
      unfold cnt
      simp at this; omega
    by_cases hlt : k < n
    · obtain ⟨b2, off, rfl, hc⟩ := R5.out.at hlt
      have HT := Lib.hid (take_snoc V k (by rw [HL.out]; exact hlt))
      have HS := Lib.hid (cnt_snoc A (V.take k) (V.getD k 0))
      generalize V.getD k 0 = y at *
      generalize cnt A (V.take k) = q at *
      cases hy : bI A y
      · have HY := Lib.hid hy
        clear hy
        go_wp2_with (go_at_call 19; refine (chas_any b m d A y _ R4.out hm).mono ?_; rintro e w' ⟨rfl, rfl⟩; rw [HY.out])
        go_round
        case rel => exact ⟨k + 1, by omega, by go_num, by rw [HT.out, HS.out, HY.out]; simp⟩
        case measure => simp [intOf]; omega
      · have HY := Lib.hid hy
        clear hy
        go_wp2_with (go_at_call 19; refine (chas_any b m d A y _ R4.out hm).mono ?_; rintro e w' ⟨rfl, rfl⟩; rw [HY.out])
        go_round
        case rel => exact ⟨k + 1, by omega, by go_num, by rw [HT.out, HS.out, HY.out]; simp⟩
        case measure => simp [intOf]; omega
    · have hkn : k = n := by omega
      have ht : V.take k = V := List.take_of_length_le (by rw [HL.out]; omega)
      rw [ht] at hck
      have HM : Hid (majB V A = decide (((n : Int) / 2) < ((cnt A V : Nat) : Int))) := by
        show _ = _
        unfold majB
        rw [HL.out]
        congr 1
        apply propext
        constructor <;> intro h <;> omega
      have htd : (n : Int).tdiv 2 = (n : Int) / 2 := Int.tdiv_eq_ediv_of_nonneg (by omega)
      rw [ht]
      clear ht hkn
      generalize cnt A V = q at *
      go_wp2_with fail
      go_ret
      exact ⟨ret_bool HM.out.symm, L3.out⟩
end Go.Proofs.Ytedifbdjcebefaa
