/- Gathered, sorted, compacted; the majority. -/
import Derived.Test.YtbjhpifllgoffaaVals
import Derived.Test.YtbjhpifllgoffaaShelf
import Derived.Test.YtbjhpifllgoffaaMajPlain
import Derived.Shelf.SlicesG.CompactI
import Derived.Shelf.Slices.In.SortNone
namespace Go.Proofs.Ytbjhpifllgoffaa
open Go Go.RowKit Go.Shelf Go.Sort
set_option linter.unusedVariables false
set_option linter.unusedSimpArgs false
set_option maxRecDepth 100000
set_option maxHeartbeats 2000000
attribute [local irreducible] dst
theorem srt_own (base n : Nat) (v : Value) (l : List Int) (w : World) (hrow : w.ownsRow base 3 1 v n (l.map (Value.int .i64))) (hn : n ≤ 1000) :
    Calls Try.prog 40 #[v] w fun e w' => e = .returned (.tuple #[]) ∧ w'.ownsRow base 3 1 v n ((srt l).map (Value.int .i64)) ∧ Below base w w' := by
  have hl : l.length = n := by have := hrow.1; simpa using this
  rcases hrow.2 with ⟨rfl, h0⟩ | ⟨g, cap, cur, rfl, hb, hg, h2, h3, h4, h5⟩
  · subst h0
    have hl0 : l = [] := List.eq_nil_of_length_eq_zero hl
    subst hl0
    refine (Any.slices_Sort_int_none Try.laysSort none 0 w).mono ?_
    rintro e w' ⟨rfl, rfl⟩
    exact ⟨rfl, by simpa using hrow, Below.refl _ _⟩
  · subst hl
    have hH := holds_own (n := l.length) hg (by omega) rfl (by simpa using h5)
    refine (Any.slices_Sort_int Try.laysSort g 0 cap l w hH (Array.getElem?_eq_some_iff.1 hg).1 (by omega)).mono ?_
    rintro e w' ⟨rfl, q, os, rfl⟩
    refine ⟨rfl, ownsRow_sortedI (srt_len l) hb hg h2 h3 (by simpa using h4), ⟨rfl, rfl, rfl, ?_, fun k hk => ?_⟩⟩
    · have := (grownBy_sortedI (w := w) (g := g) (n := q) (os := os) (srt l).toArray).size
      exact this
    · exact (grownBy_sortedI (w := w) (g := g) (n := q) (os := os) (srt l).toArray).block k (by have := (Array.getElem?_eq_some_iff.1 hg).1; omega) (fun e => by cases e; omega)
theorem collect_any (Bs : Nat) (a : Option Addr) (k c : Nat) (l : List Int) (hk : k ≤ 1000) (w : World) (hBs : w.heap[Bs]? = some (.cells #[.slice a k c] 22 (0, 0))) (hR : Rd w a k l) :
    Calls Try.prog 39 #[.func (.func 41) #[] #[.pointer (some ⟨Bs, 0, none⟩)]] w (Gath w l) := by
  have C := Lib.hid (app_any Bs a k c l hk w hBs hR)
  clear hBs hR
  go_enter Try.func39, Try.ntmps39
  go_wp2_with fail
  refine C.out.mono ?_
  rintro e w' ⟨v, rfl, hrow, hb⟩
  have H1 := Lib.hid hrow
  have H2 := Lib.hid hb
  clear hrow hb C
  obtain ⟨a', c', rfl⟩ := own_sl H1.out
  go_wp2_with fail
  go_ret
  exact ⟨_, rfl, H1.out, H2.out⟩
theorem sorted_any (Bs : Nat) (a : Option Addr) (k c : Nat) (l : List Int) (hk : k ≤ 1000) (w : World) (hBs : w.heap[Bs]? = some (.cells #[.slice a k c] 22 (0, 0))) (hR : Rd w a k l) :
    Calls Try.prog 36 #[.func (.func 41) #[] #[.pointer (some ⟨Bs, 0, none⟩)]] w (Gath w (srt l)) := by
  have hl := hR.1
  have C := Lib.hid (collect_any Bs a k c l hk w hBs hR)
  have HL := Lib.hid hl
  clear hBs hR hl
  go_enter Try.func36, Try.ntmps36
  go_wp2_with fail
  refine C.out.mono ?_
  rintro e w' ⟨v, rfl, hrow, hb⟩
  have H1 := Lib.hid hrow
  have H2 := Lib.hid hb
  clear hrow hb C
  obtain ⟨a', c', rfl⟩ := own_sl H1.out
  go_wp2_with fail
  refine (srt_own w.heap.size l.length _ l _ H1.out (by rw [HL.out]; exact hk)).mono ?_
  rintro e w2 ⟨rfl, hrow, hb⟩
  have H3 := Lib.hid hrow
  have H4 := Lib.hid (H2.out.trans hb)
  clear hrow hb
  go_wp2_with fail
  go_ret
  refine ⟨_, rfl, ?_, H4.out⟩
  have := H3.out
  rwa [srt_len]
theorem compact_any (base n : Nat) (v : Value) (l : List Int) (w : World) (hrow : w.ownsRow base 3 1 v n (l.map (Value.int .i64))) (hn : n ≤ 1000) :
    Calls Try.prog 35 #[v] w fun e w' => ∃ a c, e = .returned (.slice a (Lib.compact l).length c) ∧ Rd w' a (Lib.compact l).length (Lib.compact l) ∧ Below base w w' := by
  have hl : l.length = n := by have := hrow.1; simpa using this
  rcases hrow.2 with ⟨rfl, h0⟩ | ⟨g, cap, cur, rfl, hb, hg, h2, h3, h4, h5⟩
  · subst h0
    have hl0 : l = [] := List.eq_nil_of_length_eq_zero hl
    subst hl0
    refine (AnyG.slices_Compact_int_empty Try.laysCompact none 0 w).mono ?_
    rintro e w' ⟨rfl, rfl⟩
    exact ⟨none, 0, by simp [Lib.compact, Lib.compactUpTo], ⟨rfl, .inl (by simp [Lib.compact, Lib.compactUpTo])⟩, Below.refl _ _⟩
  · subst hl
    have hH := holds_own (n := l.length) hg (by omega) rfl (by simpa using h5)
    refine (AnyG.slices_Compact_int Try.laysCompact g 0 cap l w hH (by omega) h2).mono ?_
    rintro e w' ⟨rfl, q, rfl⟩
    have hle := Lib.compact_length_le l
    have hH2 := holds_putRow (Value.int .i64) (Sort.ahead w q) g 0 l.toArray (Lib.compact l ++ List.replicate (l.length - (Lib.compact l).length) 0).toArray (holds_ahead _ w q g 0 _ hH) (by simp; omega)
    exact ⟨_, _, rfl, holds_rd hH2 (by simp) (by simp), below_putRow _ _ _ _ _ _ hb⟩
/-- How many of a list's are there. -/
def cnt (A V : List Int) : Nat := V.countP (bI A)
theorem cnt_snoc (A V : List Int) (y : Int) : cnt A (V ++ [y]) = cnt A V + (if bI A y then 1 else 0) := by
  unfold cnt; rw [List.countP_append, List.countP_singleton]
theorem maj_any (a : Option Addr) (n c : Nat) (V : List Int) (u : Value) (b : Option Addr) (m d : Nat) (A : List Int) (w : World) (hV : Rd w a n V) (hA : Rd w b m A) (hn : n ≤ 1000) (hm : m ≤ 1000) (hu : ∃ x y z, u = .slice x y z) :
    Calls Try.prog 31 #[.agg #[.slice a n c, u], .slice b m d] w fun e w' => e = .returned (.bool (majG V (bI A))) ∧ Below w.heap.size w w' := by
  obtain ⟨ux, uy, uz, rfl⟩ := hu
  have L1 : Hid (Below w.heap.size w ((w.alloc (.cells #[.slice a n c, .slice ux uy uz] 32)).alloc (.cells #[.slice a n c] 22))) := ((Below.refl _ w).alloc (Nat.le_refl _) _).alloc (by simp) _
  have R1 := Lib.hid (hV.keep (Nat.le_refl _) L1.out)
  have R2 := Lib.hid (hA.keep (Nat.le_refl _) L1.out)
  have HL := Lib.hid hV.1
  have HA := Lib.hid hA.1
  clear hV hA
  go_enter Try.func31, Try.ntmps31
  go_wp2_with fail
  refine (vals_any a n c _).mono ?_
  rintro e w1 ⟨rfl, hw1⟩
  have hz : (w.alloc (.cells #[.slice a n c, .slice ux uy uz] 32)).heap.size = w.heap.size + 1 := by simp
  have hB : w1.heap[w.heap.size + 1]? = some (.cells #[.slice a n c] 22 (0, 0)) := by
    rw [hw1, ← hz]; exact heap_alloc_new _ _
  rw [← hw1] at L1 R1 R2
  rw [hz]
  have HB := Lib.hid hB
  clear hB hw1 hz
  go_wp2_with fail
  refine (sorted_any (w.heap.size + 1) a n c V hn w1 HB.out R1.out).mono ?_
  rintro e w2 ⟨v, rfl, hrow, hb⟩
  rw [srt_len, HL.out] at hrow
  have L2 := Lib.hid (L1.out.trans (hb.mono L1.out.size))
  have R3 := Lib.hid (R2.out.keep (Nat.le_refl _) hb)
  have H1 := Lib.hid hrow
  have HB12 := Lib.hid hb
  clear hrow hb
  obtain ⟨a', c', rfl⟩ := own_sl H1.out
  go_wp2_with fail
  refine (compact_any w1.heap.size n _ (srt V) w2 H1.out hn).mono ?_
  rintro e w3 ⟨a2, c2, rfl, hRd, hb⟩
  have hdl := dst_len V
  have hmg : majG V (bI A) = decide (((dst V).length : Int) / 2 < ((cnt A (dst V) : Nat) : Int)) := by
    unfold majG cnt
    congr 1
    apply propext
    constructor <;> intro h <;> omega
  have HMG := Lib.hid hmg
  have hDL : (dst V).length ≤ n := by rw [← HL.out]; exact hdl
  clear hmg hdl
  rw [show Lib.compact (srt V) = dst V by unfold dst; rfl] at hRd ⊢
  generalize dst V = D at *
  obtain ⟨p, hp⟩ : ∃ p, p = D.length := ⟨_, rfl⟩
  rw [← hp] at hRd hDL ⊢
  have HP := Lib.hid hp
  clear hp
  have L3 := Lib.hid (L2.out.trans (hb.mono L1.out.size))
  have R4 : Hid (Rd w3 b m A) := by
    show Rd _ _ _ _
    have h1 : Rd w1 b m A := R2.out
    exact h1.keep (Nat.le_refl _) (HB12.out.trans hb)
  have R5 := Lib.hid hRd
  clear hb hRd H1 R3 R2 R1
  go_wp2_with fail
  go_loop [6, 16] (fun cv iv => ∃ k : Nat, k ≤ p ∧ iv = .int .i64 k ∧ cv = .int .i64 (cnt A (D.take k) : Nat)) (fun _ iv => p - (intOf iv).toNat)
  case atStart => exact ⟨0, by omega, rfl, rfl⟩
  case round =>
    obtain ⟨k, hk, rfl, rfl⟩ := hrel
    have hck : cnt A (D.take k) ≤ 1000 := by
      have := List.countP_le_length (p := bI A) (l := D.take k)
      unfold cnt
      simp at this; omega
    by_cases hlt : k < p
    · obtain ⟨b2, off, rfl, hc⟩ := R5.out.at hlt
      have HT := Lib.hid (take_snoc D k (by rw [← HP.out]; exact hlt))
      have HS := Lib.hid (cnt_snoc A (D.take k) (D.getD k 0))
      generalize D.getD k 0 = y at *
      generalize cnt A (D.take k) = q at *
      cases hy : bI A y
      · have HY := Lib.hid hy
        clear hy
        go_wp2_with (go_at_call 38; refine (chas_any b m d A y _ R4.out hm).mono ?_; rintro e w' ⟨rfl, rfl⟩; rw [HY.out])
        go_round
        case rel => exact ⟨k + 1, by omega, by go_num, by rw [HT.out, HS.out, HY.out]; simp⟩
        case measure => simp [intOf]; omega
      · have HY := Lib.hid hy
        clear hy
        go_wp2_with (go_at_call 38; refine (chas_any b m d A y _ R4.out hm).mono ?_; rintro e w' ⟨rfl, rfl⟩; rw [HY.out])
        go_round
        case rel => exact ⟨k + 1, by omega, by go_num, by rw [HT.out, HS.out, HY.out]; simp⟩
        case measure => simp [intOf]; omega
    · have hkn : k = p := by omega
      have ht : D.take k = D := List.take_of_length_le (by rw [← HP.out]; omega)
      rw [ht] at hck
      have HM : Hid (majG V (bI A) = decide (((p : Int) / 2) < ((cnt A D : Nat) : Int))) := by
        show _ = _
        rw [HMG.out, HP.out]
      have htd : (p : Int).tdiv 2 = (p : Int) / 2 := Int.tdiv_eq_ediv_of_nonneg (by omega)
      rw [ht]
      clear ht hkn
      generalize cnt A D = q at *
      go_wp2_with fail
      go_ret
      exact ⟨ret_bool HM.out.symm, L3.out⟩
end Go.Proofs.Ytbjhpifllgoffaa
