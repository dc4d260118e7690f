/- The walks of quorum: Majority, Won, Commit, and the document's examples. -/
import Derived.Test.YtlcdidmhokbkfaaSort
import Derived.WalkKit
import Derived.WalkSpells
import Derived.IntWalk
import Derived.Lib.Hide
import Derived.Laws.CopyOwn
import Derived.Laws.CopyRow
import Derived.Laws.Tables
import Derived.Deep.DeepCutAuto
import Derived.Laws.Rows
import Derived.OwnWalk
import Derived.Lib.OwnBridge
import Derived.Sort.Grow
import Derived.Sort.OwnSortedInts
namespace Go.Proofs.Ytlcdidmhokbkfaa
open Go Go.RowKit Go.Shelf Go.Sort
set_option linter.unusedVariables false
set_option linter.unusedSimpArgs false
set_option maxRecDepth 100000
set_option maxHeartbeats 1000000
theorem ret_int {k : IntKind} {a b : Int} (h : a = b) : Ending.returned (.int k a) = .returned (.int k b) := by rw [h]
def maj (n : Int) : Int := if n < 1 then 0 else n / 2 + 1
theorem maj_any (n : Int) (h : n ≤ 9223372036854775807) (w : World) : Calls Try.prog 9 #[.int .i64 n] w fun e w' => e = .returned (.int .i64 (maj n)) ∧ w = w' := by
  by_cases h1 : n < 1
  · go_enter Try.func9, Try.ntmps9
    go_wp2
    go_ret
    exact ⟨ret_int (by unfold maj; split <;> omega), rfl⟩
  · have ht : n.tdiv 2 = n / 2 := Int.tdiv_eq_ediv_of_nonneg (by omega)
    have hd : IntKind.i64.wrap (n / 2) = n / 2 := IntWalk.i64_in _ (by omega)
    have hw : IntKind.i64.wrap (n / 2 + 1) = n / 2 + 1 := IntWalk.i64_in _ (by omega)
    clear h
    go_enter Try.func9, Try.ntmps9
    go_wp2
    go_ret
    exact ⟨ret_int (by unfold maj; split <;> omega), rfl⟩
theorem refmaj_any (n : Int) (h : n ≤ 9223372036854775807) (w : World) : Calls Try.prog 10 #[.int .i64 n] w fun e w' => e = .returned (.int .i64 (maj n)) ∧ w = w' := by
  by_cases h1 : n < 1
  · go_enter Try.func10, Try.ntmps10
    go_wp2
    go_ret
    exact ⟨ret_int (by unfold maj; split <;> omega), rfl⟩
  · have ht : n.tdiv 2 = n / 2 := Int.tdiv_eq_ediv_of_nonneg (by omega)
    have hd : IntKind.i64.wrap (n / 2) = n / 2 := IntWalk.i64_in _ (by omega)
    have hw : IntKind.i64.wrap (n / 2 + 1) = n / 2 + 1 := IntWalk.i64_in _ (by omega)
    clear h
    go_enter Try.func10, Try.ntmps10
    go_wp2
    go_ret
    exact ⟨ret_int (by unfold maj; split <;> omega), rfl⟩
def won (yes no n : Int) : Int := if n < 1 then 2 else if maj n ≤ min yes n then 1 else if n - min (max no 0) n < maj n then 2 else 0
theorem won_any (yes no n : Int) (h : n ≤ 9223372036854775807) (w : World) : Calls Try.prog 11 #[.int .i64 yes, .int .i64 no, .int .i64 n] w fun e w' => e = .returned (.int .i64 (won yes no n)) ∧ w = w' := by
  by_cases h1 : n < 1
  · have HW : Hid (won yes no n = 2) := by show _ = _; simp [won, h1]
    go_enter Try.func11, Try.ntmps11
    go_wp2_with (go_at_call 9; refine (maj_any n h _).mono ?_; rintro e w' ⟨rfl, rfl⟩)
    go_ret
    exact ⟨ret_int HW.out.symm, rfl⟩
  · have hw : IntKind.i64.wrap (n - min (max no 0) n) = n - min (max no 0) n := IntWalk.i64_in _ (by omega)
    have HW : Hid (won yes no n = if maj n ≤ min yes n then 1 else if n - min (max no 0) n < maj n then 2 else 0) := by show _ = _; simp [won, h1]
    generalize hm : maj n = m at *
    have HM := Lib.hid hm
    clear hm
    generalize hmn : min yes n = y at *
    have HY := Lib.hid hmn
    go_enter Try.func11, Try.ntmps11
    go_wp2_with (go_at_call 9; refine (maj_any n h _).mono ?_; rintro e w' ⟨rfl, rfl⟩; rw [HM.out])
    all_goals
      go_ret
      exact ⟨ret_int (by rw [HW.out]; (repeat' split) <;> omega), rfl⟩
theorem info3 : (Try.prog.info? 3).map (fun i => (i.zero, i.size, i.bytes)) = some (some (.int .i64 0), 1, 8) := by kernel_rfl
theorem own_block {w : World} {base g n : Nat} {c : Array Value} (h : w.ownsRow base 3 1 (.slice (some ⟨g, 0, none⟩) n n) n c.toList) : w.heap[g]? = some (.cells c 3 (0, 0)) := by
  rcases h.2 with ⟨h1, _⟩ | ⟨g', cap, cur, h1, hb, hg, h2, h3, h4, h5⟩
  · cases h1
  · cases h1
    have e : cur = c := by
      apply Array.ext'
      rw [← h5, List.take_of_length_le]
      simp; omega
    rw [← e]; exact hg
theorem cell_of_holds {w : World} {g : Nat} {S : List Int} (h : Holds (Value.int .i64) w g 0 S.toArray) (j : Nat) (hj : j < S.length) : w.cell? ⟨g, j, none⟩ = some (.int .i64 (S.getD j 0)) := by
  have h1 := (h j (by simpa using hj)).1
  rw [Nat.zero_add] at h1
  rw [h1, getElem!_pos _ j (by simpa using hj)]
  simp [List.getD, List.getElem?_eq_getElem hj]
theorem holds_of_block {w : World} {g : Nat} {S : List Int} (h : w.heap[g]? = some (.cells (S.map (Value.int .i64)).toArray 3 (0, 0))) : Holds (Value.int .i64) w g 0 S.toArray := by
  have := Lib.holds_of_ints (w := w) (b := g) (off := 0) (n := S.length) (zs := S) (Nat.le_refl _) (fun j hj => by rw [Nat.zero_add, cell_of_row w g j _ _ _ h]; simp [hj, List.getD_eq_getElem?_getD]) (fun j hj => by simp [World.frozen?, h])
  rwa [List.take_length] at this
/-- What a majority has. -/
def cmt (l : List Int) : Int := (l.mergeSort fun x y => decide (x ≤ y)).getD (l.length - (l.length / 2 + 1)) 0
theorem commit_any (b off n c : Nat) (zs : List Int) (w : World) (hn : 0 < n) (hz : n ≤ zs.length) (hbig : n * 8 ≤ 140737488355328) (hc : ∀ j, j < zs.length → w.cell? ⟨b, off + j, none⟩ = some (.int .i64 (zs.getD j 0))) (hlt : b < w.heap.size) :
    Calls Try.prog 14 #[.slice (some ⟨b, off, none⟩) n c] w fun e w' => e = .returned (.int .i64 (cmt (zs.take n))) ∧ Below w.heap.size w w' := by
  obtain ⟨i0, hi, hz0, hz1, hz2⟩ := info_parts info3
  have hp0 : ((n : Int) == 0) = false := by simp; omega
  have HC := Lib.hid hc
  have HM : Hid (((n : Int)) = (n : Int)) := rfl
  have HJ : Hid (maj (n : Int) = ((n / 2 + 1 : Nat) : Int)) := by show _ = _; unfold maj; split <;> omega
  have hw : IntKind.i64.wrap ((n : Int) - ((n / 2 + 1 : Nat) : Int)) = ((n - (n / 2 + 1) : Nat) : Int) := by rw [show (n : Int) - ((n / 2 + 1 : Nat) : Int) = ((n - (n / 2 + 1) : Nat) : Int) by omega]; exact IntWalk.i64_in _ (by omega)
  obtain ⟨g, hg⟩ : ∃ g, g = w.heap.size := ⟨_, rfl⟩
  clear hc
  go_enter Try.func14, Try.ntmps14
  go_upto_region 4 with (at_make; refine wpList_make_full _ rfl _ _ 26 rfl w.heap.size 3 i0 (.int .i64 0) 1 Try.underlying26 hi hz0 hz1 .i64 .i64 _ _ n rfl rfl HM.out HM.out (by rw [hz2]; omega) (by simp only [maxLen]; omega) (Nat.le_refl _) ?_; intro w1 hown1 hgr1)
  have B1 : Below w.heap.size w w1 := (Below.refl _ w).grown hgr1 (Nat.le_refl _) (fun k h => by cases h)
  have hlen : (madeCells (Value.int IntKind.i64 0).cells (n * 1)).toList.length = n := by have := hown1.1; omega
  have hblk := own_block hown1
  have hcsl : ((zs.take n).map (Value.int .i64)).length = n := by simp; omega
  have hcp := run_copy_row (P := Try.prog) w1 26 26 3 3 w.heap.size 0 n n ⟨b, off, none⟩ n c _ 3 ((zs.take n).map (Value.int .i64)) Try.underlying26 (by rw [hi]; simp [hz1]) hblk (by rw [hcsl]; simp) (fun j v hj => by
    have hjn : j < n := by have := (List.getElem?_eq_some_iff.1 hj).1; omega
    have hadd : (⟨b, off, none⟩ : Addr).add j = ⟨b, off + j, none⟩ := by unfold Addr.add; split <;> simp_all
    rw [hadd, B1.cell (p := ⟨b, off + j, none⟩) hlt, HC.out j (by omega)]
    simp [List.getElem?_eq_getElem (show j < zs.length by omega), List.getElem?_take_of_lt hjn] at hj
    rw [← hj]; simp [List.getD_eq_getElem?_getD, List.getElem?_eq_getElem (show j < zs.length by omega)]) (by rw [hcsl]; have := hlen; simp at this ⊢; omega) (fun v hv => by obtain ⟨x, _, rfl⟩ := List.mem_map.1 hv; rfl)
  rw [hcsl] at hcp
  have hrow : (List.take 0 (madeCells (Value.int IntKind.i64 0).cells (n * 1)).toList ++ (zs.take n).map (Value.int .i64) ++ List.drop (0 + n) (madeCells (Value.int IntKind.i64 0).cells (n * 1)).toList).toArray = ((zs.take n).map (Value.int .i64)).toArray := by
    rw [List.take_zero, List.nil_append, List.drop_of_length_le (by omega), List.append_nil]
  rw [hrow] at hcp
  have hblk2 := setRow_heap w1 w.heap.size _ ((zs.take n).map (Value.int .i64)).toArray 3 (0, 0) hblk
  have B2 : Below w.heap.size w (w1.setRow w.heap.size ((zs.take n).map (Value.int .i64)).toArray) := B1.trans ⟨rfl, rfl, rfl, by simp, fun k hk => setRow_other w1 w.heap.size k _ (by omega)⟩
  have hlt2 : w.heap.size < (w1.setRow w.heap.size ((zs.take n).map (Value.int .i64)).toArray).heap.size := (Array.getElem?_eq_some_iff.1 hblk2).1
  clear hrow hblk hlen hown1 hgr1 B1 hcsl
  obtain ⟨cs, hcs⟩ : ∃ cs, cs = ((zs.take n).map (Value.int .i64)).toArray := ⟨_, rfl⟩
  rw [← hcs] at hcp hblk2 B2 hlt2
  have HCS := Lib.hid hcs
  have B2 := Lib.hid B2
  have hlt2 := Lib.hid hlt2
  have hblk2 := Lib.hid hblk2
  clear hcs
  go_upto_region 5 with fail
  clear hcp
  revert hblk2 B2 hlt2
  generalize w1.setRow w.heap.size cs = w2
  intro B2 hlt2 hblk2
  have hblk2 := hblk2.out
  have B2 := B2.out
  have hlt2 := hlt2.out
  rw [HCS.out] at hblk2
  have hl : (zs.take n).length = n := by simp; omega
  have hsort := sort_any w.heap.size 0 n (zs.take n) w2 (holds_of_block hblk2) hlt2 (by omega)
  rw [hl] at hsort
  have HS := Lib.hid hsort
  have X : Hid (Below w.heap.size w w2 ∧ w.heap.size < w2.heap.size ∧ Holds (Value.int .i64) w2 w.heap.size 0 (zs.take n).toArray) := ⟨B2, hlt2, holds_of_block hblk2⟩
  clear hblk2 B2 hlt2 hsort
  go_wp2_with fail
  refine HS.out.mono ?_
  rintro e w3 ⟨rfl, nn, os, hw3⟩
  have hH3 : Holds (Value.int .i64) w3 w.heap.size 0 ((zs.take n).mergeSort fun x y => decide (x ≤ y)).toArray := by
    subst hw3
    exact holds_grow _ _ os w.heap.size 0 _ (by simpa [putRow, mapBlock, Sort.ahead] using X.out.2.1) (holds_putRow _ _ w.heap.size 0 _ _ (holds_ahead _ w2 nn w.heap.size 0 _ X.out.2.2) (by simp))
  have B3 : Below w.heap.size w w3 := by
    subst hw3
    exact X.out.1.grown (grownBy_sortedI _) X.out.1.size (fun j hj => by cases hj; exact Nat.le_refl _)
  have HCM : Hid (cmt (zs.take n) = ((zs.take n).mergeSort fun x y => decide (x ≤ y)).getD (n - (n / 2 + 1)) 0) := by show _ = _; unfold cmt; rw [hl]
  have hSl : ((zs.take n).mergeSort fun x y => decide (x ≤ y)).length = n := by rw [List.length_mergeSort]; exact hl
  have hcell := cell_of_holds hH3 (n - (n / 2 + 1)) (by omega)
  rw [← HCM.out] at hcell
  have B3 := Lib.hid B3
  clear hw3 hH3 hSl HS X hl
  go_wp2_with (go_at_call 9; refine (maj_any _ (by omega) _).mono ?_; rintro e w' ⟨rfl, rfl⟩; rw [HJ.out])
  go_ret
  exact ⟨rfl, B3.out⟩
end Go.Proofs.Ytlcdidmhokbkfaa
