/- Split, the reference's, and the document's example. -/
import Derived.Test.YtjjibjamalieiaaSum2
import Derived.Laws.BytesString
import Derived.Laws.IdiomStrings
import Derived.Laws.AppendOwn
import Derived.WalkSpells
import Derived.RangeFuncBox
namespace Go.Proofs.Ytjjibjamalieiaa
open Go Go.RowKit
set_option linter.unusedVariables false
set_option linter.unusedSimpArgs false
set_option maxRecDepth 100000
set_option maxHeartbeats 2000000

theorem and127 (h : BitVec 64) : bits .and .u64 (U h) 127 = U h % 128 := by
  have e := U_and h 127
  have e2 : U (h &&& 127) = U h % 128 := by
    unfold U
    rw [BitVec.toNat_and, show (127 : BitVec 64).toNat = 2 ^ 7 - 1 from rfl, Nat.and_two_pow_sub_one_eq_mod]; omega
  rw [e2] at e; exact e
theorem parts_back (h : BitVec 64) : bits .or .u64 (IntKind.u64.wrap (U h / 128 * 128)) (U h % 128) = U h := by
  have hl := h.isLt
  unfold U
  generalize h.toNat = n at *
  rw [show ((n : Int) / 128 * 128) = ((n / 128 * 128 : Nat) : Int) by omega, show ((n : Int) % 128) = ((n % 128 : Nat) : Int) by omega, IntWalk.u64_in _ (by omega), bits_or_u64_nat _ _ (by omega) (by omega)]
  have e := Nat.shiftLeft_add_eq_or_of_lt (show n % 128 < 2 ^ 7 by omega) (n / 128)
  rw [Nat.shiftLeft_eq] at e
  rw [show n / 128 * 128 = n / 128 * 2 ^ 7 by omega, ← e]
  omega
theorem split_any (h : BitVec 64) (w : World) : Calls Try.prog 14 #[.int .u64 (U h)] w fun e w' => e = .returned (.tuple #[.int .u64 (U h / 128), .int .u8 (U h % 128)]) ∧ w = w' := by
  obtain ⟨h0, h1⟩ := U_range h
  have ha := and127 h
  have hw : IntKind.u8.wrap (U h % 128) = U h % 128 := IntWalk.u8_in _ (by omega)
  go_enter Try.func14, Try.ntmps14
  clear h1
  go_wp2
  go_ret2
  exact ⟨rfl, rfl⟩
theorem refsplit_any (h : BitVec 64) (w : World) : Calls Try.prog 15 #[.int .u64 (U h)] w fun e w' => e = .returned (.tuple #[.int .u64 (U h / 128), .int .u8 (U h % 128)]) ∧ w = w' := by
  obtain ⟨h0, h1⟩ := U_range h
  have hm : 0 ≤ U h % 128 ∧ U h % 128 ≤ 127 := by omega
  have hw : IntKind.u8.wrap (U h % 128) = U h % 128 := IntWalk.u8_in _ (by omega)
  have hd : IntKind.u64.wrap ((U h).tdiv 128) = U h / 128 := by rw [Int.tdiv_eq_ediv_of_nonneg h0]; exact IntWalk.u64_in _ (by omega)
  have hw2 : IntKind.u64.wrap (U h % 128) = U h % 128 := IntWalk.u64_in _ (by omega)
  go_enter Try.func15, Try.ntmps15
  clear h1
  go_wp2
  go_ret2
  exact ⟨rfl, rfl⟩
theorem own_blk {w : World} {base : Nat} {e : TypeId} {size n : Nat} {v : Value} {xs : List Value} (h : w.ownsRow base e size v n xs) {j : Nat} (ej : v.ownBlock = some j) : base ≤ j := by
  rcases h.2 with ⟨rfl, _⟩ | ⟨g, cap, cur, rfl, hb, _, _⟩
  · simp [Value.ownBlock] at ej
  · obtain rfl : g = j := by simpa [Value.ownBlock] using ej
    exact hb
theorem Try.info5 : (Try.prog.info? 5).map (fun i => (i.zero, i.size, i.bytes)) = some (some (.int .u8 0), 1, 1) := by kernel_rfl
/-- The first k bytes. -/
def firstB (k : Nat) : List UInt8 := (List.range k).map UInt8.ofNat
theorem firstB_succ (k : Nat) : firstB (k + 1) = firstB k ++ [UInt8.ofNat k] := by simp [firstB, List.range_succ]
def cellsB (l : List UInt8) : List Value := l.map fun b => .int .u8 (b.toNat : Int)
theorem example_sum : U (sumOf (506097522914230528 : BitVec 64) (1084818905618843912 : BitVec 64) (firstB 15)) = 11613035633349379557 := by decide +kernel
theorem own_cells {w : World} {base n : Nat} {v : Value} {l : List UInt8} (h : w.ownsRow base 5 1 v n (cellsB l)) (hn : 0 < n) : ∃ g cap, v = .slice (some ⟨g, 0, none⟩) l.length cap ∧ ∀ j (hj : j < l.length), w.cell? (Addr.add ⟨g, 0, none⟩ j) = some (.int .u8 (l[j].toNat : Int)) := by
  have hl : l.length = n := by have := h.1; simpa [cellsB] using this
  rcases h.2 with ⟨_, rfl⟩ | ⟨g, cap, cur, rfl, hb, hg, h2, h3, h4, h5⟩
  · omega
  · refine ⟨g, cap, by rw [hl], fun j hj => ?_⟩
    have hadd : (⟨g, 0, none⟩ : Addr).add j = ⟨g, j, none⟩ := by unfold Addr.add; split <;> simp_all
    rw [hadd, cell_of_row w g j cur 5 _ hg]
    have e := congrArg (fun x : List Value => x[j]?) h5
    simp only [cellsB] at e
    rw [List.getElem?_take_of_lt (by omega)] at e
    rw [List.getElem?_map, List.getElem?_eq_getElem hj] at e
    simpa using e
theorem lives_any (w : World) : Calls Try.prog 11 #[] w fun e w' => e = .returned (.bool true) ∧ Below w.heap.size w w' := by
  obtain ⟨i0, hi, hz0, hz1, hz2⟩ := info_parts Try.info5
  obtain ⟨s, hs⟩ : ∃ s, s = w.heap.size := ⟨_, rfl⟩
  have HS := Lib.hid hs
  clear hs
  go_enter Try.func11, Try.ntmps11
  go_wp2_with fail
  go_loopw [1, 2] (fun v t wr => ∃ k : Nat, k ≤ 15 ∧ t = .int .u8 k ∧ wr.ownsRow s 5 1 v k (cellsB (firstB k)) ∧ Below s w wr) (fun _ t _ => 15 - (intOf t).toNat)
  case atStart => exact ⟨0, Nat.zero_le _, rfl, World.ownsRow_nil _ _ _ _, Below.refl _ _⟩
  case round =>
    obtain ⟨k, hk, rfl, hrow, hB⟩ := hrel
    by_cases hlt : k < 15
    · have hlt' : decide ((k : Int) < 15) = true := decide_eq_true (by omega)
      have hw8 : IntKind.u8.wrap ((k : Int) + 1) = ((k + 1 : Nat) : Int) := by rw [IntWalk.u8_in _ (by omega)]; omega
      go_wp2_with (at_builtin; refine wpList_append_own _ rfl _ _ 52 rfl s 5 i0 (.int .u8 0) 1 1 Try.underlying52 hi hz0 hz1 hz2 rfl (by decide) _ _ _ rfl (hrow.alloc _) ⟨wr.heap.size, 0, none⟩ 1 1 [.int .u8 (k : Int)] rfl rfl (cell_one_new _ _ _) (by simp [Value.oneCell']) (by simp only [maxLen]; omega) (by omega) (by have := hB.size; rw [HS.out]; simp; omega) ?_; intro v' w1 hown' hgrow _)
      refine ⟨⟨k + 1, hlt, rfl, ?_, ?_⟩, by simp [intOf]; omega⟩
      · have e : cellsB (firstB (k + 1)) = cellsB (firstB k) ++ [.int .u8 (k : Int)] := by
          rw [firstB_succ]; simp [cellsB]; omega
        rw [e]; exact hown'
      · have hz := hB.size
        have e := HS.out
        exact (hB.alloc (by omega) _).grown hgrow (by simp; omega) (fun j ej => own_blk hrow ej)
    · have hlt' : decide ((k : Int) < 15) = false := decide_eq_false (by omega)
      obtain rfl : k = 15 := by omega
      obtain ⟨g, cap, rfl, hc⟩ := own_cells hrow (by omega)
      have hcv := fun wx (hx : wx = wr) => run_convert_bytes_back (P := Try.prog) wr 52 9 5 ⟨g, 0, none⟩ cap (firstB 15) Try.underlying52 Try.underlying5 Try.underlying9 hc
      clear hc
      have e1 : U 255#64 / 128 = 1 := by decide
      have e2 : U 255#64 % 128 = 127 := by decide
      have HE : Hid (U (sumOf (506097522914230528 : BitVec 64) (1084818905618843912 : BitVec 64) (ByteArray.mk (firstB 15).toArray).data.toList) = 11613035633349379557) := by
        rw [show (ByteArray.mk (firstB 15).toArray).data.toList = firstB 15 from rfl]; exact example_sum
      have hz : (ByteArray.mk (firstB 15).toArray).size ≤ maxLen := by decide
      have HZ := Lib.hid hz
      clear hz
      have HB := Lib.hid hB
      clear hB
      go_wp2_with (go_at_call 14; refine (split_any 255 _).mono ?_; rintro e w' ⟨rfl, rfl⟩)
      refine (sum_any 506097522914230528 1084818905618843912 _ HZ.out wr).mono ?_
      rintro e w2 ⟨rfl, hB2⟩
      rw [HE.out]
      have HB2 := Lib.hid hB2
      clear hB2
      go_wp2
      go_ret
      refine ⟨rfl, ?_⟩
      have e3 := HB.out.size
      have e4 := HS.out
      rw [← HS.out]
      exact HB.out.trans (HB2.out.mono (by omega))
end Go.Proofs.Ytjjibjamalieiaa
