/- made and New, over maps of integers. -/
import Derived.Test.YtcooapflofiolaaDoorMIFull
import Derived.Test.YtcooapflofiolaaDoorMRep
namespace Go.Proofs.YtcooapflofiolaaDoor.MI
open Go Go.RowKit Go.Shelf
set_option linter.unusedVariables false
set_option linter.unusedSimpArgs false
set_option maxRecDepth 100000
set_option maxHeartbeats 4000000
def zeroS : Array Value := #[.string ByteArray.empty, val default]
theorem made_zero (g j : Nat) (hj : j < 8 * g) : (madeCells zeroS (8 * g * 2))[j * 2]? = some (.string ByteArray.empty) ∧ (madeCells zeroS (8 * g * 2))[j * 2 + 1]? = some (val default) := by
  unfold madeCells
  constructor
  · rw [Array.getElem?_map, Array.getElem?_eq_getElem (by simp; omega), Array.getElem_range]
    have : j * 2 % zeroS.size = 0 := by show j * 2 % 2 = 0; omega
    simp only [Option.map_some, this]; rfl
  · rw [Array.getElem?_map, Array.getElem?_eq_getElem (by simp; omega), Array.getElem_range]
    have : (j * 2 + 1) % zeroS.size = 1 := by show (j * 2 + 1) % 2 = 1; omega
    simp only [Option.map_some, this]; rfl
theorem at_empty {w : World} {b bw bs : Nat} {k0 k1 : BitVec 64} {g : Nat} (hb : w.heap[b]? = some (.cells #[.int .u64 (Sip.U k0), .int .u64 (Sip.U k1), .slice (some ⟨bw, 0, none⟩) g g, .slice (some ⟨bs, 0, none⟩) (8 * g) (8 * g), .int .i64 0, .int .i64 0] 94 (0, 0)))
    (hw : w.heap[bw]? = some (.cells (List.replicate g (Value.int .u64 9259542123273814144)).toArray 22 (0, 0))) (hs : w.heap[bs]? = some (.cells (madeCells zeroS (8 * g * 2)) 135 (0, 0))) (n1 : b ≠ bw) (n2 : b ≠ bs) (n3 : bw ≠ bs) :
    At w ⟨b, bw, bs, g, 8 * g⟩ k0 k1 (empty g) := by
  have hl : (empty g : Mp VT).ws.length = g := List.length_replicate
  refine ⟨by rw [hl]; exact hb, ⟨_, hw, fun j hj => ?_⟩, ⟨_, hs, fun i hi => ?_⟩, by rw [hl]; exact Nat.le_refl _, by rw [hl]; exact Nat.le_refl _, n1, n2, n3⟩
  · rw [hl] at hj
    rw [empty_w]
    simp [hj, noneW]
  · rw [hl] at hi
    have e : (empty g : Mp VT).s i = default := by
      unfold Mp.s empty
      rw [List.getD_eq_getElem?_getD]
      simp only [List.getElem?_replicate]
      split <;> rfl
    rw [e]
    exact made_zero g i hi
theorem own_ge {b bw bs cw cs j lo : Nat} (h1 : lo ≤ b) (h2 : lo ≤ bw) (h3 : lo ≤ bs) (h : Pl.own ⟨b, bw, bs, cw, cs⟩ j) : lo ≤ j := by
  rcases h with h | h | h <;> (subst h; assumption)
theorem made_new (k0 k1 : BitVec 64) (g : Nat) (h1 : 1 ≤ g) (hg : g ≤ 1024) (w : World) :
    Calls Tryd.prog 97 #[.agg #[.int .u64 (Sip.U k0), .int .u64 (Sip.U k1)], .int .i64 (g : Int)] w fun e w' => ∃ p : Pl, e = .returned (.pointer (some ⟨p.b, 0, none⟩)) ∧ At w' p k0 k1 (empty g) ∧ (∀ j, p.own j → w.heap.size ≤ j) ∧ Below w.heap.size w w' := by
  obtain ⟨w1, hw1⟩ : ∃ w1, w1 = w.alloc (.cells #[.int .u64 (Sip.U k0), .int .u64 (Sip.U k1)] 24) := ⟨_, rfl⟩
  have L0 : Hid (Below w.heap.size w w1) := by rw [hw1]; exact (Below.refl _ w).alloc (Nat.le_refl _) _
  have SK : Hid (∀ W, Below w1.heap.size w1 W → W.cell? ⟨w.heap.size, 0, none⟩ = some (.int .u64 (Sip.U k0)) ∧ W.cell? ⟨w.heap.size, 1, none⟩ = some (.int .u64 (Sip.U k1))) := by
    show ∀ W, _
    intro W hW
    exact ⟨low_cell hW (Nat.le_refl _) (by rw [hw1]; simp), low_cell hW (Nat.le_refl _) (by rw [hw1]; simp)⟩
  obtain ⟨i0, hi, hz0, hz1, hz2⟩ := info_parts infoS
  have hmk : ∀ W : World, (Instr.makeSlice 92 (.int .i64 (8 * (g : Int))) (.int .i64 (8 * (g : Int)))).run Tryd.prog W = .ok (.slice (some ⟨W.heap.size, 0, none⟩) (8 * g) (8 * g)) (W.alloc (.cells (madeCells zeroS (8 * g * 2)) 135)) := fun W => by
    have := run_make (P := Tryd.prog) W 92 135 i0 _ Tryd.underlying92 hi hz0 .i64 .i64 (8 * g) (8 * g) (by omega) (Int.le_refl _) (by rw [hz2]; omega) (by omega)
    rw [show (8 * (g : Int)).toNat = 8 * g by omega, hz1] at this
    exact this
  have HW1 := Lib.hid hw1
  have hwr : IntKind.i64.wrap (8 * (g : Int)) = 8 * (g : Int) := IntWalk.i64_in _ (by omega)
  clear hi hz0 hz1 hz2 hw1
  obtain ⟨C, hC⟩ : ∃ C, C = madeCells zeroS (8 * g * 2) := ⟨_, rfl⟩
  rw [← hC] at hmk
  have HC := Lib.hid hC
  clear hC
  go_enter Tryd.func97, Tryd.ntmps97
  go_upto_region 1 with fail
  rw [← HW1.out]
  go_region_held3 (fun W => W.cell? ⟨w.heap.size, 0, none⟩ = some (.int .u64 (Sip.U k0)) ∧ W.cell? ⟨w.heap.size, 1, none⟩ = some (.int .u64 (Sip.U k1)))
    ((refine SK.out _ ?_; repeat (first | exact Below.refl _ _ | exact HB3.out | refine Below.drew ?_ | refine Below.alloc ?_ (by first | (have := HB3.out.size; simp; omega) | (simp; omega) | simp) _)))
    ((go_at_call 96; refine (repeat_any _ 9259542123273814144 _ g h1 hg _ (by simp)).mono ?_; rintro e w3 ⟨bw, rfl, hw3, hlo, hb3⟩; have HB3 : Hid (Below w1.heap.size w1 w3) := (by refine Below.trans ?_ (hb3.mono (by simp; try omega)); repeat (first | exact Below.refl _ _ | refine Below.drew ?_ | refine Below.alloc ?_ (by first | (simp; omega) | simp) _))))
  all_goals (
    have hz3 := HB3.out.size
    have hz0 := L0.out.size
    have hbw : bw < w3.heap.size := (Array.getElem?_eq_some_iff.1 hw3).1
    have HW3 := Lib.hid hw3
    have HLO := Lib.hid hlo
    have H3 := Lib.hid hb3
    clear hw3 hlo hb3 hmk
    go_wp2_with fail)
  · refine bodyPost_ret (v := .pointer (some ⟨w3.heap.size + 1, 0, none⟩)) ?_ rfl ⟨⟨w3.heap.size + 1, bw, w3.heap.size, g, 8 * g⟩, rfl, ?_, ?_, ?_⟩
    · simp [results, Tryd.results97, go_sem]
    · refine at_empty ?_ ?_ ?_ (by omega) (by omega) (by omega)
      · have := heap_alloc_new (w3.alloc (.cells C 135)) (.cells #[.int .u64 (Sip.U k0), .int .u64 (Sip.U k1), .slice (some ⟨bw, 0, none⟩) g g, .slice (some ⟨w3.heap.size, 0, none⟩) (8 * g) (8 * g), .int .i64 0, .int .i64 0] 94)
        rwa [World.size_alloc] at this
      · rw [Below.heap_alloc _ _ _ (by simp; omega), Below.heap_alloc _ _ _ hbw]; exact HW3.out
      · rw [Below.heap_alloc _ _ _ (by simp), ← HC.out]; exact heap_alloc_new w3 _
    · have h2 := HLO.out
      simp at h2
      intro j hj
      exact own_ge (by omega) (by omega) (by omega) hj
    · exact L0.out.trans (((HB3.out.alloc hz3 _).alloc (by simp; omega) _).mono hz0)
  · refine bodyPost_ret (v := .pointer (some ⟨w3.heap.size, 0, none⟩)) ?_ rfl ⟨⟨w3.heap.size, bw, w1.heap.size + 1, g, 8 * g⟩, rfl, ?_, ?_, ?_⟩
    · simp [results, Tryd.results97, go_sem]
    all_goals (have h2 := HLO.out; simp at h2)
    · have h4 := H3.out.size
      simp at h4
      refine at_empty (heap_alloc_new w3 _) ?_ ?_ (by omega) (by omega) (by omega)
      · rw [Below.heap_alloc _ _ _ hbw]; exact HW3.out
      · rw [Below.heap_alloc _ _ _ (by omega), ← HC.out]
        refine (H3.out.block _ (by simp)).trans ?_
        have := heap_alloc_new (w1.alloc (.cells #[.int .u64 9259542123273814144] 22)) (.cells C 135)
        rwa [World.size_alloc] at this
    · intro j hj
      exact own_ge (by omega) (by omega) (by omega) hj
    · exact L0.out.trans ((HB3.out.alloc hz3 _).mono hz0)
  · refine bodyPost_ret (v := .pointer (some ⟨w3.heap.size, 0, none⟩)) ?_ rfl ⟨⟨w3.heap.size, bw, w1.heap.size, g, 8 * g⟩, rfl, ?_, ?_, ?_⟩
    · simp [results, Tryd.results97, go_sem]
    all_goals (have h2 := HLO.out; simp at h2)
    · have h4 := H3.out.size
      simp at h4
      refine at_empty (heap_alloc_new w3 _) ?_ ?_ (by omega) (by omega) (by omega)
      · rw [Below.heap_alloc _ _ _ hbw]; exact HW3.out
      · rw [Below.heap_alloc _ _ _ (by omega), ← HC.out]
        refine (H3.out.block _ (by simp; omega)).trans ?_
        exact (Below.heap_alloc (w1.alloc (.cells C 135)) _ w1.heap.size (by simp)).trans (heap_alloc_new w1 _)
    · intro j hj
      exact own_ge (by omega) (by omega) (by omega) hj
    · exact L0.out.trans ((HB3.out.alloc hz3 _).mono hz0)
theorem new_any (k0 k1 : BitVec 64) (h : Int) (w : World) :
    Calls Tryd.prog 64 #[.agg #[.int .u64 (Sip.U k0), .int .u64 (Sip.U k1)], .int .i64 h] w fun e w' => Below w.heap.size w w' ∧ ((needF h = 0 ∧ e = .returned (.pointer none)) ∨ (goodB (needF h) = true ∧ ∃ (p : Pl) (g : Nat), needF h = (g : Int) ∧ e = .returned (.pointer (some ⟨p.b, 0, none⟩)) ∧ At w' p k0 k1 (empty g) ∧ ∀ j, p.own j → w.heap.size ≤ j)) := by
  have HN := Lib.hid (need_any h w)
  have L0 : Hid (Below w.heap.size w (w.alloc (.cells #[.int .u64 (Sip.U k0), .int .u64 (Sip.U k1)] 24))) := (Below.refl _ w).alloc (Nat.le_refl _) _
  have HN2 := Lib.hid (need_any h (w.alloc (.cells #[.int .u64 (Sip.U k0), .int .u64 (Sip.U k1)] 24)))
  have hb := needF_bounds h
  by_cases h0 : needF h = 0
  · have H0 := Lib.hid h0
    rw [h0] at HN2
    clear h0 hb
    go_enter Tryd.func64, Tryd.ntmps64
    go_wp2_with fail
    refine HN2.out.mono ?_
    rintro e w' ⟨rfl, rfl⟩
    go_wp2
    go_ret
    exact ⟨L0.out, .inl ⟨H0.out, rfl⟩⟩
  · have hgd : goodB (needF h) = true := by
      rcases needF_cases h with ⟨h1, _⟩ | ⟨k, h1, _⟩
      · exact absurd h1 h0
      · rw [h1]; exact goodB_pow k
    have HGD := Lib.hid hgd
    obtain ⟨g, hg⟩ := Int.eq_ofNat_of_zero_le hb.1
    have HG : Hid (needF h = (g : Int)) := hg
    rw [HG.out] at HN2
    have h1 : 1 ≤ g := by omega
    have h2 : g ≤ 1024 := by omega
    have hd : ((g : Int) == 0) = false := by simp; omega
    clear h0 hb hgd hg
    go_enter Tryd.func64, Tryd.ntmps64
    go_wp2_with fail
    refine HN2.out.mono ?_
    rintro e w' ⟨rfl, rfl⟩
    go_wp2_with fail
    refine (made_new k0 k1 g h1 h2 _).mono ?_
    rintro e w' ⟨p, rfl, hA, hp, hb⟩
    have HA := Lib.hid hA
    have HP := Lib.hid hp
    have HB := Lib.hid hb
    clear hA hp hb
    go_wp2
    go_ret
    exact ⟨L0.out.trans (HB.out.mono L0.out.size), .inr ⟨HGD.out, p, g, HG.out, rfl, HA.out, fun j hj => Nat.le_trans L0.out.size (HP.out j hj)⟩⟩
end Go.Proofs.YtcooapflofiolaaDoor.MI
