/- Slice, Apply, Compact. -/
import Derived.Test.YtbgfpmnicpmieaaESlice
namespace Go.Proofs.Ytbgfpmnicpmieaa
open Go Go.RowKit Go.Shelf Go.Sort
set_option linter.unusedVariables false
set_option linter.unusedSimpArgs false
set_option maxRecDepth 100000
set_option maxHeartbeats 1000000
def slcE (l : Lg) (es : List Ent) (from' most : Int) : List Ent := if from' ≤ l.ix then [] else if most < 1 then [] else (es.drop (from' - l.ix - 1).toNat).take most.toNat
/-- A list of entries that a call made. -/
def Fresh (w : World) (es : List Ent) (e : Ending) (w' : World) : Prop := ∃ a n c, e = .returned (.slice a n c) ∧ w'.ownsRow w.heap.size 37 13 (.slice a n c) n (flatE es) ∧ Below w.heap.size w w'
theorem clone_from (w0 : World) (a : Option Addr) (n c : Nat) (es : List Ent) (W : World) (h : ER w0 a n es) (hn : n * 168 ≤ 140737488355328) (hW : Below w0.heap.size w0 W) :
    Calls Try.prog 37 #[.slice a n c] W fun e w' => ∃ a' c', e = .returned (.slice a' n c') ∧ w'.ownsRow w0.heap.size 37 13 (.slice a' n c') n (flatE es) ∧ Below w0.heap.size w0 w' :=
  (clone_own a n c es W (h.keep (Nat.le_refl _) hW) hn).mono fun e w' ⟨a', c', h1, h2, h3⟩ => ⟨a', c', h1, own_mono h2 hW.size, hW.trans (h3.mono hW.size)⟩
theorem slice_any (m b : Nat) (l : Lg) (es : List Ent) (from' most : Int) (w : World) (hg : LG w m b l es) (ho : Ok l (pts es)) (hm1 : -9223372036854775808 ≤ most) (hm2 : most ≤ 9223372036854775807) :
    Calls Try.prog 24 #[.pointer (some ⟨b, 0, none⟩), .int .i64 from', .int .i64 most] w (Fresh w (slcE l es from' most)) := by
  have HM := Lib.hid (made_any b l w hg.lb)
  have HI := Lib.hid ho.is
  have HG := Lib.hid hg
  have HO := Lib.hid ho
  have hsm := ho.small
  have hlo := ho.lo
  have hhi := ho.hi
  have HF : Hid (slcE l es from' most = if from' ≤ l.ix then [] else if most < 1 then [] else (es.drop (from' - l.ix - 1).toNat).take most.toNat) := rfl
  have h0 := hg.lb.c0
  clear hg ho
  go_enter Try.func24, Try.ntmps24
  go_wp2_with fail
  refine HM.out.mono ?_
  rintro e w' ⟨rfl, rfl⟩
  rw [HI.out]
  by_cases c1 : from' ≤ l.ix
  · have d1 : decide (from' ≤ l.ix) = true := decide_eq_true c1
    have HE : Hid (slcE l es from' most = []) := by show _ = _; rw [HF.out, if_pos c1]
    clear c1
    go_wp2_with fail
    go_ret
    exact ⟨none, 0, 0, rfl, by rw [HE.out]; exact World.ownsRow_nil _ _ _ _, Below.refl _ _⟩
  have d1 : decide (from' ≤ l.ix) = false := decide_eq_false c1
  by_cases c2 : most < 1
  · have d2 : decide (most < 1) = true := decide_eq_true c2
    have HE : Hid (slcE l es from' most = []) := by show _ = _; rw [HF.out, if_neg c1, if_pos c2]
    clear c1 c2
    go_wp2_with fail
    go_ret
    exact ⟨none, 0, 0, rfl, by rw [HE.out]; exact World.ownsRow_nil _ _ _ _, Below.refl _ _⟩
  have d2 : decide (most < 1) = false := decide_eq_false c2
  have hE : slcE l es from' most = (es.drop (from' - l.ix - 1).toNat).take most.toNat := by rw [HF.out, if_neg c1, if_neg c2]
  obtain ⟨k, hk⟩ : ∃ k, k = min (from' - l.ix - 1).toNat l.n := ⟨_, rfl⟩
  have hkn : k ≤ l.n := by omega
  obtain ⟨j, hj⟩ : ∃ j, j = (min most ((l.n : Int) - k)).toNat := ⟨_, rfl⟩
  have hjn : k + j ≤ l.n := by omega
  have hmin : min most ((l.n : Int) - (k : Int)) = (j : Int) := by omega
  have hE2 : slcE l es from' most = (es.drop k).take j := by
    rw [hE]
    have hel := HG.out.len
    by_cases hc : (from' - l.ix - 1).toNat ≤ l.n
    · have e1 : (from' - l.ix - 1).toNat = k := by omega
      rw [e1]
      have hd : (es.drop k).length = l.n - k := by rw [List.length_drop, hel]
      by_cases hc2 : most ≤ (l.n : Int) - k
      · rw [show most.toNat = j by omega]
      · rw [List.take_of_length_le (by rw [hd]; omega), List.take_of_length_le (by rw [hd]; omega)]
    · rw [List.drop_eq_nil_of_le (by rw [hel]; omega), List.drop_eq_nil_of_le (by rw [hel]; omega)]
      simp
  have HE2 := Lib.hid hE2
  have HAT : Hid (atN (pts es) from' = k) := by show _ = _; rw [HO.out.at]; omega
  have hjw : IntKind.i64.wrap ((k : Int) + (j : Int)) = (k : Int) + (j : Int) := IntWalk.i64_in _ (by omega)
  have hkw : IntKind.i64.wrap ((l.n : Int) - (k : Int)) = (l.n : Int) - (k : Int) := IntWalk.i64_in _ (by omega)
  clear hE hE2 c1 c2 hk hj HF
  go_wp2_with fail
  refine (at_any b l (pts es) from' _ HG.out.lb HG.out.ep HO.out.small HO.out.up).mono ?_
  rintro e w1 ⟨rfl, hbw⟩
  rw [HAT.out]
  have L1 := Lib.hid hbw
  have G1 := Lib.hid (HG.out.below (Nat.le_refl _) hbw)
  have h2 := G1.out.lb.c2
  obtain ⟨a2, c2, hsl, her⟩ := slice_mid G1.out hjn
  have HER := Lib.hid her
  clear hbw HAT her HG h0
  go_upto_region 4 with fail
  have KS : Hid (∀ W, Below w1.heap.size w1 W → W.cell? ⟨b, 2, none⟩ = some (.slice l.a l.n l.c) ∧ Below w1.heap.size w1 W) := by
    show ∀ W, _
    intro W h
    exact ⟨(h.cell (cell_block_lt h2)).trans h2, h⟩
  clear h2 hm1 hm2
  go_region_held3 (fun W => W.cell? ⟨b, 2, none⟩ = some (.slice l.a l.n l.c) ∧ Below w1.heap.size w1 W)
    (first | exact KS.out _ (Below.refl _ _) | exact KS.out _ (by assumption) | exact KS.out _ (held_1 (by assumption)) | exact KS.out _ (Below.refl _ _).drew)
    (first
      | (go_at_call 37; (with_reducible refine (clone_from w1 a2 j c2 _ _ HER.out (by omega) (held_1 (by assumption))).mono ?_); rintro e w6 ⟨a6, c6, rfl, ho6, hb6⟩))
  all_goals (
    have HH := Lib.hid (own_mono ho6 L1.out.size)
    have HB := Lib.hid (L1.out.trans (hb6.mono L1.out.size))
    clear ho6 hb6 hsl
    rename_i hHeld
    clear hHeld
    go_wp2_with fail
    go_ret
    exact ⟨a6, j, c6, rfl, by rw [HE2.out]; exact HH.out, HB.out⟩)
end Go.Proofs.Ytbgfpmnicpmieaa
