/- The first members: the code's and the document's. -/
import Derived.Test.YtedifbdjcebefaaRefs
namespace Go.Proofs.Ytedifbdjcebefaa
open Go Go.RowKit
set_option linter.unusedVariables false
set_option linter.unusedSimpArgs false
set_option maxRecDepth 100000
set_option maxHeartbeats 1000000
def upTo (k : Nat) : List Int := (List.range k).map fun i => ((i + 1 : Nat) : Int)
theorem upTo_succ (k : Nat) : upTo (k + 1) = upTo k ++ [((k + 1 : Nat) : Int)] := by simp [upTo, List.range_succ]
def wantN (n : Int) : Nat := if n < 1 then 1 else if n > 9 then 9 else n.toNat
theorem Below.of_le {w w' : World} {m : Nat} (h : Below m w w') (e : m = w.heap.size) : Below w.heap.size w w' := by rw [← e]; exact h
theorem CB.under {w w' : World} {b : Nat} {v u : Value} {B : Nat} (h : CB w b v u) (hb : b < B) (hw : Below B w w') : CB w' b v u := (hw.block b hb).trans h
theorem own_sl {w : World} {base : Nat} {e : TypeId} {size n : Nat} {v : Value} {xs : List Value} (h : w.ownsRow base e size v n xs) : ∃ a c, v = .slice a n c := by
  rcases h.2 with ⟨rfl, rfl⟩ | ⟨g, cap, cur, rfl, _⟩
  · exact ⟨none, 0, rfl⟩
  · exact ⟨_, _, rfl⟩
abbrev nilS : Value := .slice none 0 0
abbrev two0 (w : World) : World := (w.alloc (.cells #[.slice none 0 0, .slice none 0 0] 24)).alloc (.cells #[.slice none 0 0, .slice none 0 0] 24)
theorem two0_a (w : World) : CB (two0 w) w.heap.size nilS nilS := (CB.new w _ _).below (Nat.le_refl _) ((Below.refl _ _).alloc (Nat.le_refl _) _)
theorem two0_b (w : World) : CB (two0 w) (w.heap.size + 1) nilS nilS := by
  have := CB.new (w.alloc (.cells #[.slice none 0 0, .slice none 0 0] 24)) nilS nilS
  rw [show (w.alloc (.cells #[.slice none 0 0, .slice none 0 0] 24)).heap.size = w.heap.size + 1 by simp] at this
  exact this
theorem two0_below (w : World) : Below w.heap.size w (two0 w) := ((Below.refl _ w).alloc (by simp) _).alloc (by simp) _
/-- In the course of Begin: block s + 1 holds what has come. -/
structure Beg (s k : Nat) (w wr : World) : Prop where
  size : s + 2 ≤ wr.heap.size
  box : ∃ v, CB wr (s + 1) v nilS ∧ wr.ownsRow (s + 2) 3 1 v k ((upTo k).map (Value.int .i64))
  out : CB wr s nilS nilS
  below : Below s w wr
theorem Beg.start (w : World) : Beg w.heap.size 0 w (two0 w) := ⟨by simp, ⟨nilS, two0_b w, World.ownsRow_nil _ _ _ _⟩, two0_a w, two0_below w⟩
theorem Beg.step {s k : Nat} {w wr w1 : World} {v v' : Value} {tmp : Obj} (h : Beg s k w wr) (hv : CB wr (s + 1) v nilS) (hrow : wr.ownsRow (s + 2) 3 1 v k ((upTo k).map (Value.int .i64)))
    (hown : w1.ownsRow (s + 2) 3 1 v' (k + 1) ((upTo k).map (Value.int .i64) ++ [.int .i64 ((k + 1 : Nat) : Int)])) (hg : (wr.alloc tmp).grownBy w1 v.ownBlock) : Beg s (k + 1) w (w1.setCell ⟨s + 1, 0, none⟩ v') := by
  have hz := h.size
  have hB : Below (s + 2) wr w1 := ((Below.refl _ _).alloc hz _).grown hg (by simp; omega) (fun j ej => own_blk hrow ej)
  refine ⟨by have := hB.size; simp [World.setCell]; omega, ⟨v', (hv.under (by omega) hB).s0 v', ?_⟩, ?_, ?_⟩
  · rw [upTo_succ, List.map_append]
    exact ownsRow_setCell_below hown (by show s + 1 < s + 2; omega) _
  · have := h.out.under (show s < s + 2 by omega) hB
    exact this.under (B := s + 1) (by omega) ((Below.refl _ _).setCell (by simp) _)
  · exact (h.below.trans (hB.mono (by omega))).setCell (by simp) _
theorem Beg.lt {s k : Nat} {w wr : World} (h : Beg s k w wr) (hs : s = w.heap.size) : Hid (s + 2 ≤ wr.heap.size) := h.size
theorem begin_any (n : Int) (w : World) : Calls Try.prog 15 #[.int .i64 n] w fun e w' => ∃ a' n' c', e = .returned (.agg #[.slice a' n' c', .slice none 0 0]) ∧ Rd w' a' n' (upTo (wantN n)) ∧ Below w.heap.size w w' := by
  obtain ⟨i0, hi, hz0, hz1, hz2⟩ := info_parts Try.info3
  obtain ⟨q, hq⟩ : ∃ q, q = wantN n := ⟨_, rfl⟩
  have HQ := Lib.hid hq
  have hq9 : q ≤ 9 := by rw [hq]; unfold wantN; split <;> (try split) <;> omega
  have hqe : (n < 1 ∧ q = 1) ∨ (9 < n ∧ q = 9) ∨ (1 ≤ n ∧ n ≤ 9 ∧ n = q) := by rw [hq]; unfold wantN; split <;> (try split) <;> omega
  have HE := Lib.hid hqe
  clear hq hqe
  go_enter Try.func15, Try.ntmps15
  go_upto_region 2 with fail
  go_cut [7, 8] (fun a b wx => a = .int .i64 q ∧ b = .int .i64 0 ∧ wx = two0 w)
  case first =>
    rcases HE.out with ⟨h1, rfl⟩ | ⟨h1, rfl⟩ | ⟨h1, h2, rfl⟩
    all_goals (go_wp2_with fail; go_meet; exact ⟨rfl, rfl, rfl⟩)
  case rest =>
    obtain ⟨rfl, rfl, rfl⟩ := hcut
    obtain ⟨s, hs⟩ : ∃ s, s = w.heap.size := ⟨_, rfl⟩
    have H0 := Beg.start w
    rw [← hs] at H0 ⊢
    have HSS := Lib.hid hs
    clear hs
    go_wp2_with fail
    go_loopw [8] (fun t wr => ∃ k : Nat, k ≤ q ∧ t = .int .i64 k ∧ Beg s k w wr) (fun t _ => q - (intOf t).toNat)
    case atStart => exact ⟨0, Nat.zero_le _, rfl, H0⟩
    case round =>
      clear H0
      obtain ⟨k, hk, rfl, hG⟩ := hrel
      have HG := Lib.hid hG
      obtain ⟨v, hv, hrow⟩ := hG.box
      have hc := hv.c0
      have hfz := hv.frozen 0
      have HV := Lib.hid hv
      have hsz := HG.out.size
      clear hG hv
      by_cases hlt : k < q
      · go_wp2_with (at_builtin; refine wpList_append_own _ rfl _ _ 22 rfl (s + 2) 3 i0 (.int .i64 0) 1 8 Try.underlying22 hi hz0 hz1 hz2 rfl (by decide) _ _ _ rfl (hrow.alloc _) ⟨wr.heap.size, 0, none⟩ 1 1 [.int .i64 ((k + 1 : Nat) : Int)] rfl rfl (cell_one_new _ _ _) (by simp [Value.oneCell']) (by simp only [maxLen]; omega) (by omega) (by simp; omega) ?_; intro v' w1 hown' hgrow _; have HS := Lib.hid (HG.out.step HV.out hrow hown' hgrow); have hc1 := (HV.out.under (show s + 1 < s + 2 by omega) (((Below.refl _ _).alloc hsz _).grown hgrow (by simp; omega) (fun j ej => own_blk hrow ej))).frozen 0; have hc2 := (HV.out.under (show s + 1 < s + 2 by omega) (((Below.refl _ _).alloc hsz _).grown hgrow (by simp; omega) (fun j ej => own_blk hrow ej))).c0; clear hgrow; obtain ⟨a', c', rfl⟩ := own_sl hown'; clear hown')
        go_roundw
        case rel => exact ⟨k + 1, by omega, by go_num, HS.out⟩
        case measure => simp [intOf]; omega
      · obtain rfl : k = q := by omega
        have ho := HG.out.out
        have ho0 := ho.c0
        have ho1 := ho.c1
        have hof0 := ho.frozen 0
        have hof1 := ho.frozen 1
        have hc1 := HV.out.c1
        obtain ⟨a', c', rfl⟩ := own_sl hrow
        have HF := Lib.hid ((ho.s0 (.slice a' k c')).s1 (.slice none 0 0))
        have hr2 := ownsRow_setCell_below (ownsRow_setCell_below hrow (a := ⟨s, 0, none⟩) (show s < s + 2 by omega) (.slice a' k c')) (a := ⟨s, 1, none⟩) (show s < s + 2 by omega) (.slice none 0 0)
        obtain ⟨b1, c1, e1, hRd⟩ := own_rd hr2
        cases e1
        have HR := Lib.hid hRd
        have HB : Hid (Below s w ((wr.setCell ⟨s, 0, none⟩ (.slice a' k c')).setCell ⟨s, 1, none⟩ (.slice none 0 0))) := (HG.out.below.setCell (Nat.le_refl _) _).setCell (Nat.le_refl _) _
        clear hRd hr2 hrow ho
        go_wp2_with fail
        generalize ((wr.setCell ⟨s, 0, none⟩ (.slice a' k c')).setCell ⟨s, 1, none⟩ (.slice none 0 0)) = wz at *
        have f0 := HF.out.c0
        have f1 := HF.out.c1
        refine bodyPost_ret (v := .agg #[.slice a' k c', .slice none 0 0]) ?_ rfl ⟨_, _, _, rfl, ?_, ?_⟩
        · simp [results, Try.results15, go_sem, f0, f1]
        · rw [← HQ.out]; exact HR.out
        · rw [← HSS.out]; exact HB.out
theorem refbegin_any (n : Int) (w : World) : Calls Try.prog 16 #[.int .i64 n] w fun e w' => ∃ a' n' c', e = .returned (.agg #[.slice a' n' c', .slice none 0 0]) ∧ Rd w' a' n' (upTo (wantN n)) ∧ Below w.heap.size w w' := by
  obtain ⟨i0, hi, hz0, hz1, hz2⟩ := info_parts Try.info3
  obtain ⟨q, hq⟩ : ∃ q, q = wantN n := ⟨_, rfl⟩
  have HQ := Lib.hid hq
  have hq9 : q ≤ 9 := by rw [hq]; unfold wantN; split <;> (try split) <;> omega
  have hqe : (n < 1 ∧ q = 1) ∨ (9 < n ∧ q = 9) ∨ (1 ≤ n ∧ n ≤ 9 ∧ n = q) := by rw [hq]; unfold wantN; split <;> (try split) <;> omega
  have HE := Lib.hid hqe
  clear hq hqe
  go_enter Try.func16, Try.ntmps16
  go_wp2_with fail
  obtain ⟨s, hs⟩ : ∃ s, s = w.heap.size := ⟨_, rfl⟩
  have H0 := Beg.start w
  rw [← hs] at H0 ⊢
  have HSS := Lib.hid hs
  clear hs
  go_loopw [4] (fun t wr => ∃ k : Nat, k ≤ q ∧ t = .int .i64 ((k + 1 : Nat) : Int) ∧ Beg s k w wr) (fun t _ => 20 - (intOf t).toNat)
  case atStart => exact ⟨0, Nat.zero_le _, rfl, H0⟩
  case round =>
    clear H0
    obtain ⟨k, hk, rfl, hG⟩ := hrel
    have HG := Lib.hid hG
    obtain ⟨v, hv, hrow⟩ := hG.box
    have hc := hv.c0
    have hfz := hv.frozen 0
    have HV := Lib.hid hv
    have hsz := HG.out.size
    clear hG hv
    have h1q : 1 ≤ q := by rcases HE.out with ⟨_, h⟩ | ⟨_, h⟩ | ⟨h, _, h2⟩ <;> omega
    by_cases hlt : k < q
    · have hk9 : decide ((k : Int) + 1 ≤ 9) = true := decide_eq_true (by omega)
      rcases (show ((k : Int) + 1 ≤ n) ∨ (¬ ((k : Int) + 1 ≤ n) ∧ k = 0) by rcases HE.out with ⟨h, h'⟩ | ⟨h, h'⟩ | ⟨h, h', h2⟩ <;> omega) with hcn | ⟨hcn, hk0⟩
      · go_wp2_with (at_builtin; refine wpList_append_own _ rfl _ _ 22 rfl (s + 2) 3 i0 (.int .i64 0) 1 8 Try.underlying22 hi hz0 hz1 hz2 rfl (by decide) _ _ _ rfl (hrow.alloc _) ⟨wr.heap.size, 0, none⟩ 1 1 [.int .i64 ((k + 1 : Nat) : Int)] rfl rfl (cell_one_new _ _ _) (by simp [Value.oneCell']) (by simp only [maxLen]; omega) (by omega) (by simp; omega) ?_; intro v' w1 hown' hgrow _; have HS := Lib.hid (HG.out.step HV.out hrow hown' hgrow); have hc1 := (HV.out.under (show s + 1 < s + 2 by omega) (((Below.refl _ _).alloc hsz _).grown hgrow (by simp; omega) (fun j ej => own_blk hrow ej))).frozen 0; have hc2 := (HV.out.under (show s + 1 < s + 2 by omega) (((Below.refl _ _).alloc hsz _).grown hgrow (by simp; omega) (fun j ej => own_blk hrow ej))).c0; clear hgrow; obtain ⟨a', c', rfl⟩ := own_sl hown'; clear hown')
        go_roundw
        case rel => exact ⟨k + 1, by omega, by go_num, HS.out⟩
        case measure => simp [intOf]; omega
      · have hb1 : ((k : Int) + 1 == 1) = true := by rw [hk0]; rfl
        have HK0 := Lib.hid hk0
        clear hk0
        go_wp2_with (at_builtin; refine wpList_append_own _ rfl _ _ 22 rfl (s + 2) 3 i0 (.int .i64 0) 1 8 Try.underlying22 hi hz0 hz1 hz2 rfl (by decide) _ _ _ rfl (hrow.alloc _) ⟨wr.heap.size, 0, none⟩ 1 1 [.int .i64 ((k + 1 : Nat) : Int)] rfl rfl (cell_one_new _ _ _) (by simp [Value.oneCell']) (by simp only [maxLen]; omega) (by omega) (by simp; omega) ?_; intro v' w1 hown' hgrow _; have HS := Lib.hid (HG.out.step HV.out hrow hown' hgrow); have hc1 := (HV.out.under (show s + 1 < s + 2 by omega) (((Below.refl _ _).alloc hsz _).grown hgrow (by simp; omega) (fun j ej => own_blk hrow ej))).frozen 0; have hc2 := (HV.out.under (show s + 1 < s + 2 by omega) (((Below.refl _ _).alloc hsz _).grown hgrow (by simp; omega) (fun j ej => own_blk hrow ej))).c0; clear hgrow; obtain ⟨a', c', rfl⟩ := own_sl hown'; clear hown')
        go_roundw
        case rel => exact ⟨k + 1, by omega, by go_num, HS.out⟩
        case measure => simp [intOf]; omega
    · obtain rfl : k = q := by omega
      have hb1 : ((k : Int) + 1 == 1) = false := by simp; omega
      have hk9 : decide ((k : Int) + 1 ≤ 9) = decide (k ≤ 8) := by by_cases h : k ≤ 8 <;> simp [h] <;> omega
      have ho := HG.out.out
      have ho0 := ho.c0
      have ho1 := ho.c1
      have hof0 := ho.frozen 0
      have hof1 := ho.frozen 1
      have hc1 := HV.out.c1
      obtain ⟨a', c', rfl⟩ := own_sl hrow
      have HF := Lib.hid ((ho.s0 (.slice a' k c')).s1 (.slice none 0 0))
      have hr2 := ownsRow_setCell_below (ownsRow_setCell_below hrow (a := ⟨s, 0, none⟩) (show s < s + 2 by omega) (.slice a' k c')) (a := ⟨s, 1, none⟩) (show s < s + 2 by omega) (.slice none 0 0)
      obtain ⟨b1, c1, e1, hRd⟩ := own_rd hr2
      cases e1
      have HR := Lib.hid hRd
      have HB : Hid (Below s w ((wr.setCell ⟨s, 0, none⟩ (.slice a' k c')).setCell ⟨s, 1, none⟩ (.slice none 0 0))) := (HG.out.below.setCell (Nat.le_refl _) _).setCell (Nat.le_refl _) _
      clear hRd hr2 hrow ho
      rcases (show (k ≤ 8 ∧ ¬ ((k : Int) + 1 ≤ n)) ∨ ¬ (k ≤ 8) by rcases HE.out with ⟨h, h'⟩ | ⟨h, h'⟩ | ⟨h, h', h2⟩ <;> omega) with ⟨h8, hcn⟩ | h8
      all_goals (
        go_wp2_with fail
        generalize ((wr.setCell ⟨s, 0, none⟩ (.slice a' k c')).setCell ⟨s, 1, none⟩ (.slice none 0 0)) = wz at *
        have f0 := HF.out.c0
        have f1 := HF.out.c1
        have r1 : Rd wz a' k (upTo (wantN n)) := by rw [← HQ.out]; exact HR.out
        have r2 : Below w.heap.size w wz := by rw [← HSS.out]; exact HB.out
        refine bodyPost_ret (v := .agg #[.slice a' k c', .slice none 0 0]) (by simp [results, Try.results16, go_sem, f0, f1]) rfl ?_
        first | exact ⟨_, _, _, rfl, r1, r2⟩ | exact ⟨_, _, ⟨_, rfl⟩, r1, r2⟩)
end Go.Proofs.Ytedifbdjcebefaa
