/- The document's lists with one more, and without one. -/
import Derived.Test.YtedifbdjcebefaaInts
import Derived.Laws.AppendOwn
import Derived.RangeFuncBox
import Derived.Deep.DeepCutAuto
namespace Go.Proofs.Ytedifbdjcebefaa
open Go Go.RowKit
set_option linter.unusedVariables false
set_option linter.unusedSimpArgs false
set_option maxRecDepth 100000
set_option maxHeartbeats 1000000
theorem own_blk {w : World} {base : Nat} {e : TypeId} {size n : Nat} {v : Value} {xs : List Value} (h : w.ownsRow base e size v n xs) {j : Nat} (ej : v.ownBlock = some j) : base ≤ j := by
  rcases h.2 with ⟨rfl, _⟩ | ⟨g, cap, cur, rfl, hb, _, _⟩
  · simp [Value.ownBlock] at ej
  · obtain rfl : g = j := by simpa [Value.ownBlock] using ej
    exact hb
/-- What a call owns leads to its list. -/
theorem own_rd {w : World} {base n : Nat} {v : Value} {l : List Int} (h : w.ownsRow base 3 1 v n (l.map (Value.int .i64))) : ∃ a c, v = .slice a n c ∧ Rd w a n l := by
  have hl : l.length = n := by have := h.1; simpa using this
  rcases h.2 with ⟨rfl, rfl⟩ | ⟨g, cap, cur, rfl, hb, hg, h2, h3, h4, h5⟩
  · exact ⟨none, 0, rfl, hl, .inl rfl⟩
  · refine ⟨some ⟨g, 0, none⟩, cap, rfl, hl, ?_⟩
    by_cases h0 : n = 0
    · exact .inl h0
    · refine .inr ⟨g, 0, rfl, fun j hj => ?_⟩
      rw [Nat.zero_add, cell_of_row w g j cur 3 _ hg]
      have e := congrArg (fun x : List Value => x[j]?) h5
      rw [List.getElem?_take_of_lt (by omega), List.getElem?_map, List.getElem?_eq_getElem (by omega : j < l.length)] at e
      rw [List.getD_eq_getElem?_getD, List.getElem?_eq_getElem (by omega : j < l.length)]
      simpa using e
theorem Try.info3 : (Try.prog.info? 3).map (fun i => (i.zero, i.size, i.bytes)) = some (some (.int .i64 0), 1, 8) := by kernel_rfl
def woL (l : List Int) (x : Int) : List Int := l.filter fun y => y != x
theorem woL_snoc (l : List Int) (y x : Int) : woL (l ++ [y]) x = woL l x ++ (if y != x then [y] else []) := by
  unfold woL; rw [List.filter_append]; congr 1
  simp [List.filter_cons]
theorem woL_len (l : List Int) (x : Int) : (woL l x).length ≤ l.length := List.length_filter_le _ _
theorem refwithout_any (a : Option Addr) (n c : Nat) (l : List Int) (x : Int) (w : World) (hR : Rd w a n l) (hb : n ≤ 1000) : Calls Try.prog 27 #[.slice a n c, .int .i64 x] w fun e w' => ∃ a' n' c', e = .returned (.slice a' n' c') ∧ Rd w' a' n' (woL l x) ∧ Below w.heap.size w w' := by
  have HR := Lib.hid hR
  clear hR
  obtain ⟨i0, hi, hz0, hz1, hz2⟩ := info_parts Try.info3
  obtain ⟨s, hs⟩ : ∃ s, s = w.heap.size := ⟨_, rfl⟩
  have HS := Lib.hid hs
  clear hs
  go_enter Try.func27, Try.ntmps27
  go_wp2_with fail
  go_loopw [5, 10] (fun v t wr => ∃ k m : Nat, k ≤ n ∧ t = .int .i64 k ∧ m ≤ k ∧ wr.ownsRow s 3 1 v m ((woL (l.take k) x).map (Value.int .i64)) ∧ Below s w wr) (fun _ t _ => n - (intOf t).toNat)
  case atStart => exact ⟨0, 0, Nat.zero_le _, rfl, Nat.le_refl _, World.ownsRow_nil _ _ _ _, Below.refl _ _⟩
  case round =>
    obtain ⟨k, m, hk, rfl, hm, hrow, hB⟩ := hrel
    have HRr := Lib.hid (HR.out.keep (Nat.le_of_eq HS.out.symm) hB)
    by_cases hlt : k < n
    · obtain ⟨b, off, rfl, hc⟩ := HRr.out.at hlt
      have HT := Lib.hid (take_snoc l k (by have := HR.out.1; omega))
      have H1 := Lib.hid (woL_snoc (l.take k) (l.getD k 0) x)
      generalize l.getD k 0 = y at *
      by_cases hyx : y = x
      · have hy2 : (y != x) = false := by simpa using hyx
        have H2 : Hid (woL (l.take (k + 1)) x = woL (l.take k) x) := by
          show _ = _
          rw [HT.out, H1.out, hy2]; simp
        clear hy2
        subst hyx
        go_wp2
        go_roundw
        case rel => exact ⟨k + 1, m, by omega, by go_num, by omega, by rw [H2.out]; exact hrow, hB⟩
        case measure => simp [intOf]; omega
      · have hy2 : (y != x) = true := by simpa using hyx
        have hy3 : (y == x) = false := by simpa using hyx
        have H2 : Hid (woL (l.take (k + 1)) x = woL (l.take k) x ++ [y]) := by
          show _ = _
          rw [HT.out, H1.out, hy2]; simp
        clear hy2
        go_wp2_with (at_builtin; refine wpList_append_own _ rfl _ _ 22 rfl s 3 i0 (.int .i64 0) 1 8 Try.underlying22 hi hz0 hz1 hz2 rfl (by decide) _ _ _ rfl (hrow.alloc _) ⟨wr.heap.size, 0, none⟩ 1 1 [.int .i64 y] rfl rfl (cell_one_new _ _ _) (by simp [Value.oneCell']) (by simp only [maxLen]; omega) (by omega) (by have := hB.size; rw [HS.out]; simp; omega) ?_; intro v' w1 hown' hgrow _)
        go_roundw
        case rel =>
          refine ⟨k + 1, m + 1, by omega, by go_num, by omega, ?_, ?_⟩
          · rw [H2.out, List.map_append]; exact hown'
          · have hz := hB.size
            have e := HS.out
            exact (hB.alloc (by omega) _).grown hgrow (by simp; omega) (fun j ej => own_blk hrow ej)
        case measure => simp [intOf]; omega
    · have HT : Hid (l.take k = l) := by
        show _ = _
        exact List.take_of_length_le (by have := HR.out.1; omega)
      rw [HT.out] at hrow
      obtain ⟨a', c', rfl, hRd⟩ := own_rd hrow
      have HB := Lib.hid hB
      have HD := Lib.hid hRd
      clear hrow hB hRd
      go_wp2
      go_ret
      exact ⟨_, _, _, rfl, HD.out, by rw [← HS.out]; exact HB.out⟩
def wiS (x : Int) (p : List Int × Bool) (y : Int) : List Int × Bool := if decide (x < y) && !p.2 then (p.1 ++ [x] ++ [y], true) else (p.1 ++ [y], p.2)
def wiP (l : List Int) (x : Int) : List Int × Bool := l.foldl (wiS x) ([], false)
def wiR (l : List Int) (x : Int) : List Int := if (wiP l x).2 then (wiP l x).1 else (wiP l x).1 ++ [x]
theorem wiP_snoc (l : List Int) (y x : Int) : wiP (l ++ [y]) x = wiS x (wiP l x) y := by simp [wiP]
theorem refwith_any (a : Option Addr) (n c : Nat) (l : List Int) (x : Int) (w : World) (hR : Rd w a n l) (hb : n ≤ 1000) : Calls Try.prog 26 #[.slice a n c, .int .i64 x] w fun e w' => ∃ a' n' c', e = .returned (.slice a' n' c') ∧ Rd w' a' n' (wiR l x) ∧ Below w.heap.size w w' := by
  have HR := Lib.hid hR
  clear hR
  obtain ⟨i0, hi, hz0, hz1, hz2⟩ := info_parts Try.info3
  obtain ⟨s, hs⟩ : ∃ s, s = w.heap.size := ⟨_, rfl⟩
  have HS := Lib.hid hs
  clear hs
  go_enter Try.func26, Try.ntmps26
  go_wp2_with fail
  go_loopw [5, 6, 11] (fun v dv t wr => ∃ (k m : Nat) (o : List Int) (d : Bool), k ≤ n ∧ t = .int .i64 k ∧ m ≤ 2 * k ∧ dv = .bool d ∧ Hid (wiP (l.take k) x = (o, d)) ∧ wr.ownsRow s 3 1 v m (o.map (Value.int .i64)) ∧ Below s w wr) (fun _ _ t _ => n - (intOf t).toNat)
  case atStart => exact ⟨0, 0, [], false, Nat.zero_le _, rfl, Nat.le_refl _, rfl, rfl, World.ownsRow_nil _ _ _ _, Below.refl _ _⟩
  case round =>
    obtain ⟨k, m, o, d, hk, rfl, hm, rfl, HP, hrow, hB⟩ := hrel
    have HRr := Lib.hid (HR.out.keep (Nat.le_of_eq HS.out.symm) hB)
    by_cases hlt : k < n
    · obtain ⟨b, off, rfl, hc⟩ := HRr.out.at hlt
      have HT := Lib.hid (take_snoc l k (by have := HR.out.1; omega))
      have H1 := Lib.hid (wiP_snoc (l.take k) (l.getD k 0) x)
      generalize l.getD k 0 = y at *
      by_cases hxy : x < y
      · cases d
        · have H2 : Hid (wiP (l.take (k + 1)) x = (o ++ [x] ++ [y], true)) := by
            show _ = _
            rw [HT.out, H1.out, HP.out, wiS, decide_eq_true hxy]; rfl
          go_upto_region 9 with (at_builtin; refine wpList_append_own _ rfl _ _ 22 rfl s 3 i0 (.int .i64 0) 1 8 Try.underlying22 hi hz0 hz1 hz2 rfl (by decide) _ _ _ rfl (hrow.alloc _) ⟨wr.heap.size, 0, none⟩ 1 1 [.int .i64 x] rfl rfl (cell_one_new _ _ _) (by simp [Value.oneCell']) (by simp only [maxLen]; omega) (by omega) (by have := hB.size; rw [HS.out]; simp; omega) ?_; intro v1 w1 hown1 hgrow1 _)
          have hB1 : Below s w w1 := by
            have hz := hB.size
            have e := HS.out
            exact (hB.alloc (by omega) _).grown hgrow1 (by simp; omega) (fun j ej => own_blk hrow ej)
          clear hgrow1
          go_wp2_with (at_builtin; refine wpList_append_own _ rfl _ _ 22 rfl s 3 i0 (.int .i64 0) 1 8 Try.underlying22 hi hz0 hz1 hz2 rfl (by decide) _ _ _ rfl (hown1.alloc _) ⟨w1.heap.size, 0, none⟩ 1 1 [.int .i64 y] rfl rfl (cell_one_new _ _ _) (by simp [Value.oneCell']) (by simp only [maxLen]; omega) (by omega) (by have := hB1.size; rw [HS.out]; simp; omega) ?_; intro v2 w2 hown2 hgrow2 _)
          have hB2 : Below s w w2 := by
            have hz := hB1.size
            have e := HS.out
            exact (hB1.alloc (by omega) _).grown hgrow2 (by simp; omega) (fun j ej => own_blk hown1 ej)
          clear hgrow2
          go_wp2_with fail
          go_roundw
          case rel =>
            refine ⟨k + 1, m + 1 + 1, _, _, by omega, by go_num, by omega, rfl, H2, ?_, hB2⟩
            rw [List.map_append, List.map_append]; exact hown2
          case measure => simp [intOf]; omega
        · have H2 : Hid (wiP (l.take (k + 1)) x = (o ++ [y], true)) := by
            show _ = _
            rw [HT.out, H1.out, HP.out, wiS, decide_eq_true hxy]; rfl
          go_wp2_with (at_builtin; refine wpList_append_own _ rfl _ _ 22 rfl s 3 i0 (.int .i64 0) 1 8 Try.underlying22 hi hz0 hz1 hz2 rfl (by decide) _ _ _ rfl (hrow.alloc _) ⟨wr.heap.size, 0, none⟩ 1 1 [.int .i64 y] rfl rfl (cell_one_new _ _ _) (by simp [Value.oneCell']) (by simp only [maxLen]; omega) (by omega) (by have := hB.size; rw [HS.out]; simp; omega) ?_; intro v1 w1 hown1 hgrow1 _)
          have hB1 : Below s w w1 := by
            have hz := hB.size
            have e := HS.out
            exact (hB.alloc (by omega) _).grown hgrow1 (by simp; omega) (fun j ej => own_blk hrow ej)
          clear hgrow1
          go_wp2_with fail
          go_roundw
          case rel =>
            refine ⟨k + 1, m + 1, _, _, by omega, by go_num, by omega, rfl, H2, ?_, hB1⟩
            rw [List.map_append]; exact hown1
          case measure => simp [intOf]; omega
      · have H2 : Hid (wiP (l.take (k + 1)) x = (o ++ [y], d)) := by
          show _ = _
          rw [HT.out, H1.out, HP.out, wiS, decide_eq_false hxy]; rfl
        go_wp2_with (at_builtin; refine wpList_append_own _ rfl _ _ 22 rfl s 3 i0 (.int .i64 0) 1 8 Try.underlying22 hi hz0 hz1 hz2 rfl (by decide) _ _ _ rfl (hrow.alloc _) ⟨wr.heap.size, 0, none⟩ 1 1 [.int .i64 y] rfl rfl (cell_one_new _ _ _) (by simp [Value.oneCell']) (by simp only [maxLen]; omega) (by omega) (by have := hB.size; rw [HS.out]; simp; omega) ?_; intro v1 w1 hown1 hgrow1 _)
        have hB1 : Below s w w1 := by
          have hz := hB.size
          have e := HS.out
          exact (hB.alloc (by omega) _).grown hgrow1 (by simp; omega) (fun j ej => own_blk hrow ej)
        clear hgrow1
        go_wp2_with fail
        go_roundw
        case rel =>
          refine ⟨k + 1, m + 1, _, _, by omega, by go_num, by omega, rfl, H2, ?_, hB1⟩
          rw [List.map_append]; exact hown1
        case measure => simp [intOf]; omega
    · have HT : Hid (l.take k = l) := by
        show _ = _
        exact List.take_of_length_le (by have := HR.out.1; omega)
      have HW : Hid (wiR l x = if d then o else o ++ [x]) := by
        show _ = _
        have := HP.out
        rw [HT.out] at this
        rw [wiR, this]
      cases d
      · go_wp2_with (at_builtin; refine wpList_append_own _ rfl _ _ 22 rfl s 3 i0 (.int .i64 0) 1 8 Try.underlying22 hi hz0 hz1 hz2 rfl (by decide) _ _ _ rfl (hrow.alloc _) ⟨wr.heap.size, 0, none⟩ 1 1 [.int .i64 x] rfl rfl (cell_one_new _ _ _) (by simp [Value.oneCell']) (by simp only [maxLen]; omega) (by omega) (by have := hB.size; rw [HS.out]; simp; omega) ?_; intro v1 w1 hown1 hgrow1 _)
        have hB1 : Below s w w1 := by
          have hz := hB.size
          have e := HS.out
          exact (hB.alloc (by omega) _).grown hgrow1 (by simp; omega) (fun j ej => own_blk hrow ej)
        clear hgrow1
        have hown2 : w1.ownsRow s 3 1 v1 (m + 1) ((wiR l x).map (Value.int .i64)) := by
          rw [HW.out]; simpa using hown1
        obtain ⟨a', c', rfl, hRd⟩ := own_rd hown2
        have HB := Lib.hid hB1
        have HD := Lib.hid hRd
        clear hrow hB hB1 hRd hown1 hown2
        go_wp2
        go_ret
        exact ⟨_, _, _, rfl, HD.out, by rw [← HS.out]; exact HB.out⟩
      · have hown2 : wr.ownsRow s 3 1 u5 m ((wiR l x).map (Value.int .i64)) := by
          rw [HW.out]; simpa using hrow
        obtain ⟨a', c', rfl, hRd⟩ := own_rd hown2
        have HB := Lib.hid hB
        have HD := Lib.hid hRd
        clear hrow hB hRd hown2
        go_wp2
        go_ret
        have hBB : Below w.heap.size w wr := by rw [← HS.out]; exact HB.out
        exact ⟨_, _, ⟨_, rfl⟩, HD.out, hBB⟩
end Go.Proofs.Ytedifbdjcebefaa
