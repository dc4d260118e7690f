/- An entry's term. -/
import Derived.Test.YtbgfpmnicpmieaaRAt
import Derived.Deep.RegionHeld3
namespace Go.Proofs.Ytbgfpmnicpmieaa
open Go Go.RowKit Go.Shelf Go.Sort
set_option linter.unusedVariables false
set_option linter.unusedSimpArgs false
set_option maxRecDepth 100000
set_option maxHeartbeats 1000000
theorem countP_range (m n : Nat) : (List.range n).countP (fun k => decide (k < m)) = min m n := by
  induction n with
  | zero => simp
  | succ n ih =>
    rw [List.range_succ, List.countP_append, ih, List.countP_singleton]
    by_cases h : n < m
    · simp [h]; omega
    · simp [h]; omega
/-- A log that is as it should be. -/
structure Ok (l : Lg) (ps : List (Int × Int)) : Prop where
  is : l.is = true
  len : ps.length = l.n
  row : ∀ j, j < ps.length → (ps.getD j (0, 0)).1 = l.ix + 1 + j
  small : l.n ≤ 1000
  lo : 0 ≤ l.ix
  hi : l.ix ≤ 2199023255552
theorem Ok.up {l : Lg} {ps : List (Int × Int)} (h : Ok l ps) : upP ps := fun a b hab hb => by
  rw [h.row a (by omega), h.row b hb]; omega
theorem Ok.at {l : Lg} {ps : List (Int × Int)} (h : Ok l ps) (i : Int) : atN ps i = min (i - l.ix - 1).toNat l.n := by
  unfold atN
  rw [h.len, ← countP_range]
  refine List.countP_congr fun k hk => ?_
  rw [List.mem_range] at hk
  rw [h.row k (by rw [h.len]; exact hk)]
  simp only [Bool.not_eq_true', decide_eq_false_iff_not, decide_eq_true_eq]
  omega
theorem Ok.last {l : Lg} {ps : List (Int × Int)} (h : Ok l ps) : (lastP l ps).1 = l.ix + l.n := by
  unfold lastP
  split
  · rename_i h0; rw [h0]; simp
  · rename_i h0
    rw [h.row _ (by rw [h.len]; omega)]; omega
def termF (l : Lg) (ps : List (Int × Int)) (i : Int) : Int × Int :=
  if i < l.ix then (0, 11) else if l.ix + l.n < i then (0, 6) else if i = l.ix then (l.tm, 0) else ((ps.getD (i - l.ix - 1).toNat (0, 0)).2, 0)
theorem at_from (w2 : World) (b : Nat) (l : Lg) (ps : List (Int × Int)) (i : Int) (W : World) (hb : LB w2 b l) (he : EP w2 l.a l.n ps) (hn : l.n ≤ 1000) (hu : upP ps) (hW : Below w2.heap.size w2 W) :
    Calls Try.prog 40 #[.pointer (some ⟨b, 0, none⟩), .int .i64 i] W fun e w' => e = .returned (.int .i64 (atN ps i : Nat)) ∧ Below w2.heap.size w2 w' :=
  (at_any b l ps i W (hb.below (Nat.le_refl _) hW) (he.keep (Nat.le_refl _) hW) hn hu).mono fun e w' ⟨h1, h2⟩ => ⟨h1, hW.trans (h2.mono hW.size)⟩
theorem held_1 {A : Prop} {m : Nat} {w W : World} (h : A ∧ Below m w W) : Below m w W := h.2
theorem held_2 {A B : Prop} {m : Nat} {w W : World} (h : A ∧ B ∧ Below m w W) : Below m w W := h.2.2
theorem held_3 {A B C : Prop} {m : Nat} {w W : World} (h : A ∧ B ∧ C ∧ Below m w W) : Below m w W := h.2.2.2
theorem term_nil (i : Int) (w : World) : Calls Try.prog 13 #[.pointer none, .int .i64 i] w fun e w' => e = .returned (.tuple #[.int .i64 0, .int .i64 1]) ∧ w = w' := by
  go_enter Try.func13, Try.ntmps13
  go_wp2_with (go_at_call 41; refine (made_nil _).mono ?_; rintro e w' ⟨rfl, rfl⟩)
  go_ret2
  exact ⟨rfl, rfl⟩
theorem term_any (b : Nat) (l : Lg) (ps : List (Int × Int)) (i : Int) (w : World) (hb : LB w b l) (he : EP w l.a l.n ps) (ho : Ok l ps) :
    Calls Try.prog 13 #[.pointer (some ⟨b, 0, none⟩), .int .i64 i] w fun e w' => e = .returned (.tuple #[.int .i64 (termF l ps i).1, .int .i64 (termF l ps i).2]) ∧ Below w.heap.size w w' := by
  have HT : Hid (termF l ps i = if i < l.ix then (0, 11) else if l.ix + l.n < i then (0, 6) else if i = l.ix then (l.tm, 0) else ((ps.getD (i - l.ix - 1).toNat (0, 0)).2, 0)) := rfl
  have HM := Lib.hid (made_any b l w hb)
  have HL := Lib.hid (last_any b l ps w hb ho.is he ho.small)
  have HB := Lib.hid hb
  have HE := Lib.hid he
  have HO := Lib.hid ho
  have hlast := ho.last
  have HLa := Lib.hid hlast
  have his := ho.is
  have HI := Lib.hid his
  clear hb he ho hlast his
  go_enter Try.func13, Try.ntmps13
  go_wp2_with fail
  refine HM.out.mono ?_
  rintro e w' ⟨rfl, rfl⟩
  rw [HI.out]
  go_wp2_with fail
  refine HL.out.mono ?_
  rintro e w1 ⟨rfl, hbw⟩
  rw [HLa.out]
  have L1 := Lib.hid hbw
  have B1 := Lib.hid (HB.out.below (Nat.le_refl _) hbw)
  have E1 := Lib.hid (HE.out.keep (Nat.le_refl _) hbw)
  have h0 := B1.out.c0
  have h1 := B1.out.c1
  have h2 := B1.out.c2
  clear hbw HM HL HB HE HLa
  generalize (lastP l ps).2 = lt at *
  by_cases c1 : i < l.ix
  · have hT : Hid (termF l ps i = (0, 11)) := by show _ = _; rw [HT.out, if_pos c1]
    have hd : decide (i < l.ix) = true := decide_eq_true c1
    go_wp2_with fail
    go_ret2
    exact ⟨by rw [hT.out]; rfl, L1.out⟩
  have hd1 : decide (i < l.ix) = false := decide_eq_false c1
  by_cases c2 : l.ix + l.n < i
  · have hT : Hid (termF l ps i = (0, 6)) := by show _ = _; rw [HT.out, if_neg c1, if_pos c2]
    have hd : decide (l.ix + (l.n : Int) < i) = true := decide_eq_true c2
    go_wp2_with fail
    go_ret2
    exact ⟨by rw [hT.out]; rfl, L1.out⟩
  have hd2 : decide (l.ix + (l.n : Int) < i) = false := decide_eq_false c2
  by_cases c3 : i = l.ix
  · have hT : Hid (termF l ps i = (l.tm, 0)) := by show _ = _; rw [HT.out, if_neg c1, if_neg c2, if_pos c3]
    have hd : (i == l.ix) = true := by simpa using c3
    have C3 := Lib.hid c3
    clear c3 c1 c2
    go_wp2_with fail
    go_ret2
    exact ⟨by rw [hT.out]; rfl, L1.out⟩
  have hT : Hid (termF l ps i = ((ps.getD (i - l.ix - 1).toNat (0, 0)).2, 0)) := by show _ = _; rw [HT.out, if_neg c1, if_neg c2, if_neg c3]
  have hd3 : (i == l.ix) = false := by simpa using c3
  obtain ⟨k, hk, hkn⟩ : ∃ k : Nat, (i - l.ix - 1).toNat = k ∧ k < l.n := ⟨_, rfl, by omega⟩
  rw [hk] at hT
  have hat : atN ps i = k := by rw [HO.out.at, hk]; omega
  have HAT := Lib.hid hat
  obtain ⟨bb, off, ea, hc, hdd⟩ := E1.out.at hkn
  rw [ea] at h2
  generalize (ps.getD k (0, 0)).2 = y at *
  clear hc hat hk
  go_upto_region 10 with fail
  clear c1 c2 c3 hd1 hd2 hd3
  have KS : Hid (∀ W, Below w1.heap.size w1 W → W.cell? ⟨b, 2, none⟩ = some (.slice (some ⟨bb, off, none⟩) l.n l.c) ∧ W.cell? ⟨bb, off + k * 13 + 1, none⟩ = some (.int .i64 y) ∧ Below w1.heap.size w1 W) := by
    show ∀ W, _
    intro W h
    exact ⟨(h.cell (cell_block_lt h2)).trans h2, (h.cell (cell_block_lt hdd)).trans hdd, h⟩
  clear h0 h1 h2 hdd
  go_region_held3 (fun W => W.cell? ⟨b, 2, none⟩ = some (.slice (some ⟨bb, off, none⟩) l.n l.c) ∧ W.cell? ⟨bb, off + k * 13 + 1, none⟩ = some (.int .i64 y) ∧ Below w1.heap.size w1 W)
    (first | exact KS.out _ (Below.refl _ _) | exact KS.out _ (by assumption) | exact KS.out _ (held_2 (by assumption)) | exact KS.out _ (Below.refl _ _).drew)
    (first
      | (go_at_call 40; refine (at_from w1 b l ps i _ B1.out E1.out HO.out.small HO.out.up (held_2 (by assumption))).mono ?_; rintro e w' ⟨rfl, hb5⟩; rw [HAT.out]))
  all_goals (
    have HH := Lib.hid hb5
    clear hb5
    rename_i hHeld
    clear hHeld
    go_wp2_with fail
    go_ret2
    exact ⟨by rw [hT.out]; rfl, L1.out.trans (HH.out.mono L1.out.size)⟩)
end Go.Proofs.Ytbgfpmnicpmieaa
